/- The contracts of the tests of Receipts and Late. Written by gen_pick.py. The contracts of Receipts and Late. Written by gen_pick.py. The contract of merge's evidence. -/
import Derived.Test.YtpblfpnldbdncaaGreatDoorG14
namespace Go.Proofs.YtpblfpnldbdncaaGreatDoor
open Go.RowKit Go.Sort Go.Maps
open Sg (Rc)
open Mg (Mst Jd)
set_option linter.unusedVariables false
set_option maxRecDepth 100000
theorem bstr_beq (a b : List UInt8) : ((bstr a).toList == (bstr b).toList) = decide (a = b) := by
  rw [ByteArray.toList_eq, ByteArray.toList_eq, Bool.eq_iff_iff]
  simp [bstr]
theorem soon_any (c : Rc) (hc : RcOk c) (d : List UInt8) (rd : Int) (w : World) (db rb : Nat) (h1 : w.cell? ⟨db, 0, none⟩ = some (.string (bstr d))) (h2 : w.cell? ⟨rb, 0, none⟩ = some (.int .i64 rd)) :
    Calls Tryz.prog 51 #[.agg (rcArr c), .pointer (some ⟨db, 0, none⟩), .pointer (some ⟨rb, 0, none⟩)] w fun e w' => e = .returned (.bool (decide (c.draw = d) && decide (c.seen < rd))) ∧ Below w.heap.size w w' := by
  have hb0 : Below w.heap.size w (w.alloc (.cells (rcArr c) 31)) := (Below.refl _ _).alloc (Nat.le_refl _) _
  have RW := heap_alloc_new w (.cells (rcArr c) 31)
  have y1 := (hb0.cell (p := ⟨db, 0, none⟩) (block_lt_of_cell h1)).trans h1
  have y2 := (hb0.cell (p := ⟨rb, 0, none⟩) (block_lt_of_cell h2)).trans h2
  have x2 := (RcAt.of_row RW).draw
  have x3 := (RcAt.of_row RW).seen
  rw [Nat.zero_add] at x2 x3
  have HB0 := Lib.hid hb0
  clear RW hb0 h1 h2
  by_cases e1 : c.draw = d
  · have E1 := Lib.hid e1
    have t1 : ((bstr c.draw).toList == (bstr d).toList) = true := by rw [bstr_beq, decide_eq_true e1]
    have t2 : (bstr c.draw).toList = (bstr d).toList := by simpa using t1
    clear e1
    go_enter Tryz.func51, Tryz.ntmps51
    go_wp2_with fail
    go_ret
    exact ⟨by rw [decide_eq_true E1.out, Bool.true_and]; rfl, HB0.out⟩
  · have E1 := Lib.hid e1
    have t1 : ((bstr c.draw).toList == (bstr d).toList) = false := by rw [bstr_beq, decide_eq_false e1]
    have t2 : ¬ (bstr c.draw).toList = (bstr d).toList := by simpa using t1
    clear e1
    go_enter Tryz.func51, Tryz.ntmps51
    go_wp2_with fail
    go_ret
    exact ⟨by rw [decide_eq_false E1.out, Bool.false_and]; rfl, HB0.out⟩
theorem late_any (c : Rc) (hc : RcOk c) (d : List UInt8) (rd : Int) (w : World) (db rb : Nat) (h1 : w.cell? ⟨db, 0, none⟩ = some (.string (bstr d))) (h2 : w.cell? ⟨rb, 0, none⟩ = some (.int .i64 rd)) :
    Calls Tryz.prog 53 #[.agg (rcArr c), .pointer (some ⟨db, 0, none⟩), .pointer (some ⟨rb, 0, none⟩)] w fun e w' => e = .returned (.bool (decide (c.draw = d) && decide (rd ≤ c.seen))) ∧ Below w.heap.size w w' := by
  have hb0 : Below w.heap.size w (w.alloc (.cells (rcArr c) 31)) := (Below.refl _ _).alloc (Nat.le_refl _) _
  have RW := heap_alloc_new w (.cells (rcArr c) 31)
  have y1 := (hb0.cell (p := ⟨db, 0, none⟩) (block_lt_of_cell h1)).trans h1
  have y2 := (hb0.cell (p := ⟨rb, 0, none⟩) (block_lt_of_cell h2)).trans h2
  have x2 := (RcAt.of_row RW).draw
  have x3 := (RcAt.of_row RW).seen
  rw [Nat.zero_add] at x2 x3
  have HB0 := Lib.hid hb0
  clear RW hb0 h1 h2
  by_cases e1 : c.draw = d
  · have E1 := Lib.hid e1
    have t1 : ((bstr c.draw).toList == (bstr d).toList) = true := by rw [bstr_beq, decide_eq_true e1]
    have t2 : (bstr c.draw).toList = (bstr d).toList := by simpa using t1
    clear e1
    go_enter Tryz.func53, Tryz.ntmps53
    go_wp2_with fail
    go_ret
    exact ⟨by rw [decide_eq_true E1.out, Bool.true_and]; rfl, HB0.out⟩
  · have E1 := Lib.hid e1
    have t1 : ((bstr c.draw).toList == (bstr d).toList) = false := by rw [bstr_beq, decide_eq_false e1]
    have t2 : ¬ (bstr c.draw).toList = (bstr d).toList := by simpa using t1
    clear e1
    go_enter Tryz.func53, Tryz.ntmps53
    go_wp2_with fail
    go_ret
    exact ⟨by rw [decide_eq_false E1.out, Bool.false_and]; rfl, HB0.out⟩
end Go.Proofs.YtpblfpnldbdncaaGreatDoor
namespace Go.Proofs.YtpblfpnldbdncaaGreatDoor
open Go.RowKit Go.Sort Go.Maps
open Sg (Rc)
open Mg (Mst Jd)
set_option linter.unusedVariables false
set_option maxRecDepth 100000
attribute [local go_sem ↓] wp_alloc_jd
/-- few kiosks -/
def Few (st : Mst) : Prop := ∃ l : List Int, l.length ≤ 9 ∧ ∀ k, (st.pub k).isSome = true → k ∈ l
theorem nodup_le : ∀ (ks l : List Int), ks.Pairwise (· < ·) → (∀ k ∈ ks, k ∈ l) → ks.length ≤ l.length
  | [], l, _, _ => Nat.zero_le _
  | k :: ks, l, hn, hs => by
    obtain ⟨h1, h2⟩ := List.pairwise_cons.1 hn
    have hk : k ∈ l := hs k (by simp)
    have := nodup_le ks (l.erase k) h2 (fun x hx => (List.mem_erase_of_ne (by have := h1 x hx; omega)).2 (hs x (by simp [hx])))
    rw [List.length_erase_of_mem hk] at this
    have hp : 0 < l.length := List.length_pos_of_mem hk
    rw [List.length_cons]
    omega
theorem own_ne_ty {α β : Type} {P : Program} {R : Rk P α} {S : Rk P β} {w : World} {b1 b2 : Nat} {v u : Value} {xs : List α} {ys : List β} (h : OwnsR R w b1 v xs) (h' : OwnsR S w b2 u ys) (hne : R.ty ≠ S.ty) : ∀ b, v.ownBlock = some b → u.ownBlock ≠ some b := by
  intro b hb hb'
  rcases h.2.2 with ⟨rfl, _⟩ | ⟨g, cap, cur, rfl, h1, h2, _⟩
  · cases hb
  · rcases h'.2.2 with ⟨rfl, _⟩ | ⟨g', cap', cur', rfl, h1', h2', _⟩
    · cases hb'
    · have e1 : g = b := by simpa [Value.ownBlock] using hb
      have e2 : g' = b := by simpa [Value.ownBlock] using hb'
      subst e1 e2
      rw [h2] at h2'
      injection h2' with h2'
      injection h2' with _ e
      exact hne e
set_option maxHeartbeats 8000000 in
theorem pick_soon {w : World} {p : Nat} {vp vo vk vc : Value} {st : Mst} {n : Nat} (h : MrgAt w p vp vo vk vc st n) (hn : n ≤ 10000) (d : List UInt8) (rd : Int) (db rb : Nat) (h1 : w.cell? ⟨db, 0, none⟩ = some (.string (bstr d))) (h2 : w.cell? ⟨rb, 0, none⟩ = some (.int .i64 rd)) (hfew : Few st) :
    Calls Tryz.prog 50 #[.pointer (some ⟨p, 0, none⟩), .func (.func 51) #[] #[.pointer (some ⟨db, 0, none⟩), .pointer (some ⟨rb, 0, none⟩)]] w fun e w' => ∃ v ks, e = .returned v ∧ KeysIs (pubF st) ks ∧ OwnsR rcK w' w.heap.size v (ks.flatMap fun k => st.pick rch (fun c => decide (c.draw = d) && decide (c.seen < rd)) k) ∧ Below w.heap.size w w' := by
  obtain ⟨v0, v1, v2, v3⟩ := h.vals
  have HM := Lib.hid h
  have H1 := Lib.hid h1
  have H2 := Lib.hid h2
  have HF := Lib.hid hfew
  have CO := Lib.hid (order_int h.pub hn)
  obtain ⟨tt, htt⟩ : ∃ tt, (fun c : Rc => decide (c.draw = d) && decide (c.seen < rd)) = tt := ⟨_, rfl⟩
  rw [htt]
  have HTT := Lib.hid htt
  clear v1 v2 v3 h h1 h2 hfew htt
  go_enter Tryz.func50, Tryz.ntmps50
  go_wp2_with fail
  refine CO.out.mono ?_
  rintro e w1 ⟨v16, ks, rfl, q1, q2, q3, q4⟩
  obtain ⟨K, hK⟩ : ∃ K, ks.length = K := ⟨_, rfl⟩
  have HKL := Lib.hid hK
  have FK : K ≤ 9 := by
    obtain ⟨l, l1, l2⟩ := HF.out
    have := nodup_le _ _ q1.1 (fun k hk => l2 k (by
      have := ((q1.2 k).1 hk).2
      unfold pubF at this
      rwa [Option.isSome_map] at this))
    omega
  have LK : Hid (LiesR intK w1 v16 ks) := q2.lies
  obtain ⟨ao, cap, hv⟩ : ∃ ao cap, v16 = .slice ao K cap := by
    obtain ⟨ao, cap, h | h⟩ := LK.out.slice hK
    · exact ⟨ao, cap, h.1⟩
    · exact ⟨ao, cap, h.1⟩
  subst hv
  have Q1 := Lib.hid q1
  have BW1 := Lib.hid q4
  clear q1 q2 q3 q4 hK CO v0
  go_wp2_with fail
  go_loopw [5, 7, 9, 18] (fun v5 _ _ v18 wx => ∃ i : Nat, i ≤ K ∧ v18 = .int .i64 i ∧ OwnsR rcK wx w1.heap.size v5 ((ks.take i).flatMap fun k => st.pick rch tt k) ∧ ((ks.take i).flatMap fun k => st.pick rch tt k).length ≤ i * 10000 ∧ Below w1.heap.size w1 wx) (fun _ _ _ v18 _ => K - (intOf v18).toNat)
  case atStart => exact ⟨0, Nat.zero_le _, rfl, OwnsR.nil _ _ _, by simp, Below.refl _ _⟩
  case round =>
    obtain ⟨i, hi, rfl, ho, hlen, hb⟩ := hrel
    have HO := Lib.hid ho
    have HLEN := Lib.hid hlen
    have HB1 := Lib.hid hb
    have HBW := Lib.hid (BW1.out.trans (hb.mono BW1.out.size))
    have LKX := Lib.hid (LK.out.below hb)
    clear ho hb hlen
    by_cases hlt : i < K
    · have di : decide ((i : Int) < (K : Int)) = true := by simpa using hlt
      obtain ⟨k, hk⟩ : ∃ k, ks[i]? = some k := ⟨ks[i]'(by rw [HKL.out]; exact hlt), List.getElem?_eq_getElem _⟩
      have htake : ks.take (i + 1) = ks.take i ++ [k] := by rw [List.take_add_one, hk]; rfl
      have HTK := Lib.hid htake
      obtain ⟨g, o, cap', e1, cl, gl, rg, kok⟩ := LKX.out.at hk
      injection e1 with e1 e2 e3
      subst e1 e3
      clear e2
      have KOK : Hid (I64 k) := kok
      have CS : wr.cell? ⟨g, o + i, none⟩ = some (.int .i64 k) := by
        have := rg 0 _ rfl
        rw [show o + i * intK.size + 0 = o + i by show o + i * 1 + 0 = _; omega] at this
        exact this
      have CJ := Lib.hid (judge_any (HM.out.below HBW.out) k KOK.out hn)
      clear hk htake gl rg kok
      go_wp2_with fail
      refine CJ.out.mono ?_
      rintro e w6 ⟨v24, rfl, j1, j2, j3⟩
      obtain ⟨J, hJ⟩ : ∃ J, st.judged rch k = J := ⟨_, rfl⟩
      rw [hJ] at j1 j3
      have HJ := Lib.hid hJ
      obtain ⟨NJ, hNJ⟩ : ∃ NJ, J.length = NJ := ⟨_, rfl⟩
      have HNJ := Lib.hid hNJ
      rw [hNJ] at j3
      obtain ⟨ao6, cap6, hv⟩ : ∃ ao6 cap6, v24 = .slice ao6 NJ cap6 := by
        obtain ⟨ao6, cap6, h | h⟩ := j1.lies.slice hNJ
        · exact ⟨ao6, cap6, h.1⟩
        · exact ⟨ao6, cap6, h.1⟩
      subst hv
      have OJ := Lib.hid (j1.mono (HB1.out.size))
      have HO6 := Lib.hid (HO.out.below j2)
      have HB6 := Lib.hid (HB1.out.trans (j2.mono HB1.out.size))
      obtain ⟨L0, hL0⟩ : ∃ L0, ((ks.take i).flatMap fun k => st.pick rch tt k) = L0 := ⟨_, rfl⟩
      rw [hL0] at HO6 HLEN
      have HL0 := Lib.hid hL0
      clear j1 j2 hJ hNJ CS CJ HB1 HBW LKX
      go_wp2_with fail
      go_loopw [5, 9, 26] (fun v5 _ v26 wx => ∃ j : Nat, j ≤ NJ ∧ v26 = .int .i64 j ∧ OwnsR rcK wx w1.heap.size v5 (L0 ++ ((J.take j).filter fun j => j.counts && tt j.rc).map fun j => j.rc) ∧ OwnsR jdK wx w1.heap.size (.slice ao6 NJ cap6) J ∧ Below w1.heap.size w1 wx) (fun _ _ v26 _ => NJ - (intOf v26).toNat)
      case atStart => exact ⟨0, Nat.zero_le _, rfl, by simpa using HO6.out, OJ.out, HB6.out⟩
      case round =>
        clear HO6 OJ HB6
        obtain ⟨j, hj, rfl, ho, hoj, hb⟩ := hrel
        have HO := Lib.hid ho
        have OJ := Lib.hid hoj
        have HB := Lib.hid hb
        have HBW := Lib.hid (BW1.out.trans (hb.mono BW1.out.size))
        clear ho hoj hb
        by_cases hlj : j < NJ
        · have di : decide ((j : Int) < (NJ : Int)) = true := by simpa using hlj
          obtain ⟨x, hx⟩ : ∃ x, J[j]? = some x := ⟨J[j]'(by rw [HNJ.out]; exact hlj), List.getElem?_eq_getElem _⟩
          have htake : J.take (j + 1) = J.take j ++ [x] := by rw [List.take_add_one, hx]; rfl
          have HTJ := Lib.hid htake
          obtain ⟨g6, o6, cp6, e1, cl, gl, rg, xok⟩ := OJ.out.lies.at hx
          injection e1 with e1 e2 e3
          subst e1 e3
          clear e2
          have XOK : Hid (JdOk x) := xok
          have RC : Hid (wr.rangeAt g6 (o6 + j * 137) (jdList x)) := rg
          have E3 := Lib.hid (World.setRow_alloc_new wr (jdArr jd0) (jdArr x) 107)
          have F3 := Lib.hid (heap_alloc_new wr (.cells (jdArr jd0) 107))
          have F4 := Lib.hid (jd_range (heap_alloc_new wr (.cells (jdArr x) 107)))
          have RI := Lib.hid (jd_info XOK.out)
          have RS := Lib.hid (show (jdArr jd0).size = (jdArr x).size by rw [jdArr_size jd0_ok, jdArr_size XOK.out])
          have BZ : Hid (Below wr.heap.size wr (wr.alloc (.cells (jdArr x) 107))) := (Below.refl _ _).alloc (Nat.le_refl _) _
          clear hx htake rg gl cl xok
          go_upto_region 10 with (first
            | (refine wpList_load_j rfl (.tmp 28) rfl g6 (o6 + j * 137) rfl XOK.out RC.out ?_)
            | (refine wpList_store_row rfl 107 (.tmp 9) (.tmp 29) rfl wr.heap.size (jdArr x) rfl rfl 107 _ F3.out RI.out RS.out (jdArr_one x) ?_; rw [E3.out]; simp only [Act.put]))
          obtain ⟨q, hq⟩ : ∃ q, wr.heap.size = q := ⟨_, rfl⟩
          rw [hq] at F4
          rw [hq]
          generalize wr.alloc (.cells (jdArr x) 107) = W3 at *
          have y0 := F4.out 136 _ (jd_get XOK.out).2.2
          rw [Nat.zero_add] at y0
          have RCQ : Hid (RcAt W3 q 0 x.rc) := jd_rcAt F4.out
          have LTQ : Hid (q < W3.heap.size) := block_lt_of_cell y0
          have HO3 := Lib.hid (HO.out.below BZ.out)
          have OJ3 := Lib.hid (OJ.out.below BZ.out)
          have HB3 := Lib.hid (HB.out.trans (BZ.out.mono HB.out.size))
          have HBW3 := Lib.hid (HBW.out.trans (BZ.out.mono HBW.out.size))
          have CT : Hid (Calls Tryz.prog 51 #[.agg (rcArr x.rc), .pointer (some ⟨db, 0, none⟩), .pointer (some ⟨rb, 0, none⟩)] W3 fun e w' => e = .returned (.bool (tt x.rc)) ∧ Below W3.heap.size W3 w') := by
            rw [← HTT.out]
            exact soon_any x.rc XOK.out.rc d rd W3 db rb ((HBW3.out.cell (p := ⟨db, 0, none⟩) (block_lt_of_cell H1.out)).trans H1.out) ((HBW3.out.cell (p := ⟨rb, 0, none⟩) (block_lt_of_cell H2.out)).trans H2.out)
          clear E3 F3 RI RS hq RC F4 HO OJ HB HBW BZ
          obtain ⟨bc, hbc⟩ : ∃ bc, x.counts = bc := ⟨_, rfl⟩
          rw [hbc] at y0
          have HBC := Lib.hid hbc
          obtain ⟨bt, hbt⟩ : ∃ bt, tt x.rc = bt := ⟨_, rfl⟩
          rw [hbt] at CT
          have HBT := Lib.hid hbt
          clear hbc hbt
          have FL : Hid (((J.take (j + 1)).filter fun j => j.counts && tt j.rc).map (fun j => j.rc) = ((J.take j).filter fun j => j.counts && tt j.rc).map (fun j => j.rc) ++ if bc && bt then [x.rc] else []) := by
            show _ = _
            rw [HTJ.out, List.filter_append, List.map_append]
            congr 1
            rw [List.filter_cons, HBC.out, HBT.out]
            cases bc <;> cases bt <;> rfl
          cases bc
          · go_wp2_with fail
            exact ⟨⟨j + 1, hlj, rfl, by rw [FL.out]; simpa using HO3.out, OJ3.out, HB3.out⟩, by simp [intOf]; omega⟩
          · go_wp2_with (refine wpList_load_cg (by rfl) (.tmp 35) rfl q 0 rfl XOK.out.rc RCQ.out ?_)
            refine CT.out.mono ?_
            rintro e w7 ⟨rfl, hb7⟩
            have HO7 := Lib.hid (HO3.out.below hb7)
            have OJ7 := Lib.hid (OJ3.out.below hb7)
            have HB7 := Lib.hid (HB3.out.trans (hb7.mono HB3.out.size))
            have RCQ7 := Lib.hid (RCQ.out.below LTQ.out hb7)
            clear hb7 y0 HO3 OJ3 HB3 HBW3
            cases bt
            · go_wp2_with fail
              exact ⟨⟨j + 1, hlj, rfl, by rw [FL.out]; simpa using HO7.out, OJ7.out, HB7.out⟩, by simp [intOf]; omega⟩
            · have bz : Below w7.heap.size w7 (w7.alloc (.cells (rcK.enc x.rc).toArray rcK.ty)) := (Below.refl _ _).alloc (Nat.le_refl _) _
              have OZ := Lib.hid (HO7.out.below bz)
              have JZ := Lib.hid (OJ7.out.below bz)
              have BZ := Lib.hid (HB7.out.trans (bz.mono HB7.out.size))
              have NZ := Lib.hid (heap_alloc_new w7 (.cells (rcK.enc x.rc).toArray rcK.ty))
              obtain ⟨L1, hL1⟩ : ∃ L1, L0 ++ ((J.take j).filter fun j => j.counts && tt j.rc).map (fun j => j.rc) = L1 := ⟨_, rfl⟩
              rw [hL1] at OZ
              have HL1 := Lib.hid hL1
              have LZ : Hid (L1.length ≤ 100000) := by
                show _ ≤ _
                rw [← hL1, List.length_append, List.length_map]
                have h1 := List.length_filter_le (fun j : Jd => j.counts && tt j.rc) (J.take j)
                have h2 : (J.take j).length ≤ J.length := List.length_take_le' j J
                have h3 := HLEN.out
                have h4 := HNJ.out
                have h5 : i * 10000 ≤ 8 * 10000 := Nat.mul_le_mul_right _ (by omega)
                omega
              clear bz HO7 OJ7 HB7 hL1
              go_wp2_with (first
                | (refine wpList_load_c rfl (.tmp 41) rfl q 0 rfl XOK.out.rc RCQ7.out ?_)
                | (refine wpList_build_r rcK rfl (.tmp 42) rfl XOK.out.rc (.agg (rcArr x.rc)) rfl rfl ?_)
                | (at_builtin; refine wpList_append_r rcK rfl (.tmp 39) (.tmp 43) rfl w1.heap.size u5 L1 x.rc w7.heap.size rfl rfl OZ.out XOK.out.rc NZ.out LZ.out BZ.out.size ?_; intro v5' w8 hown8 hg8))
              refine ⟨⟨j + 1, hlj, rfl, ?_, JZ.out.grown hg8 (own_ne_ty JZ.out OZ.out (by decide)), BZ.out.grown hg8 BZ.out.size (fun b e => (OZ.out.base_le b e).1)⟩, by simp [intOf]; omega⟩
              rw [FL.out, ← List.append_assoc, HL1.out]
              exact hown8
        · have ej : j = NJ := by omega
          have ET := Lib.hid (show J.take j = J by rw [ej, ← HNJ.out]; exact List.take_length)
          have dj : decide ((j : Int) < (NJ : Int)) = false := by simp; omega
          have dk : decide (j < NJ) = false := by simp; omega
          have PK : Hid (((ks.take (i + 1)).flatMap fun k => st.pick rch tt k) = L0 ++ ((J.take j).filter fun j => j.counts && tt j.rc).map fun j => j.rc) := by
            show _ = _
            rw [HTK.out, List.flatMap_append, HL0.out, ET.out]
            simp [Mst.pick, HJ.out]
          have PL : Hid (((ks.take (i + 1)).flatMap fun k => st.pick rch tt k).length ≤ (i + 1) * 10000) := by
            show _ ≤ _
            rw [PK.out, List.length_append, List.length_map]
            have h1 := List.length_filter_le (fun j : Jd => j.counts && tt j.rc) (J.take j)
            have h2 : (J.take j).length ≤ J.length := List.length_take_le' j J
            have h3 := HLEN.out
            have h4 := HNJ.out
            omega
          clear ej
          go_wp2_with fail
          exact ⟨⟨i + 1, hlt, rfl, by rw [PK.out]; exact HO.out, PL.out, HB.out⟩, by simp [intOf]; omega⟩
    · have ei : i = K := by omega
      have ET := Lib.hid (show ks.take i = ks by rw [ei, ← HKL.out]; exact List.take_length)
      have di : decide ((i : Int) < (K : Int)) = false := by simp; omega
      have dj : decide (i < K) = false := by simp; omega
      have WS := Lib.hid BW1.out.size
      clear ei
      go_wp2_with fail
      go_ret
      exact ⟨_, ks, rfl, Q1.out, by have := HO.out.mono WS.out; rwa [ET.out] at this, HBW.out⟩
set_option maxHeartbeats 8000000 in
theorem pick_late {w : World} {p : Nat} {vp vo vk vc : Value} {st : Mst} {n : Nat} (h : MrgAt w p vp vo vk vc st n) (hn : n ≤ 10000) (d : List UInt8) (rd : Int) (db rb : Nat) (h1 : w.cell? ⟨db, 0, none⟩ = some (.string (bstr d))) (h2 : w.cell? ⟨rb, 0, none⟩ = some (.int .i64 rd)) (hfew : Few st) :
    Calls Tryz.prog 50 #[.pointer (some ⟨p, 0, none⟩), .func (.func 53) #[] #[.pointer (some ⟨db, 0, none⟩), .pointer (some ⟨rb, 0, none⟩)]] w fun e w' => ∃ v ks, e = .returned v ∧ KeysIs (pubF st) ks ∧ OwnsR rcK w' w.heap.size v (ks.flatMap fun k => st.pick rch (fun c => decide (c.draw = d) && decide (rd ≤ c.seen)) k) ∧ Below w.heap.size w w' := by
  obtain ⟨v0, v1, v2, v3⟩ := h.vals
  have HM := Lib.hid h
  have H1 := Lib.hid h1
  have H2 := Lib.hid h2
  have HF := Lib.hid hfew
  have CO := Lib.hid (order_int h.pub hn)
  obtain ⟨tt, htt⟩ : ∃ tt, (fun c : Rc => decide (c.draw = d) && decide (rd ≤ c.seen)) = tt := ⟨_, rfl⟩
  rw [htt]
  have HTT := Lib.hid htt
  clear v1 v2 v3 h h1 h2 hfew htt
  go_enter Tryz.func50, Tryz.ntmps50
  go_wp2_with fail
  refine CO.out.mono ?_
  rintro e w1 ⟨v16, ks, rfl, q1, q2, q3, q4⟩
  obtain ⟨K, hK⟩ : ∃ K, ks.length = K := ⟨_, rfl⟩
  have HKL := Lib.hid hK
  have FK : K ≤ 9 := by
    obtain ⟨l, l1, l2⟩ := HF.out
    have := nodup_le _ _ q1.1 (fun k hk => l2 k (by
      have := ((q1.2 k).1 hk).2
      unfold pubF at this
      rwa [Option.isSome_map] at this))
    omega
  have LK : Hid (LiesR intK w1 v16 ks) := q2.lies
  obtain ⟨ao, cap, hv⟩ : ∃ ao cap, v16 = .slice ao K cap := by
    obtain ⟨ao, cap, h | h⟩ := LK.out.slice hK
    · exact ⟨ao, cap, h.1⟩
    · exact ⟨ao, cap, h.1⟩
  subst hv
  have Q1 := Lib.hid q1
  have BW1 := Lib.hid q4
  clear q1 q2 q3 q4 hK CO v0
  go_wp2_with fail
  go_loopw [5, 7, 9, 18] (fun v5 _ _ v18 wx => ∃ i : Nat, i ≤ K ∧ v18 = .int .i64 i ∧ OwnsR rcK wx w1.heap.size v5 ((ks.take i).flatMap fun k => st.pick rch tt k) ∧ ((ks.take i).flatMap fun k => st.pick rch tt k).length ≤ i * 10000 ∧ Below w1.heap.size w1 wx) (fun _ _ _ v18 _ => K - (intOf v18).toNat)
  case atStart => exact ⟨0, Nat.zero_le _, rfl, OwnsR.nil _ _ _, by simp, Below.refl _ _⟩
  case round =>
    obtain ⟨i, hi, rfl, ho, hlen, hb⟩ := hrel
    have HO := Lib.hid ho
    have HLEN := Lib.hid hlen
    have HB1 := Lib.hid hb
    have HBW := Lib.hid (BW1.out.trans (hb.mono BW1.out.size))
    have LKX := Lib.hid (LK.out.below hb)
    clear ho hb hlen
    by_cases hlt : i < K
    · have di : decide ((i : Int) < (K : Int)) = true := by simpa using hlt
      obtain ⟨k, hk⟩ : ∃ k, ks[i]? = some k := ⟨ks[i]'(by rw [HKL.out]; exact hlt), List.getElem?_eq_getElem _⟩
      have htake : ks.take (i + 1) = ks.take i ++ [k] := by rw [List.take_add_one, hk]; rfl
      have HTK := Lib.hid htake
      obtain ⟨g, o, cap', e1, cl, gl, rg, kok⟩ := LKX.out.at hk
      injection e1 with e1 e2 e3
      subst e1 e3
      clear e2
      have KOK : Hid (I64 k) := kok
      have CS : wr.cell? ⟨g, o + i, none⟩ = some (.int .i64 k) := by
        have := rg 0 _ rfl
        rw [show o + i * intK.size + 0 = o + i by show o + i * 1 + 0 = _; omega] at this
        exact this
      have CJ := Lib.hid (judge_any (HM.out.below HBW.out) k KOK.out hn)
      clear hk htake gl rg kok
      go_wp2_with fail
      refine CJ.out.mono ?_
      rintro e w6 ⟨v24, rfl, j1, j2, j3⟩
      obtain ⟨J, hJ⟩ : ∃ J, st.judged rch k = J := ⟨_, rfl⟩
      rw [hJ] at j1 j3
      have HJ := Lib.hid hJ
      obtain ⟨NJ, hNJ⟩ : ∃ NJ, J.length = NJ := ⟨_, rfl⟩
      have HNJ := Lib.hid hNJ
      rw [hNJ] at j3
      obtain ⟨ao6, cap6, hv⟩ : ∃ ao6 cap6, v24 = .slice ao6 NJ cap6 := by
        obtain ⟨ao6, cap6, h | h⟩ := j1.lies.slice hNJ
        · exact ⟨ao6, cap6, h.1⟩
        · exact ⟨ao6, cap6, h.1⟩
      subst hv
      have OJ := Lib.hid (j1.mono (HB1.out.size))
      have HO6 := Lib.hid (HO.out.below j2)
      have HB6 := Lib.hid (HB1.out.trans (j2.mono HB1.out.size))
      obtain ⟨L0, hL0⟩ : ∃ L0, ((ks.take i).flatMap fun k => st.pick rch tt k) = L0 := ⟨_, rfl⟩
      rw [hL0] at HO6 HLEN
      have HL0 := Lib.hid hL0
      clear j1 j2 hJ hNJ CS CJ HB1 HBW LKX
      go_wp2_with fail
      go_loopw [5, 9, 26] (fun v5 _ v26 wx => ∃ j : Nat, j ≤ NJ ∧ v26 = .int .i64 j ∧ OwnsR rcK wx w1.heap.size v5 (L0 ++ ((J.take j).filter fun j => j.counts && tt j.rc).map fun j => j.rc) ∧ OwnsR jdK wx w1.heap.size (.slice ao6 NJ cap6) J ∧ Below w1.heap.size w1 wx) (fun _ _ v26 _ => NJ - (intOf v26).toNat)
      case atStart => exact ⟨0, Nat.zero_le _, rfl, by simpa using HO6.out, OJ.out, HB6.out⟩
      case round =>
        clear HO6 OJ HB6
        obtain ⟨j, hj, rfl, ho, hoj, hb⟩ := hrel
        have HO := Lib.hid ho
        have OJ := Lib.hid hoj
        have HB := Lib.hid hb
        have HBW := Lib.hid (BW1.out.trans (hb.mono BW1.out.size))
        clear ho hoj hb
        by_cases hlj : j < NJ
        · have di : decide ((j : Int) < (NJ : Int)) = true := by simpa using hlj
          obtain ⟨x, hx⟩ : ∃ x, J[j]? = some x := ⟨J[j]'(by rw [HNJ.out]; exact hlj), List.getElem?_eq_getElem _⟩
          have htake : J.take (j + 1) = J.take j ++ [x] := by rw [List.take_add_one, hx]; rfl
          have HTJ := Lib.hid htake
          obtain ⟨g6, o6, cp6, e1, cl, gl, rg, xok⟩ := OJ.out.lies.at hx
          injection e1 with e1 e2 e3
          subst e1 e3
          clear e2
          have XOK : Hid (JdOk x) := xok
          have RC : Hid (wr.rangeAt g6 (o6 + j * 137) (jdList x)) := rg
          have E3 := Lib.hid (World.setRow_alloc_new wr (jdArr jd0) (jdArr x) 107)
          have F3 := Lib.hid (heap_alloc_new wr (.cells (jdArr jd0) 107))
          have F4 := Lib.hid (jd_range (heap_alloc_new wr (.cells (jdArr x) 107)))
          have RI := Lib.hid (jd_info XOK.out)
          have RS := Lib.hid (show (jdArr jd0).size = (jdArr x).size by rw [jdArr_size jd0_ok, jdArr_size XOK.out])
          have BZ : Hid (Below wr.heap.size wr (wr.alloc (.cells (jdArr x) 107))) := (Below.refl _ _).alloc (Nat.le_refl _) _
          clear hx htake rg gl cl xok
          go_upto_region 10 with (first
            | (refine wpList_load_j rfl (.tmp 28) rfl g6 (o6 + j * 137) rfl XOK.out RC.out ?_)
            | (refine wpList_store_row rfl 107 (.tmp 9) (.tmp 29) rfl wr.heap.size (jdArr x) rfl rfl 107 _ F3.out RI.out RS.out (jdArr_one x) ?_; rw [E3.out]; simp only [Act.put]))
          obtain ⟨q, hq⟩ : ∃ q, wr.heap.size = q := ⟨_, rfl⟩
          rw [hq] at F4
          rw [hq]
          generalize wr.alloc (.cells (jdArr x) 107) = W3 at *
          have y0 := F4.out 136 _ (jd_get XOK.out).2.2
          rw [Nat.zero_add] at y0
          have RCQ : Hid (RcAt W3 q 0 x.rc) := jd_rcAt F4.out
          have LTQ : Hid (q < W3.heap.size) := block_lt_of_cell y0
          have HO3 := Lib.hid (HO.out.below BZ.out)
          have OJ3 := Lib.hid (OJ.out.below BZ.out)
          have HB3 := Lib.hid (HB.out.trans (BZ.out.mono HB.out.size))
          have HBW3 := Lib.hid (HBW.out.trans (BZ.out.mono HBW.out.size))
          have CT : Hid (Calls Tryz.prog 53 #[.agg (rcArr x.rc), .pointer (some ⟨db, 0, none⟩), .pointer (some ⟨rb, 0, none⟩)] W3 fun e w' => e = .returned (.bool (tt x.rc)) ∧ Below W3.heap.size W3 w') := by
            rw [← HTT.out]
            exact late_any x.rc XOK.out.rc d rd W3 db rb ((HBW3.out.cell (p := ⟨db, 0, none⟩) (block_lt_of_cell H1.out)).trans H1.out) ((HBW3.out.cell (p := ⟨rb, 0, none⟩) (block_lt_of_cell H2.out)).trans H2.out)
          clear E3 F3 RI RS hq RC F4 HO OJ HB HBW BZ
          obtain ⟨bc, hbc⟩ : ∃ bc, x.counts = bc := ⟨_, rfl⟩
          rw [hbc] at y0
          have HBC := Lib.hid hbc
          obtain ⟨bt, hbt⟩ : ∃ bt, tt x.rc = bt := ⟨_, rfl⟩
          rw [hbt] at CT
          have HBT := Lib.hid hbt
          clear hbc hbt
          have FL : Hid (((J.take (j + 1)).filter fun j => j.counts && tt j.rc).map (fun j => j.rc) = ((J.take j).filter fun j => j.counts && tt j.rc).map (fun j => j.rc) ++ if bc && bt then [x.rc] else []) := by
            show _ = _
            rw [HTJ.out, List.filter_append, List.map_append]
            congr 1
            rw [List.filter_cons, HBC.out, HBT.out]
            cases bc <;> cases bt <;> rfl
          cases bc
          · go_wp2_with fail
            exact ⟨⟨j + 1, hlj, rfl, by rw [FL.out]; simpa using HO3.out, OJ3.out, HB3.out⟩, by simp [intOf]; omega⟩
          · go_wp2_with (refine wpList_load_cg (by rfl) (.tmp 35) rfl q 0 rfl XOK.out.rc RCQ.out ?_)
            refine CT.out.mono ?_
            rintro e w7 ⟨rfl, hb7⟩
            have HO7 := Lib.hid (HO3.out.below hb7)
            have OJ7 := Lib.hid (OJ3.out.below hb7)
            have HB7 := Lib.hid (HB3.out.trans (hb7.mono HB3.out.size))
            have RCQ7 := Lib.hid (RCQ.out.below LTQ.out hb7)
            clear hb7 y0 HO3 OJ3 HB3 HBW3
            cases bt
            · go_wp2_with fail
              exact ⟨⟨j + 1, hlj, rfl, by rw [FL.out]; simpa using HO7.out, OJ7.out, HB7.out⟩, by simp [intOf]; omega⟩
            · have bz : Below w7.heap.size w7 (w7.alloc (.cells (rcK.enc x.rc).toArray rcK.ty)) := (Below.refl _ _).alloc (Nat.le_refl _) _
              have OZ := Lib.hid (HO7.out.below bz)
              have JZ := Lib.hid (OJ7.out.below bz)
              have BZ := Lib.hid (HB7.out.trans (bz.mono HB7.out.size))
              have NZ := Lib.hid (heap_alloc_new w7 (.cells (rcK.enc x.rc).toArray rcK.ty))
              obtain ⟨L1, hL1⟩ : ∃ L1, L0 ++ ((J.take j).filter fun j => j.counts && tt j.rc).map (fun j => j.rc) = L1 := ⟨_, rfl⟩
              rw [hL1] at OZ
              have HL1 := Lib.hid hL1
              have LZ : Hid (L1.length ≤ 100000) := by
                show _ ≤ _
                rw [← hL1, List.length_append, List.length_map]
                have h1 := List.length_filter_le (fun j : Jd => j.counts && tt j.rc) (J.take j)
                have h2 : (J.take j).length ≤ J.length := List.length_take_le' j J
                have h3 := HLEN.out
                have h4 := HNJ.out
                have h5 : i * 10000 ≤ 8 * 10000 := Nat.mul_le_mul_right _ (by omega)
                omega
              clear bz HO7 OJ7 HB7 hL1
              go_wp2_with (first
                | (refine wpList_load_c rfl (.tmp 41) rfl q 0 rfl XOK.out.rc RCQ7.out ?_)
                | (refine wpList_build_r rcK rfl (.tmp 42) rfl XOK.out.rc (.agg (rcArr x.rc)) rfl rfl ?_)
                | (at_builtin; refine wpList_append_r rcK rfl (.tmp 39) (.tmp 43) rfl w1.heap.size u5 L1 x.rc w7.heap.size rfl rfl OZ.out XOK.out.rc NZ.out LZ.out BZ.out.size ?_; intro v5' w8 hown8 hg8))
              refine ⟨⟨j + 1, hlj, rfl, ?_, JZ.out.grown hg8 (own_ne_ty JZ.out OZ.out (by decide)), BZ.out.grown hg8 BZ.out.size (fun b e => (OZ.out.base_le b e).1)⟩, by simp [intOf]; omega⟩
              rw [FL.out, ← List.append_assoc, HL1.out]
              exact hown8
        · have ej : j = NJ := by omega
          have ET := Lib.hid (show J.take j = J by rw [ej, ← HNJ.out]; exact List.take_length)
          have dj : decide ((j : Int) < (NJ : Int)) = false := by simp; omega
          have dk : decide (j < NJ) = false := by simp; omega
          have PK : Hid (((ks.take (i + 1)).flatMap fun k => st.pick rch tt k) = L0 ++ ((J.take j).filter fun j => j.counts && tt j.rc).map fun j => j.rc) := by
            show _ = _
            rw [HTK.out, List.flatMap_append, HL0.out, ET.out]
            simp [Mst.pick, HJ.out]
          have PL : Hid (((ks.take (i + 1)).flatMap fun k => st.pick rch tt k).length ≤ (i + 1) * 10000) := by
            show _ ≤ _
            rw [PK.out, List.length_append, List.length_map]
            have h1 := List.length_filter_le (fun j : Jd => j.counts && tt j.rc) (J.take j)
            have h2 : (J.take j).length ≤ J.length := List.length_take_le' j J
            have h3 := HLEN.out
            have h4 := HNJ.out
            omega
          clear ej
          go_wp2_with fail
          exact ⟨⟨i + 1, hlt, rfl, by rw [PK.out]; exact HO.out, PL.out, HB.out⟩, by simp [intOf]; omega⟩
    · have ei : i = K := by omega
      have ET := Lib.hid (show ks.take i = ks by rw [ei, ← HKL.out]; exact List.take_length)
      have di : decide ((i : Int) < (K : Int)) = false := by simp; omega
      have dj : decide (i < K) = false := by simp; omega
      have WS := Lib.hid BW1.out.size
      clear ei
      go_wp2_with fail
      go_ret
      exact ⟨_, ks, rfl, Q1.out, by have := HO.out.mono WS.out; rwa [ET.out] at this, HBW.out⟩
set_option maxHeartbeats 4000000 in
theorem receipts_any {w : World} {p : Nat} {vp vo vk vc : Value} {st : Mst} {n : Nat} (h : MrgAt w p vp vo vk vc st n) (hn : n ≤ 10000) (d : List UInt8) (rd : Int) (hfew : Few st) :
    Calls Tryz.prog 21 #[.pointer (some ⟨p, 0, none⟩), .string (bstr d), .int .i64 rd] w fun e w' => ∃ v ks, e = .returned v ∧ KeysIs (pubF st) ks ∧ OwnsR rcK w' w.heap.size v (ks.flatMap fun k => st.pick rch (fun c => decide (c.draw = d) && decide (c.seen < rd)) k) ∧ Below w.heap.size w w' := by
  have b0 : Below w.heap.size w ((w.alloc (.cells #[.string (bstr d)] 9)).alloc (.cells #[.int .i64 rd] 3)) := ((Below.refl _ _).alloc (Nat.le_refl _) _).alloc (by simp) _
  have R1 := heap_alloc2_old w (.cells #[.string (bstr d)] 9) (.cells #[.int .i64 rd] 3)
  have R2 := heap_alloc2_new w (.cells #[.string (bstr d)] 9) (.cells #[.int .i64 rd] 3)
  have CP := Lib.hid (pick_soon (h.below b0) hn d rd w.heap.size (w.heap.size + 1) ((cell_of_row _ _ 0 _ _ _ R1).trans rfl) ((cell_of_row _ _ 0 _ _ _ R2).trans rfl) hfew)
  have HB0 := Lib.hid b0
  have hmf : ∀ (fn : Fn) (first cap : Array Value) (w : World), (Instr.makeFunc fn first cap).run Tryz.prog w = .ok (.func fn first cap) w := fun _ _ _ _ => rfl
  obtain ⟨tt, htt⟩ : ∃ tt, (fun c : Rc => decide (c.draw = d) && decide (c.seen < rd)) = tt := ⟨_, rfl⟩
  rw [htt] at CP ⊢
  clear R1 R2 b0 h hfew htt
  go_enter Tryz.func21, Tryz.ntmps21
  go_wp2_with fail
  refine CP.out.mono ?_
  rintro e w1 ⟨v, ks, rfl, q1, q2, q3⟩
  go_wp2_with fail
  go_ret
  exact ⟨v, ks, rfl, q1, q2.mono HB0.out.size, HB0.out.trans (q3.mono HB0.out.size)⟩
set_option maxHeartbeats 4000000 in
theorem lates_any {w : World} {p : Nat} {vp vo vk vc : Value} {st : Mst} {n : Nat} (h : MrgAt w p vp vo vk vc st n) (hn : n ≤ 10000) (d : List UInt8) (rd : Int) (hfew : Few st) :
    Calls Tryz.prog 25 #[.pointer (some ⟨p, 0, none⟩), .string (bstr d), .int .i64 rd] w fun e w' => ∃ v ks, e = .returned v ∧ KeysIs (pubF st) ks ∧ OwnsR rcK w' w.heap.size v (ks.flatMap fun k => st.pick rch (fun c => decide (c.draw = d) && decide (rd ≤ c.seen)) k) ∧ Below w.heap.size w w' := by
  have b0 : Below w.heap.size w ((w.alloc (.cells #[.string (bstr d)] 9)).alloc (.cells #[.int .i64 rd] 3)) := ((Below.refl _ _).alloc (Nat.le_refl _) _).alloc (by simp) _
  have R1 := heap_alloc2_old w (.cells #[.string (bstr d)] 9) (.cells #[.int .i64 rd] 3)
  have R2 := heap_alloc2_new w (.cells #[.string (bstr d)] 9) (.cells #[.int .i64 rd] 3)
  have CP := Lib.hid (pick_late (h.below b0) hn d rd w.heap.size (w.heap.size + 1) ((cell_of_row _ _ 0 _ _ _ R1).trans rfl) ((cell_of_row _ _ 0 _ _ _ R2).trans rfl) hfew)
  have HB0 := Lib.hid b0
  have hmf : ∀ (fn : Fn) (first cap : Array Value) (w : World), (Instr.makeFunc fn first cap).run Tryz.prog w = .ok (.func fn first cap) w := fun _ _ _ _ => rfl
  obtain ⟨tt, htt⟩ : ∃ tt, (fun c : Rc => decide (c.draw = d) && decide (rd ≤ c.seen)) = tt := ⟨_, rfl⟩
  rw [htt] at CP ⊢
  clear R1 R2 b0 h hfew htt
  go_enter Tryz.func25, Tryz.ntmps25
  go_wp2_with fail
  refine CP.out.mono ?_
  rintro e w1 ⟨v, ks, rfl, q1, q2, q3⟩
  go_wp2_with fail
  go_ret
  exact ⟨v, ks, rfl, q1, q2.mono HB0.out.size, HB0.out.trans (q3.mono HB0.out.size)⟩
end Go.Proofs.YtpblfpnldbdncaaGreatDoor
namespace Go.Proofs.YtpblfpnldbdncaaGreatDoor
open Go.RowKit Go.Sort Go.Maps
open Sg (Rc)
open Mg (Mst Jd)
set_option linter.unusedVariables false
set_option maxRecDepth 100000
attribute [local go_sem ↓] wp_alloc_rc
/-- evidence: its kind, who, and two texts -/
structure Ev where
  kind : Int
  who : Int
  ta : List UInt8
  tb : List UInt8
structure EvOk (e : Ev) : Prop where
  kind : I64 e.kind
  who : I64 e.who
  ta : e.ta.length ≤ 3000
  tb : e.tb.length ≤ 3000
def evList (e : Ev) : List Value :=
  [.int .i64 e.kind, .int .i64 e.who, .int .i64 e.who, .string (bstr e.ta), .int .i64 0, .int .i64 0, .int .i64 e.who, .string (bstr e.tb), .int .i64 0, .int .i64 0,
   .int .i64 0, .int .i64 0, .string ⟨#[]⟩, .string ⟨#[]⟩, .string ⟨#[]⟩, .int .i64 0, .int .i64 0, .int .i64 0, .int .i64 0]
def evArr (e : Ev) : Array Value := (evList e).toArray
abbrev evZ : Array Value := #[.int .i64 0, .int .i64 0, .int .i64 0, .string ⟨#[]⟩, .int .i64 0, .int .i64 0, .int .i64 0, .string ⟨#[]⟩, .int .i64 0, .int .i64 0,
   .int .i64 0, .int .i64 0, .string ⟨#[]⟩, .string ⟨#[]⟩, .string ⟨#[]⟩, .int .i64 0, .int .i64 0, .int .i64 0, .int .i64 0]
theorem evList_one (e : Ev) : ∀ v ∈ evList e, v.oneCell' = true := by
  intro v hv
  simp only [evList, List.mem_cons, List.not_mem_nil, or_false] at hv
  rcases hv with h | h | h | h | h | h | h | h | h | h | h | h | h | h | h | h | h | h | h <;> (subst h; rfl)
theorem evArr_one (e : Ev) : (evArr e).all (·.oneCell') = true := by
  rw [Array.all_eq_true_iff_forall_mem]
  intro v hv
  exact evList_one e v (by simpa [evArr] using hv)
theorem ev_infos : (Tryz.prog.info? 58).map (fun i => (i.zero, i.size, i.bytes)) = some (some (.agg evZ), 19, 192) := by kernel_rfl
theorem ev_info (e : Ev) : (Tryz.prog.info? 58).map (·.size) = some (evArr e).size := by
  rw [show (evArr e).size = 19 from rfl]; kernel_rfl
def evK : Rk Tryz.prog Ev where
  ty := 58
  sl := 47
  size := 19
  bytes := 192
  zero := .agg evZ
  enc := evList
  ok := EvOk
  len _ := rfl
  one u hu := evList_one _ u hu
  und := Tryz.underlying47
  info := ev_infos
  zsize := rfl
  pos := by omega
  small := by decide
/-- evidence of two receipts -/
def evOf (k who : Int) (a b : Rc) : Ev := ⟨k, who, a.text, b.text⟩
theorem evOf_ok {k who : Int} {a b : Rc} (hk : I64 k) (hw : I64 who) (ha : RcOk a) (hb : RcOk b) : EvOk (evOf k who a b) := ⟨hk, hw, text_length' ha, text_length' hb⟩
set_option maxHeartbeats 4000000 in
theorem evidence_any (k who : Int) (a b : Rc) (ha : RcOk a) (hb : RcOk b) (w : World) (ht : Pow10 w) :
    Calls Tryz.prog 45 #[.int .i64 k, .int .i64 who, .agg (rcArr a), .agg (rcArr b)] w fun e w' => e = .returned (.agg (evArr (evOf k who a b))) ∧ Below w.heap.size w w' := by
  have hb0 : Below w.heap.size w (((w.alloc (.cells (rcArr a) 31)).alloc (.cells (rcArr b) 31)).alloc (.cells evZ 58)) := (((Below.refl _ _).alloc (Nat.le_refl _) _).alloc (by simp) _).alloc (by simp; omega) _
  have RA := heap_alloc2_old w (.cells (rcArr a) 31) (.cells (rcArr b) 31)
  have RB := heap_alloc2_new w (.cells (rcArr a) 31) (.cells (rcArr b) 31)
  have hb1 : Below ((w.alloc (.cells (rcArr a) 31)).alloc (.cells (rcArr b) 31)).heap.size ((w.alloc (.cells (rcArr a) 31)).alloc (.cells (rcArr b) 31)) (((w.alloc (.cells (rcArr a) 31)).alloc (.cells (rcArr b) 31)).alloc (.cells evZ 58)) := (Below.refl _ _).alloc (Nat.le_refl _) _
  have RA1 := heap_below RA hb1
  have RB1 := heap_below RB hb1
  have RE0 := heap_alloc_new ((w.alloc (.cells (rcArr a) 31)).alloc (.cells (rcArr b) 31)) (.cells evZ 58)
  rw [show ((w.alloc (.cells (rcArr a) 31)).alloc (.cells (rcArr b) 31)).heap.size = w.heap.size + 1 + 1 by simp] at RE0
  have HB0 := Lib.hid hb0
  have HT := Lib.hid (ht.below hb0)
  generalize hW : ((w.alloc (.cells (rcArr a) 31)).alloc (.cells (rcArr b) 31)).alloc (.cells evZ 58) = W0 at *
  have HW := Lib.hid hW
  have RE := Lib.hid RE0
  have l1 := Lib.hid (load_rc_re ha (RcAt.of_row RA1) (rc_block_lt RA1))
  have l2 := Lib.hid (load_rc_re hb (RcAt.of_row RB1) (rc_block_lt RB1))
  obtain ⟨x1, e1⟩ : ∃ x, bstr a.text = x := ⟨_, rfl⟩
  obtain ⟨x2, e2⟩ : ∃ x, bstr b.text = x := ⟨_, rfl⟩
  have C1 := Lib.hid (fun W (h : Below W0.heap.size W0 W) => e1 ▸ etext_any a ha W (HT.out.below h))
  have C2 := Lib.hid (fun W (h : Below W0.heap.size W0 W) => e2 ▸ etext_any b hb W (HT.out.below h))
  have EE : Hid (evArr (evOf k who a b) = #[.int .i64 k, .int .i64 who, .int .i64 who, .string x1, .int .i64 0, .int .i64 0, .int .i64 who, .string x2, .int .i64 0, .int .i64 0,
   .int .i64 0, .int .i64 0, .string ⟨#[]⟩, .string ⟨#[]⟩, .string ⟨#[]⟩, .int .i64 0, .int .i64 0, .int .i64 0, .int .i64 0]) := by
    show _ = _
    rw [← e1, ← e2]
    rfl
  obtain ⟨V, hV⟩ : ∃ V, evArr (evOf k who a b) = V := ⟨_, rfl⟩
  have VI := ev_info (evOf k who a b)
  have VO := evArr_one (evOf k who a b)
  rw [hV] at EE VI VO ⊢
  have VI := Lib.hid VI
  have VO := Lib.hid VO
  clear hb0 hb1 RA RB RA1 RB1 RE0 ht hW e1 e2 hV
  go_enter Tryz.func45, Tryz.ntmps45
  go_wp2_with fail
  rw [HW.out]
  refine wp_region_tail_below 11 (by kernel_rfl) (by kernel_rfl) ?_
  simp only [List.take_succ_cons, List.take_zero, List.drop_succ_cons, List.drop_zero]
  repeat (first
    | (refine quiet_load_row (by rfl) _ (.tmp 6) rfl _ _ rfl _ l1.out ?_; simp only [Act.put, List.setIfInBounds_toArray, List.set_cons_zero, List.set_cons_succ])
    | (refine quiet_load_row (by rfl) _ (.tmp 7) rfl _ _ rfl _ l2.out ?_; simp only [Act.put, List.setIfInBounds_toArray, List.set_cons_zero, List.set_cons_succ])
    | go_big_quiet_step ((first | with_reducible exact Calls.regrown_of (C1.out _ (below_regrown _ _ _)) | with_reducible exact Calls.regrown_of (C2.out _ (below_regrown _ _ _)))))
  refine wpQuiet_nil ?_
  intro _ hw'
  obtain ⟨⟨dq, osq⟩, hw''⟩ := hw'
  subst hw''
  have HQ := Lib.hid (HB0.out.trans ((below_regrown W0 dq osq).mono HB0.out.size))
  have RQ := Lib.hid (heap_below RE.out (below_regrown W0 dq osq))
  generalize grow (redrawn W0 dq) osq = W1 at *
  go_wp2_with (refine wpList_store_row rfl 58 (.tmp 8) (.tmp 19) rfl (w.heap.size + 1 + 1) V rfl (by rw [EE.out]; rfl) 58 _ RQ.out VI.out (by rw [EE.out]; rfl) VO.out ?_)
  refine bodyPost_ret (v := .agg V) (results_cell_row Tryz.results45 _ _ (w.heap.size + 1 + 1) 58 V (0, 0) _ rfl (setRow_heap _ _ _ _ _ _ RQ.out) Tryz.underlying58 rfl VI.out) rfl ⟨rfl, ?_⟩
  exact below_setRow HQ.out (by omega) _
end Go.Proofs.YtpblfpnldbdncaaGreatDoor
