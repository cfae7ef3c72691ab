/- The walk of the law LedgerAgain. -/
import Derived.Test.YtfligfompdcddaaGreatDoorRefE
import Derived.Test.YtfligfompdcddaaGreatDoorLedArg
import Derived.IntWalk
import Derived.Laws.Cover1
namespace Go.Proofs.YtfligfompdcddaaGreatDoor
open Go.RowKit Go.Sort Go.Maps
set_option linter.unusedVariables false
theorem nums_below {W w : World} {ao : Option Addr} {n c : Nat} {ns : List Num} (h : ArgNums W ao n c ns) (hb : Below W.heap.size W w) : ArgNums w ao n c ns := by
  obtain ⟨h1, h2, h3, h4⟩ := h
  refine ⟨h1, h2, h3, fun h0 => ?_⟩
  obtain ⟨b, off, rfl, hc⟩ := h4 h0
  refine ⟨b, off, rfl, fun i a hi j hj => ?_⟩
  have h5 := hc i a hi j hj
  obtain ⟨v, hv⟩ : ∃ v, a.arr[j]? = some v := ⟨a.arr[j]'(by simp [Num.arr]; omega), Array.getElem?_eq_getElem _⟩
  rw [hv] at h5 ⊢
  exact (hb.cell (p := ⟨b, off + i * 4 + j, none⟩) (block_lt_of_cell h5)).trans h5
theorem num_sizes (a : Num) : (Led.pst a).key.size ≤ maxLen ∧ (Led.pst a).src.size ≤ maxLen ∧ (Led.pst a).dst.size ≤ maxLen := by
  have h1 := Led.ky_size a.key
  have h2 := Led.acc_size a.src
  have h3 := Led.acc_size a.dst
  unfold Led.pst maxLen
  simp only
  omega
theorem right_small {q : Pst} (h : Led.right q = true) : q.key.size ≤ maxLen ∧ q.src.size ≤ maxLen ∧ q.dst.size ≤ maxLen := by
  have h1 := Led.right_sizes h
  unfold maxLen
  omega
/-- the cells of a list that the call has -/
theorem Has.psts {v : Value} {ps : List Pst} {n : Nat} {w0 w : World} (hn : ps.length = n) (h : Has (RowT 24 4 v n (rowP ps)) w0 w) : ∃ ao cap, v = .slice ao n cap ∧ ∀ k q, ps[k]? = some q → ∃ g, ao = some ⟨g, 0, none⟩ ∧ ∀ j, j < 4 → w.cell? ⟨g, k * 4 + j, none⟩ = q.arr[j]? := by
  subst hn
  exact psts_cells (Has.rowOf h)
theorem psts_at {w : World} {v : Value} {ps : List Pst} (h : w.ownsRow 0 24 4 v ps.length (rowP ps)) : PstsAt w v ps := by
  obtain ⟨ao, cap, rfl, hc⟩ := psts_cells h
  refine ⟨ao, cap, rfl, ?_⟩
  rcases h.2 with ⟨e, h0⟩ | ⟨g, cap', cur, e, _⟩
  · exact .inl (List.eq_nil_of_length_eq_zero h0)
  · injection e with e
    subst e
    refine .inr ⟨g, rfl, fun i q hq j hj => ?_⟩
    obtain ⟨g', e', c'⟩ := hc i q hq
    injection e' with e'
    injection e' with e'
    subst e'
    exact c' j hj
theorem all_on {p c n k : Nat} {L L' ps : List Pst} {v : Value} {code : Int} {w0 w : World} (hk : ps.length = k) (h : Has ((LedT p L c).both (RowT 24 4 v k (rowP ps))) w0 w) (he : Led.all L ps = (n, code, L')) (hc : c + 4 * k ≤ 1000000000)
    (hz : ∀ q ∈ ps, q.key.size ≤ maxLen ∧ q.src.size ≤ maxLen ∧ q.dst.size ≤ maxLen) :
    Calls Tryz.prog 20 #[.pointer (some ⟨p, 0, none⟩), v] w fun e w' => e = .returned (.tuple #[.int .i64 n, .int .i64 code]) ∧ Has ((LedT p L' (c + 4 * k)).both (RowT 24 4 v k (rowP ps))) w0 w' := by
  subst hk
  obtain ⟨F, ⟨F1, F2, h1, h2, h3, h4⟩, h5, h6⟩ := h
  have hv := psts_at h2.1
  refine (all_any (v := v) h1 hv (fun g hg => ?_) hc hz).mono ?_
  · have e : v.ownBlock = some g := (own_blk h2.1).trans hg
    exact ⟨fun f => h3 g f ((h2.2 g).2 e), (rows_lt h2.1 g e).2⟩
  · rintro e w' ⟨rfl, hst⟩
    rw [he] at *
    exact ⟨rfl, Has.stp (P := LedT p L c) h5 h6 (Stp.left h2 h3 h4 (P' := LedT p L' (c + 4 * ps.length)) hst)⟩
theorem post_on {P Q : Thing} {p c : Nat} {L L' : List Pst} {n : Int} {w0 w : World} (h : Has ((LedT p L c).both Q) w0 w) (q : Pst) (hp : Led.post L q = (n, L')) (hc : c ≤ 1000000000) (hz : q.key.size ≤ maxLen ∧ q.src.size ≤ maxLen ∧ q.dst.size ≤ maxLen) :
    Calls Tryz.prog 11 #[.pointer (some ⟨p, 0, none⟩), ArrQ q] w fun e w' => e = .returned (.int .i64 n) ∧ Has ((LedT p L' (c + 2)).both Q) w0 w' := by
  refine ((Trip.left (Q := Q) (post_trip q hp hc hz)).call h).mono ?_
  rintro e w' ⟨_, ⟨_, ⟨rfl, rfl⟩, rfl⟩, h2⟩
  exact ⟨rfl, h2⟩
set_option maxHeartbeats 8000000 in
set_option maxRecDepth 100000 in
theorem walk_LedgerAgain (ao : Option Addr) (n c : Nat) (ns : List Num) (by8 : Int) (W : World) (h : ArgNums W ao n c ns) (h8 : (Lit.int .u8 by8).wf = true) (hT : Pow10 W) :
    Calls Tryz.prog 4 #[.slice ao n c, .int .u8 by8] W fun e w' => e = .returned (.bool true) ∧ Below W.heap.size W w' := by
  obtain ⟨bn, rfl, hb8⟩ : ∃ bn : Nat, by8 = bn ∧ bn ≤ 255 := by
    have h8' : 0 ≤ by8 ∧ by8 ≤ 255 := by simpa [Lit.wf, IntKind.min, IntKind.max, IntKind.signed, IntKind.bits] using h8
    exact ⟨by8.toNat, by omega, by omega⟩
  have HA := Lib.hid h
  have HT := Lib.hid hT
  obtain ⟨ps, hps⟩ : ∃ ps, (ns.take 30).map Led.pst = ps := ⟨_, rfl⟩
  have hz : ∀ q ∈ ps, q.key.size ≤ maxLen ∧ q.src.size ≤ maxLen ∧ q.dst.size ≤ maxLen := by
    intro q hq
    rw [← hps] at hq
    obtain ⟨a, _, rfl⟩ := List.mem_map.1 hq
    exact num_sizes a
  have hlen : ps.length ≤ 30 := by rw [← hps, List.length_map, List.length_take]; omega
  obtain ⟨m, hm⟩ : ∃ m, ps.length = m := ⟨_, rfl⟩
  rw [hm] at hlen
  have HM := Lib.hid hm
  have HZ := Lib.hid hz
  have HPS := Lib.hid hps
  clear h hz hps hm hT h8
  go_enter Tryz.func4, Tryz.ntmps4
  go_wp2_with fail
  refine (sanity_any W).mono ?_
  rintro e w1 ⟨rfl, hb⟩
  have B1 := Lib.hid hb
  clear hb
  go_wp2_with fail
  refine (new_trip W w1 Thing.nil (Has.nil B1.out)).mono ?_
  rintro e w2 ⟨p, rfl, h⟩
  have O2 := Lib.hid h.right
  have A2 := Lib.hid (nums_below HA.out h.base)
  clear h
  go_wp2_with fail
  refine (postings_any A2.out 30 (by omega)).mono ?_
  rintro e w3 ⟨v, rfl, h1, h2⟩
  rw [HPS.out] at h1
  have O3 := Lib.hid (O2.out.row h2 h1)
  clear h1 h2 O2 A2
  obtain ⟨ao', cap', hv, _⟩ := Has.psts rfl O3.out.right
  subst hv
  rw [HM.out] at O3 ⊢
  go_wp2_with fail
  go_loopw [8] (fun i wr => ∃ (k : Nat) (L : List Pst), k ≤ m ∧ i = .int .i64 k ∧ L.length ≤ k ∧ Led.Made L ∧ Has ((LedT p L (2 * k)).both (RowT 24 4 (.slice ao' m cap') m (rowP ps))) W wr) (fun i _ => m - (intOf i).toNat)
  case atStart => exact ⟨0, [], Nat.zero_le _, rfl, Nat.le_refl _, .nil, O3.out⟩
  case round =>
    obtain ⟨k, L, hk, rfl, hL, hM, hO⟩ := hrel
    have HO := Lib.hid hO
    have MD := Lib.hid hM
    clear hO hM
    by_cases hlt : k < m
    · obtain ⟨q, hq⟩ : ∃ q, ps[k]? = some q := ⟨ps[k]'(by rw [HM.out]; exact hlt), List.getElem?_eq_getElem _⟩
      have hzq := HZ.out q (List.mem_of_getElem? hq)
      obtain ⟨ao2, cap2, e1, hcq⟩ := Has.psts HM.out HO.out.right
      injection e1 with e1 _ e3
      subst e1 e3
      obtain ⟨g, rfl, cq⟩ := hcq k q hq
      have hpl := Led.post_snd L q
      have hmd := Led.Made.post MD.out q
      obtain ⟨code, L2, hpq⟩ : ∃ code L2, Led.post L q = (code, L2) := ⟨_, _, rfl⟩
      have PT := Lib.hid (post_on (P := LedT p L (2 * k)) HO.out q hpq (by omega) hzq)
      rw [hpq] at hpl hmd
      have MD2 := Lib.hid hmd
      have hlen2 : L2.length ≤ k + 1 := by
        rcases hpl with h | h <;> (simp only at h; subst h)
        · omega
        · rw [List.length_append, List.length_singleton]; omega
      obtain ⟨qk, qs, qd, qn⟩ := q
      have g0 : wr.cell? ⟨g, k * 4, none⟩ = some (.string qk) := (cq 0 (by omega)).trans rfl
      have g1 : wr.cell? ⟨g, k * 4 + 1, none⟩ = some (.string qs) := (cq 1 (by omega)).trans rfl
      have g2 : wr.cell? ⟨g, k * 4 + 2, none⟩ = some (.string qd) := (cq 2 (by omega)).trans rfl
      have g3 : wr.cell? ⟨g, k * 4 + 3, none⟩ = some (.int .i64 qn) := (cq 3 (by omega)).trans rfl
      have HL2 := Lib.hid hlen2
      clear cq hcq hq hpl hmd hpq hzq hlen2
      go_wp2_with fail
      refine PT.out.mono ?_
      rintro e w4 ⟨rfl, h4⟩
      have O4 := Lib.hid h4
      clear h4 PT g0 g1 g2 g3 HO
      go_wp2_with fail
      refine ⟨⟨k + 1, L2, by omega, by go_num, HL2.out, MD2.out, by rw [show 2 * (k + 1) = 2 * k + 2 by omega]; exact O4.out⟩, by simp [intOf]; omega⟩
    · obtain rfl : k = m := by omega
      have OL := Lib.hid HO.out.left
      have CE := Lib.hid (encode_on OL.out (by omega) (HT.out.below OL.out.base))
      clear HO
      go_wp2_with fail
      refine CE.out.mono ?_
      rintro e w4 ⟨rfl, b4⟩
      have O4 := Lib.hid (OL.out.below b4)
      clear b4 CE OL
      go_wp2_with fail
      refine (list_on O4.out).mono ?_
      rintro e w5 ⟨v5, rfl, r5, b5⟩
      have O5 := Lib.hid (O4.out.row b5 r5)
      obtain ⟨ao5, cap5, hv5, _⟩ := Has.psts rfl O5.out.right
      subst hv5
      obtain ⟨l, hl⟩ : ∃ l, L.length = l := ⟨_, rfl⟩
      have HL := Lib.hid hl
      rw [hl] at hL O5 ⊢
      have OKL := Lib.hid (LedT.ok O4.out)
      clear r5 b5 hl O4
      obtain ⟨eb, heb⟩ : ∃ eb, bstr (Led.enc L) = eb := ⟨_, rfl⟩
      have HE := Lib.hid heb
      rw [heb]
      clear heb
      go_wp2_with fail
      have lb : l ≤ 30 := by omega
      have kb : k ≤ 30 := hlen
      go_loopw [11] (fun i wr => ∃ (j : Nat), j ≤ l ∧ i = .int .i64 j ∧ Has ((LedT p L (2 * k + 2 * j)).both (RowT 24 4 (.slice ao5 l cap5) l (rowP L))) W wr) (fun i _ => l - (intOf i).toNat)
      case atStart => exact ⟨0, Nat.zero_le _, rfl, O5.out⟩
      case round =>
        obtain ⟨j, hj, rfl, hO⟩ := hrel
        have HO := Lib.hid hO
        clear hO
        by_cases hjl : j < l
        · obtain ⟨i, hi⟩ : ∃ i, (j + bn) % l = i := ⟨_, rfl⟩
          have hil : i < l := by rw [← hi]; exact Nat.mod_lt _ (by omega)
          obtain ⟨ao6, cap6, e1, hcq⟩ := Has.psts HL.out HO.out.right
          injection e1 with e1 _ e3
          subst e1 e3
          obtain ⟨q, hq⟩ : ∃ q, L[i]? = some q := ⟨L[i]'(by rw [HL.out]; exact hil), List.getElem?_eq_getElem _⟩
          obtain ⟨x, hx⟩ : ∃ x, L[j]? = some x := ⟨L[j]'(by rw [HL.out]; exact hjl), List.getElem?_eq_getElem _⟩
          obtain ⟨g, rfl, cq⟩ := hcq i q hq
          obtain ⟨g', e2, cx⟩ := hcq j x hx
          injection e2 with e2
          injection e2 with e2
          subst e2
          have hqm := List.mem_of_getElem? hq
          have hxm := List.mem_of_getElem? hx
          have hzq := right_small (OKL.out.1 q hqm)
          have hzx := (right_small (OKL.out.1 x hxm)).1
          have PT := Lib.hid (post_on (P := LedT p L (2 * k + 2 * j)) HO.out q (Led.post_mem OKL.out hqm) (by omega) hzq)
          have FX : Hid ((Led.find L x.key).isSome = true) := by
            obtain ⟨i', h1, _⟩ := Led.find_mem OKL.out.2.2 hxm
            show _ = _
            rw [h1]; rfl
          obtain ⟨qk, qs, qd, qn⟩ := q
          obtain ⟨xk, xs, xd, xn⟩ := x
          have g0 : wr.cell? ⟨g, i * 4, none⟩ = some (.string qk) := (cq 0 (by omega)).trans rfl
          have g1 : wr.cell? ⟨g, i * 4 + 1, none⟩ = some (.string qs) := (cq 1 (by omega)).trans rfl
          have g2 : wr.cell? ⟨g, i * 4 + 2, none⟩ = some (.string qd) := (cq 2 (by omega)).trans rfl
          have g3 : wr.cell? ⟨g, i * 4 + 3, none⟩ = some (.int .i64 qn) := (cq 3 (by omega)).trans rfl
          have ZX := Lib.hid hzx
          have HXX := Lib.hid hx
          have idx : ((j : Int) + (bn : Int)) % (l : Int) = (i : Int) := by rw [← hi]; simp
          have i1 : (0 : Int) ≤ (i : Int) := by omega
          have i2 : (i : Int) < (l : Int) := by omega
          have i3 : (i : Int).toNat = i := by omega
          have l0 : ¬ (l : Int) = 0 := by omega
          have l1 : (0 : Int) < (l : Int) := by omega
          clear cq cx hcq hq hx hqm hxm hzq hzx hi
          go_wp2_with fail
          refine PT.out.mono ?_
          rintro e w6 ⟨rfl, h6⟩
          have O6 := Lib.hid h6
          clear h6 PT g0 g1 g2 g3 HO i1 i2 i3 idx
          obtain ⟨ao7, cap7, e1, hcq⟩ := Has.psts HL.out O6.out.right
          injection e1 with e1 _ e3
          subst e1 e3
          obtain ⟨g', e2, cx⟩ := hcq j _ HXX.out
          injection e2 with e2
          injection e2 with e2
          subst e2
          have g0 : w6.cell? ⟨g, j * 4, none⟩ = some (.string xk) := (cx 0 (by omega)).trans rfl
          have CP := Lib.hid (paid_on O6.out.left xk true FX.out ZX.out)
          clear hcq cx
          go_wp2_with fail
          refine CP.out.mono ?_
          rintro e w7 ⟨rfl, rfl⟩
          clear g0
          go_wp2_with fail
          refine ⟨⟨j + 1, by omega, by go_num, by rw [show 2 * k + 2 * (j + 1) = 2 * k + 2 * j + 2 by omega]; exact O6.out⟩, by simp [intOf]; omega⟩
        · obtain rfl : j = l := by omega
          have AL : Hid (Led.all L L = (j, 0, L)) := by
            show _ = _
            rw [Led.all_mem OKL.out L (fun q hq => hq), HL.out]
          have CA := Lib.hid (all_on HL.out HO.out AL.out (by omega) (fun q hq => right_small (OKL.out.1 q hq)))
          clear HO AL
          go_wp2_with fail
          refine CA.out.mono ?_
          rintro e w6 ⟨rfl, h6⟩
          have O6 := Lib.hid h6
          clear h6 CA
          have CE := Lib.hid (encode_on O6.out.left (by rw [HL.out]; omega) (HT.out.below O6.out.base))
          go_wp2_with fail
          refine CE.out.mono ?_
          rintro e w7 ⟨rfl, b7⟩
          have O7 := Lib.hid (O6.out.below b7)
          rw [HE.out]
          clear b7 CE O6
          go_wp2_with fail
          refine (list_on O7.out.left).mono ?_
          rintro e w8 ⟨v8, rfl, r8, b8⟩
          have O8 := Lib.hid (O7.out.below b8)
          have RW := Lib.hid (Has.rowOf O8.out.right)
          rw [HL.out] at r8
          have CS := Lib.hid (same_any (ps := L) (by rw [HL.out]; exact r8) (by rw [HL.out]; exact RW.out) (by rw [HL.out]; omega))
          clear r8 b8 O7
          go_wp2_with fail
          refine CS.out.mono ?_
          rintro e w9 ⟨rfl, b9⟩
          have B9 := Lib.hid (below_join O8.out.base b9)
          clear b9 CS
          go_wp2_with fail
          go_ret
          exact ⟨rfl, B9.out⟩
end Go.Proofs.YtfligfompdcddaaGreatDoor
