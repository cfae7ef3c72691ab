/- The contract of the reference's Sales. -/
import Derived.Test.YtpblfpnldbdncaaGreatDoorG19
namespace Go.Proofs.YtpblfpnldbdncaaGreatDoor
open Go.RowKit Go.Sort Go.Maps
open Sg (Rc)
open Mg (H Sale Pos zeroH)
set_option linter.unusedVariables false
set_option maxRecDepth 100000
attribute [local go_sem ↓] wp_alloc_rc wp_alloc_h
theorem prev_infos : (Tryz.prog.info? 142).map (fun i => (i.zero, i.size, i.bytes)) = some (some (.agg (prevL fun _ => zeroH).toArray), 128, 128) := by kernel_rfl
theorem wp_alloc_prev {d : Option Tmp} {ty : TypeId} {pos : String} {after : Array Edge} {gd : Option (Nat × Bool)} {a : Act} {w : World} {K : Act → World → Prop} {Q : Exit → Act → World → Prop} :
    Oper.wp Tryz.prog ⟨d, .alloc 142, ty, pos, after, gd⟩ a w K Q = K (a.put d (.pointer (some ⟨w.heap.size, 0, none⟩))) (w.alloc (.cells (prevL fun _ => zeroH).toArray 142)) := by
  obtain ⟨i0, hi, hz0, hz1, hz2⟩ := info_parts prev_infos
  unfold Oper.wp execOp
  simp [Instr.alloc, newVar, zeroValue, typeInfo, hi, hz0, go_sem]
  try rfl
theorem sal_s_row {S N P q : Nat} {f g : Nat → Int} {pv : Nat → H} {x : Sale} {W : World} {z : Nat} {cs : Array Value} (h : SalS S N P q f g pv x W) (hz : W.heap[z]? = some (.cells cs 31 (0, 0))) (ds : Array Value) : SalS S N P q f g pv x (W.setRow z ds) := by
  have key : ∀ {k : Nat} {xs : Array Value} {t : TypeId}, W.heap[k]? = some (.cells xs t (0, 0)) → t ≠ 31 → (W.setRow z ds).heap[k]? = some (.cells xs t (0, 0)) := fun {k xs t} hk hne => by
    refine (setRow_other W z k ds (fun e => ?_)).trans hk
    rw [e, hz] at hk
    injection hk with hk
    injection hk with _ h2 _
    exact hne h2.symm
  exact ⟨key h.1 (by decide), key h.2.1 (by decide), key h.2.2.1 (by decide), key h.2.2.2 (by decide)⟩
theorem SalMid.putPrev {w wx : World} {S N P q r : Nat} {f g : Nat → Int} {pv : Nat → H} {x : Sale} {v : Value} {L : List Rc} {R : Rc} (h : SalMid w wx S N P q r f g pv x v L R) (hl : ∀ i, (pv i).length = 32) {n : Nat} (hn : n < 4) {y : H} (hy : y.length = 32)
    (hP : w.heap.size ≤ P) (hP2 : P < w.heap.size + 3) (h1 : S ≠ P) (h2 : N ≠ P) (h3 : q ≠ P) : SalMid w (wx.setCells P (n * 32) (hcl y)) S N P q r f g (fun i => if i = n then y else pv i) x v L R := by
  have T : Turned (fun k => k = P) wx (wx.setCells P (n * 32) (hcl y)) := Turned.setCells (F := fun k => k = P) (.inl rfl) (hcl y) (n * 32) (Turned.of_below (Below.refl _ _))
  have key : ∀ {k : Nat} {o : Obj}, wx.heap[k]? = some o → k ≠ P → (wx.setCells P (n * 32) (hcl y)).heap[k]? = some o := fun {k o} hk hne => (T.block k (rc_block_lt hk) hne).trans hk
  have l4 := h.lo.2.2.2.1
  have hp := heap_setCells_at (hcl y) (n * 32) _ _ h.at4.2.2.1
  rw [prevL_put hl hn y hy] at hp
  refine ⟨⟨key h.at4.1 h1, key h.at4.2.1 h2, hp, key h.at4.2.2.2 h3⟩, key h.rc (by omega), ⟨h.row.1, row_turned h.row.2 T fun k hk e => ?_⟩, h.below.trans (T.below h.below.size fun k hk => by omega), h.ne, h.lo, h.nz⟩
  have := (h.row.base_le k hk).1
  omega
theorem take_succ_get {α : Type} {l : List α} {i : Nat} {x : α} (h : l[i]? = some x) : l.take (i + 1) = l.take i ++ [x] := by
  rw [List.take_add_one, h]
  rfl
attribute [local go_sem ↓] wp_alloc_prev wp_build_h0
set_option maxHeartbeats 8000000 in
theorem sales_any {w : World} {v : Value} {l : List Sale} (hA : LiesR saleK w v l) (hl : l.length ≤ 9000000000000000000) :
    Calls Tryz.prog 32 #[v] w (GivesRows rcK w (gall l)) := by
  obtain ⟨L, hL⟩ : ∃ L, l.length = L := ⟨_, rfl⟩
  obtain ⟨ao, cap, hv⟩ : ∃ ao cap, v = .slice ao L cap := by
    obtain ⟨ao, cap, h | h⟩ := hA.slice hL
    · exact ⟨ao, cap, h.1⟩
    · exact ⟨ao, cap, h.1⟩
  subst hv
  have HA := Lib.hid hA
  have HL := Lib.hid hL
  have L3 : L ≤ 9000000000000000000 := by omega
  have A0 := Lib.hid (sal_start w l)
  clear hA hL hl
  go_enter Tryz.func32, Tryz.ntmps32
  go_wp2_with fail
  obtain ⟨S, hS⟩ : ∃ S, w.heap.size = S := ⟨_, rfl⟩
  obtain ⟨N, hN⟩ : ∃ N, w.heap.size + 1 = N := ⟨_, rfl⟩
  obtain ⟨P, hP⟩ : ∃ P, w.heap.size + 1 + 1 = P := ⟨_, rfl⟩
  have SN : Hid (w.heap.size ≤ S ∧ w.heap.size ≤ N ∧ w.heap.size ≤ P ∧ S < w.heap.size + 3 ∧ N < w.heap.size + 3 ∧ P < w.heap.size + 3 ∧ S ≠ N ∧ S ≠ P ∧ N ≠ P) := by show _ ∧ _ ∧ _ ∧ _ ∧ _ ∧ _ ∧ _ ∧ _ ∧ _; omega
  rw [hP, hN] at A0 ⊢
  generalize ((w.alloc (.cells #[.int .i64 0, .int .i64 0, .int .i64 0, .int .i64 0] 141)).alloc (.cells #[.int .i64 0, .int .i64 0, .int .i64 0, .int .i64 0] 141)).alloc (.cells (prevL fun _ => zeroH).toArray 142) = W1 at *
  have A1 : Hid (SalAt w W1 S N P (.slice none 0 0) l 0) := by rw [← hS]; exact A0
  rw [hS]
  clear A0 hS hN hP
  go_loopw [3, 7] (fun v3 v7 wx => ∃ i : Nat, i ≤ L ∧ i ≤ 24 ∧ v7 = .int .i64 i ∧ SalAt w wx S N P v3 l i) (fun _ v7 _ => 24 - (intOf v7).toNat)
  case atStart => exact ⟨0, Nat.zero_le _, Nat.zero_le _, rfl, A1.out⟩
  case round =>
    obtain ⟨i, hi, hi2, rfl, ha⟩ := hrel
    have H := Lib.hid ha
    clear ha
    by_cases hlt : i < L ∧ i < 24
    · obtain ⟨hlt1, hlt2⟩ := hlt
      have d1 : decide ((i : Int) < (L : Int)) = true := decide_eq_true (by omega)
      have d2 : decide ((i : Int) < 24) = true := decide_eq_true (by omega)
      have d1n : decide (i < L) = true := decide_eq_true (by omega)
      obtain ⟨x, hx⟩ : ∃ x, l[i]? = some x := ⟨l[i]'(by rw [HL.out]; exact hlt1), List.getElem?_eq_getElem _⟩
      obtain ⟨g, o, cap', e, _, glt, rg, xok⟩ := HA.out.at hx
      injection e with e e2 e3
      clear e2
      subst e e3
      have hx1 := xok.kiosk
      have hx2 := xok.seen
      have hx3 := xok.draw
      have hx4 := xok.stamp
      have hx5 := xok.wrong
      have k0 : (0 : Int) ≤ (x.kiosk : Int) := by omega
      have k1 : (x.kiosk : Int) ≤ 255 := by omega
      obtain ⟨n, hn⟩ : ∃ n, x.kiosk % 4 = n := ⟨_, rfl⟩
      have n4 : n < 4 := by omega
      have n0 : (0 : Int) ≤ (n : Int) := by omega
      have n5 : (n : Int) < 4 := by omega
      have km : (x.kiosk : Int) % 4 = (n : Int) := by omega
      have HNN := Lib.hid hn
      have HX := Lib.hid hx
      have RG : Hid (wr.rangeAt g (o + i * 5) (saleList x)) := fun j v hv => (H.out.below.cell (p := ⟨g, o + i * 5 + j, none⟩) glt).trans (rg j v hv)
      have SI : Hid ((Tryz.prog.info? 91).map (·.size) = some (saleList x).length) := by show _ = _; kernel_rfl
      have SI2 : Hid ((Tryz.prog.info? 91).map (·.size) = some (saleList x).toArray.size) := by show _ = _; kernel_rfl
      have SO : Hid ((saleList x).toArray.all (·.oneCell') = true) := by
        show _ = _
        rw [Array.all_eq_true_iff_forall_mem]
        exact fun u hu => saleK.one (x := x) u (List.mem_toArray.1 hu)
      have E3 := Lib.hid (World.setRow_alloc_new wr sale0 (saleList x).toArray 91)
      have F3 := Lib.hid (heap_alloc_new wr (.cells sale0 91))
      have F4 := Lib.hid (heap_alloc_new wr (.cells (saleList x).toArray 91))
      have BZ : Hid (Below wr.heap.size wr (wr.alloc (.cells (saleList x).toArray 91))) := (Below.refl _ _).alloc (Nat.le_refl _) _
      clear hx rg xok hn
      go_upto_region 9 with (first
        | (refine wpList_load_mid rfl 91 (.tmp 25) rfl g (o + i * 5) rfl (saleList x) _ RG.out Tryz.underlying91 rfl SI.out ?_)
        | (refine wpList_store_row rfl 91 (.tmp 8) (.tmp 26) rfl wr.heap.size (saleList x).toArray rfl rfl 91 _ F3.out SI2.out rfl SO.out ?_; rw [E3.out]; simp only [Act.put]))
      obtain ⟨q, hq⟩ : ∃ q, wr.heap.size = q := ⟨_, rfl⟩
      have SZ := H.out.size
      rw [hq] at F4 BZ SZ ⊢
      have HQ := Lib.hid hq
      generalize wr.alloc (.cells (saleList x).toArray 91) = W2 at *
      clear hq E3 F3 SI SI2 SO RG
      have X0 : W2.cell? ⟨q, 0, none⟩ = some (.int .u8 (x.kiosk : Int)) := (cell_of_row _ _ 0 _ _ _ F4.out).trans rfl
      have X2 : W2.cell? ⟨q, 2, none⟩ = some (.int .u8 (x.seen : Int)) := (cell_of_row _ _ 2 _ _ _ F4.out).trans rfl
      obtain ⟨st, hst⟩ : ∃ st, gst pos0 (l.take i) = st := ⟨_, rfl⟩
      have hpk := gst_ok (l.take i) pos0 0 pos0_ok
      rw [hst, List.length_take, HL.out, Nat.min_eq_left hi, Nat.zero_add] at hpk
      have PK := Lib.hid hpk
      have HST := Lib.hid hst
      have B2 := Lib.hid BZ.out
      have SE2 : Hid (W2.heap[S]? = some (.cells (quad fun i => (st i).serial) 141 (0, 0))) := by rw [← hst]; exact heap_below H.out.ser (by rw [HQ.out]; exact BZ.out)
      have NE2 : Hid (W2.heap[N]? = some (.cells (quad fun i => (st i).seen) 141 (0, 0))) := by rw [← hst]; exact heap_below H.out.seen (by rw [HQ.out]; exact BZ.out)
      have PE2 : Hid (W2.heap[P]? = some (.cells (prevL fun i => (st i).prev).toArray 142 (0, 0))) := by rw [← hst]; exact heap_below H.out.prev (by rw [HQ.out]; exact BZ.out)
      have RO2 := Lib.hid (H.out.row.below (by rw [HQ.out]; exact BZ.out))
      obtain ⟨m, hm⟩ : ∃ m, x.seen % 3 = m := ⟨_, rfl⟩
      have m3 : m < 3 := by omega
      have mm : (x.seen : Int) % 3 = (m : Int) := by omega
      have ms0 : (0 : Int) ≤ (x.seen : Int) := by omega
      have ms1 : (x.seen : Int) ≤ 255 := by omega
      have mz : (m : Int) ≤ 2 := by omega
      have my : (0 : Int) ≤ (m : Int) := by omega
      obtain ⟨sn0, sn1⟩ := hpk.seen n
      obtain ⟨sr0, sr1⟩ := hpk.ser n
      obtain ⟨sn, hsn⟩ : ∃ sn, (st n).seen = sn := ⟨_, rfl⟩
      obtain ⟨sr, hsr⟩ : ∃ sr, (st n).serial = sr := ⟨_, rfl⟩
      have NN2 : W2.cell? ⟨N, n, none⟩ = some (.int .i64 sn) := by rw [cell_of_row _ _ _ _ _ _ NE2.out, quad_get _ n4, hsn]
      have NF2 : W2.frozen? ⟨N, n, none⟩ = false := frozen_of_row _ _ _ _ _ NE2.out
      rw [hsn] at sn0 sn1
      rw [hsr] at sr0 sr1
      have s9 : sn ≤ 50 := by omega
      have s8 : sr ≤ 50 := by omega
      have HSN := Lib.hid hsn
      have HSR := Lib.hid hsr
      have HM := Lib.hid hm
      clear hst hpk hsn hsr hm sn1 sr1
      go_upto_region 10 with fail
      go_region
      have NE3 := Lib.hid (heap_setCell_at (o := n) NE2.out (.int .i64 (sn + (m : Int))))
      rw [quad_set _ n4] at NE3
      have SE3 := Lib.hid ((Below.heap_setCell W2 ⟨N, n, none⟩ (.int .i64 (sn + (m : Int))) S SN.out.2.2.2.2.2.2.1).trans SE2.out)
      have PE3 := Lib.hid ((Below.heap_setCell W2 ⟨N, n, none⟩ (.int .i64 (sn + (m : Int))) P (Ne.symm SN.out.2.2.2.2.2.2.2.2)).trans PE2.out)
      have QE3 := Lib.hid ((Below.heap_setCell W2 ⟨N, n, none⟩ (.int .i64 (sn + (m : Int))) q (by show q ≠ N; have := SN.out; have := SZ; omega)).trans F4.out)
      have RO3 : Hid (OwnsR rcK (W2.setCell ⟨N, n, none⟩ (.int .i64 (sn + (m : Int)))).drew (w.heap.size + 3) u3 (gsales pos0 (l.take i))) := by
        refine OwnsR.below (w := W2.setCell ⟨N, n, none⟩ (.int .i64 (sn + (m : Int)))) (RO2.out.grown (row := some N) (grownBy_setCellP W2 N n _) (fun b hb e => ?_)) (Below.refl _ _).drew
        injection e with e
        have := (RO2.out.base_le b hb).1
        have := SN.out
        omega
      have B3 : Hid (Below w.heap.size w (W2.setCell ⟨N, n, none⟩ (.int .i64 (sn + (m : Int)))).drew) := ((H.out.below.trans (by rw [← HQ.out] at B2; exact B2.out.mono H.out.below.size)).setCell (by show w.heap.size ≤ N; exact SN.out.2.1) _).drew
      have Z3 : Hid (q < (W2.setCell ⟨N, n, none⟩ (.int .i64 (sn + (m : Int)))).drew.heap.size) := rc_block_lt QE3.out
      replace NE3 : Hid ((W2.setCell ⟨N, n, none⟩ (.int .i64 (sn + (m : Int)))).drew.heap[N]? = _) := NE3
      replace SE3 : Hid ((W2.setCell ⟨N, n, none⟩ (.int .i64 (sn + (m : Int)))).drew.heap[S]? = _) := SE3
      replace PE3 : Hid ((W2.setCell ⟨N, n, none⟩ (.int .i64 (sn + (m : Int)))).drew.heap[P]? = _) := PE3
      replace QE3 : Hid ((W2.setCell ⟨N, n, none⟩ (.int .i64 (sn + (m : Int)))).drew.heap[q]? = _) := QE3
      clear X0 X2 NN2 NF2 SE2 NE2 PE2 RO2 F4 B2 BZ
      generalize (W2.setCell ⟨N, n, none⟩ (.int .i64 (sn + (m : Int)))).drew = W3 at *
      have SS3 : W3.cell? ⟨S, n, none⟩ = some (.int .i64 sr) := by rw [cell_of_row _ _ _ _ _ _ SE3.out, quad_get _ n4, HSR.out]
      have SF3 : W3.frozen? ⟨S, n, none⟩ = false := frozen_of_row _ _ _ _ _ SE3.out
      go_upto_region 12 with fail
      have SE4 := Lib.hid (heap_setCell_at (o := n) SE3.out (.int .i64 (sr + 1)))
      rw [quad_set _ n4] at SE4
      have NE4 := Lib.hid ((Below.heap_setCell W3 ⟨S, n, none⟩ (.int .i64 (sr + 1)) N (Ne.symm SN.out.2.2.2.2.2.2.1)).trans NE3.out)
      have PE4 := Lib.hid ((Below.heap_setCell W3 ⟨S, n, none⟩ (.int .i64 (sr + 1)) P (Ne.symm SN.out.2.2.2.2.2.2.2.1)).trans PE3.out)
      have QE4 := Lib.hid ((Below.heap_setCell W3 ⟨S, n, none⟩ (.int .i64 (sr + 1)) q (by show q ≠ S; have := SN.out; have := SZ; omega)).trans QE3.out)
      have RO4 : Hid (OwnsR rcK (W3.setCell ⟨S, n, none⟩ (.int .i64 (sr + 1))) (w.heap.size + 3) u3 (gsales pos0 (l.take i))) := by
        refine RO3.out.grown (row := some S) (grownBy_setCellP W3 S n _) (fun b hb e => ?_)
        injection e with e
        have := (RO3.out.base_le b hb).1
        have := SN.out
        omega
      have B4 : Hid (Below w.heap.size w (W3.setCell ⟨S, n, none⟩ (.int .i64 (sr + 1)))) := B3.out.setCell (by show w.heap.size ≤ S; exact SN.out.1) _
      clear SS3 SF3 SE3 NE3 PE3 QE3 RO3 B3 Z3
      generalize W3.setCell ⟨S, n, none⟩ (.int .i64 (sr + 1)) = W4 at *
      obtain ⟨f, hf⟩ : ∃ f : Nat → Int, (fun i => if i = n then sr + 1 else (st i).serial) = f := ⟨_, rfl⟩
      obtain ⟨gg, hg⟩ : ∃ f : Nat → Int, (fun i => if i = n then sn + (m : Int) else (st i).seen) = f := ⟨_, rfl⟩
      obtain ⟨pv, hpv⟩ : ∃ f : Nat → Mg.H, (fun i => (st i).prev) = f := ⟨_, rfl⟩
      have F1 := Lib.hid (show f n = sr + 1 by rw [← hf]; exact if_pos rfl)
      have G1 := Lib.hid (show gg n = sn + (m : Int) by rw [← hg]; exact if_pos rfl)
      have PL := Lib.hid (show ∀ i, (pv i).length = 32 by rw [← hpv]; exact PK.out.prev)
      rw [hf] at SE4
      rw [hg] at NE4
      rw [hpv] at PE4
      have HF := Lib.hid hf
      have HG := Lib.hid hg
      have HPV := Lib.hid hpv
      obtain ⟨p0, hp0⟩ : ∃ p, pv n = p := ⟨_, rfl⟩
      have HP0 := Lib.hid hp0
      have PL0 := Lib.hid (show p0.length = 32 by rw [← hp0]; exact PL.out n)
      have SS4 : Hid (SalS S N P q f gg pv x W4) := ⟨SE4.out, NE4.out, PE4.out, QE4.out⟩
      obtain ⟨dn, hdn⟩ : ∃ d, drawName x.draw = d := ⟨_, rfl⟩
      have HDN := Lib.hid hdn
      have CD := Lib.hid (fun W => draw_any x.draw W (by omega))
      rw [hdn] at CD
      have BR := Lib.hid (fun W => run_build_rc (n : Int) (sr + 1) (sn + (m : Int)) dn PL0.out W)
      obtain ⟨R0, hR0⟩ : ∃ R0 : Rc, (⟨(n : Int), sr + 1, dn, sn + (m : Int), zeroH, zeroH, p0, 0, 0⟩ : Rc) = R0 := ⟨_, rfl⟩
      have OK0 : Hid (RcOk ⟨(n : Int), sr + 1, dn, sn + (m : Int), zeroH, zeroH, p0, 0, 0⟩) := by
        have hd := drawName_len x.draw
        rw [hdn] at hd
        exact ⟨⟨by show _ ≤ (n : Int); omega, by show (n : Int) ≤ _; omega⟩, ⟨by show _ ≤ sr + 1; omega, by show sr + 1 ≤ _; omega⟩, ⟨by show _ ≤ sn + (m : Int); omega, by show sn + (m : Int) ≤ _; omega⟩, by show I64 0; decide, by show I64 0; decide, by show dn.length ≤ 1000; omega, zeroH_length, zeroH_length, PL0.out⟩
      rw [hR0] at BR OK0
      have HR0 := Lib.hid hR0
      have RI := Lib.hid (rc_info OK0.out)
      have RO := Lib.hid (rcArr_one R0)
      have RZ := Lib.hid (show (rcArr rc0).size = (rcArr R0).size by rw [rcArr_size rc0_ok, rcArr_size OK0.out])
      have u0 : (0 : Int) ≤ (x.draw : Int) := by omega
      have u1 : (x.draw : Int) ≤ 255 := by omega
      clear hf hg hpv hp0 hdn hR0 SE4 NE4 PE4 QE4
      go_cut [10] (fun v10 wx => ∃ r, v10 = .pointer (some ⟨r, 0, none⟩) ∧ wx.heap[r]? = some (.cells (rcArr R0) 31 (0, 0)) ∧ Below W4.heap.size W4 wx ∧ W4.heap.size ≤ r)
      case first =>
        refine wp_region_tree (SalS S N P q f gg pv x) (.two [0, 1, 2, 3, 4, 5, 6, 8, 9, 10, 11, 12, 13] 7 (.one [14] 15 (.one [] 16 (.last []))) 15 (.one [] 7 (.one [14] 16 (.last [])))) (by kernel_rfl) (by kernel_rfl) (by kernel_rfl) (SS4.out.below (Below.refl _ _).drew) ?_
        have SD := Lib.hid (SS4.out.below (Below.refl W4.heap.size W4).drew)
        have BD : Hid (Below W4.heap.size W4 W4.drew) := (Below.refl _ _).drew
        generalize W4.drew = W5 at *
        refine tree_two ?_
        simp only [List.map_cons, List.map_nil, opN, List.getD_cons_succ, List.getD_cons_zero]
        repeat (first
          | (refine quiet_load_row (by rfl) _ (.tmp 48) rfl _ _ rfl (.int .i64 (sr + 1)) (fun w' h => h.ser n4 F1.out) ?_; simp only [Act.put, List.setIfInBounds_toArray, List.set_cons_zero, List.set_cons_succ])
          | (refine quiet_load_row (by rfl) _ (.tmp 50) rfl _ _ rfl (.int .u8 (x.draw : Int)) (fun w' h => h.draw) ?_; simp only [Act.put, List.setIfInBounds_toArray, List.set_cons_zero, List.set_cons_succ])
          | (refine quiet_load_row (by rfl) _ (.tmp 55) rfl _ _ rfl (.int .i64 (sn + (m : Int))) (fun w' h => h.seen n4 G1.out) ?_; simp only [Act.put, List.setIfInBounds_toArray, List.set_cons_zero, List.set_cons_succ])
          | (refine quiet_load_row (by rfl) _ (.tmp 58) rfl _ _ rfl (.agg (hashArr p0)) (fun w' h => h.prev PL.out n4 HP0.out) ?_; simp only [Act.put, List.setIfInBounds_toArray, List.set_cons_zero, List.set_cons_succ])
          | go_big_quiet_step (fail)
          | (go_big_quiet_want; go_big_quiet_op; refine ⟨_, fun _ _ => rfl, ?_⟩; go_big_quiet_on))
        refine wpQuiet_nil ?_
        refine ⟨tree_step (by rfl) fun K hK => ?_, tree_step (by rfl) fun K hK => ?_⟩
        · go_simp
          refine (CD.out _).mono ?_
          rintro e w6 ⟨rfl, b6⟩
          have B6 := Lib.hid (BD.out.trans (b6.mono BD.out.size))
          refine hK _ _ (SD.out.below b6) ?_
          have S6 := Lib.hid (SD.out.below b6)
          clear hK K b6
          refine tree_one ?_
          simp only [List.map_cons, List.map_nil, opN, List.getD_cons_succ, List.getD_cons_zero]
          refine quiet_build (by rfl) 31 #[(0, .tmp 46), (1, .tmp 49), (2, .tmp 53), (3, .tmp 56), (6, .tmp 59)] rfl #[(0, .int .i64 (n : Int)), (1, .int .i64 (sr + 1)), (2, .string (bstr dn)), (3, .int .i64 (sn + (m : Int))), (6, .agg (hashArr p0))] (by simp only [List.map_toArray, List.map_cons, List.map_nil]; rfl) _ BR.out ?_
          simp only [Act.put, List.setIfInBounds_toArray, List.set_cons_zero, List.set_cons_succ]
          refine wpQuiet_nil ?_
          refine tree_step (by rfl) fun K hK => ?_
          rw [wp_alloc_rc]
          have bz : Below w6.heap.size w6 (w6.alloc (.cells (rcArr rc0) 31)) := (Below.refl _ _).alloc (Nat.le_refl _) _
          refine hK _ _ (S6.out.below bz) ?_
          clear hK K bz
          refine tree_one ?_
          simp only [List.map_nil, opN, List.getD_cons_succ, List.getD_cons_zero]
          refine wpQuiet_nil ?_
          refine tree_step (by rfl) fun K hK => ?_
          have F6 := Lib.hid (heap_alloc_new w6 (.cells (rcArr rc0) 31))
          have E6 := Lib.hid (World.setRow_alloc_new w6 (rcArr rc0) (rcArr R0) 31)
          have G6 := Lib.hid (heap_alloc_new w6 (.cells (rcArr R0) 31))
          have BZ : Hid (Below w6.heap.size w6 (w6.alloc (.cells (rcArr R0) 31))) := (Below.refl _ _).alloc (Nat.le_refl _) _
          refine wp_of_list (wpList_store_row rfl 31 (.tmp 10) (.tmp 60) rfl w6.heap.size (rcArr R0) rfl rfl 31 _ F6.out RI.out RZ.out RO.out ?_)
          rw [E6.out]
          refine hK _ _ (S6.out.below BZ.out) ?_
          clear hK K
          refine tree_last ?_
          refine wpQuiet_nil ?_
          refine NoPanic.normal ?_
          simp only [Act.put, List.setIfInBounds_toArray, List.set_cons_zero, List.set_cons_succ]
          go_wp2_with fail
          go_meet
          exact ⟨w6.heap.size, rfl, G6.out, B6.out.trans (BZ.out.mono B6.out.size), B6.out.size⟩
        · rw [wp_alloc_rc]
          have bz : Below W5.heap.size W5 (W5.alloc (.cells (rcArr rc0) 31)) := (Below.refl _ _).alloc (Nat.le_refl _) _
          have F6 := Lib.hid (heap_alloc_new W5 (.cells (rcArr rc0) 31))
          refine hK _ _ (SD.out.below bz) ?_
          have S6 := Lib.hid (SD.out.below bz)
          have B6 := Lib.hid (BD.out.trans (bz.mono BD.out.size))
          have Q6 := Lib.hid BD.out.size
          clear hK K bz
          obtain ⟨z, hz⟩ : ∃ z, W5.heap.size = z := ⟨_, rfl⟩
          rw [hz] at F6 Q6 ⊢
          generalize W5.alloc (.cells (rcArr rc0) 31) = W6 at *
          clear hz
          refine tree_one ?_
          simp only [List.map_nil, opN, List.getD_cons_succ, List.getD_cons_zero]
          refine wpQuiet_nil ?_
          refine tree_step (by rfl) fun K hK => ?_
          go_simp
          refine (CD.out _).mono ?_
          rintro e w7 ⟨rfl, b7⟩
          have B7 := Lib.hid (B6.out.trans (b7.mono B6.out.size))
          have F7 := Lib.hid (heap_below F6.out b7)
          refine hK _ _ (S6.out.below b7) ?_
          have S7 := Lib.hid (S6.out.below b7)
          clear hK K b7
          refine tree_one ?_
          simp only [List.map_cons, List.map_nil, opN, List.getD_cons_succ, List.getD_cons_zero]
          refine quiet_build (by rfl) 31 #[(0, .tmp 46), (1, .tmp 49), (2, .tmp 53), (3, .tmp 56), (6, .tmp 59)] rfl #[(0, .int .i64 (n : Int)), (1, .int .i64 (sr + 1)), (2, .string (bstr dn)), (3, .int .i64 (sn + (m : Int))), (6, .agg (hashArr p0))] (by simp only [List.map_toArray, List.map_cons, List.map_nil]; rfl) _ BR.out ?_
          simp only [Act.put, List.setIfInBounds_toArray, List.set_cons_zero, List.set_cons_succ]
          refine wpQuiet_nil ?_
          refine tree_step (by rfl) fun K hK => ?_
          have G7 := Lib.hid (setRow_heap w7 z (rcArr rc0) (rcArr R0) _ _ F7.out)
          have B8 := Lib.hid (below_setRow B7.out Q6.out (rcArr R0))
          have T8 : Hid (SalS S N P q f gg pv x (w7.setRow z (rcArr R0))) := sal_s_row S7.out F7.out (rcArr R0)
          refine wp_of_list (wpList_store_row rfl 31 (.tmp 10) (.tmp 60) rfl z (rcArr R0) rfl rfl 31 _ F7.out RI.out RZ.out RO.out ?_)
          refine hK _ _ T8.out ?_
          clear hK K
          refine tree_last ?_
          refine wpQuiet_nil ?_
          refine NoPanic.normal ?_
          simp only [Act.put]
          go_wp2_with fail
          go_meet
          exact ⟨z, rfl, G7.out, B8.out, Q6.out⟩
      case rest =>
        obtain ⟨r, rfl, hr, hb5, hrl⟩ := hcut
        obtain ⟨L0, hL0⟩ : ∃ L0, gsales pos0 (l.take i) = L0 := ⟨_, rfl⟩
        have HL0 := Lib.hid hL0
        have LN0 := Lib.hid (show L0.length ≤ 2 * i by rw [← hL0]; exact H.out.len)
        have M5 : Hid (SalMid w wc S N P q r f gg pv x u3 L0 R0) := by
          have h4 := RO4.out
          rw [hL0] at h4
          refine ⟨SS4.out.below hb5, hr, h4.below hb5, B4.out.trans (hb5.mono B4.out.size), fun b hb => ?_, ?_, ?_⟩
          · have := (h4.base_le b hb).2
            omega
          · have h1 := rc_block_lt SS4.out.1
            have h2 := rc_block_lt SS4.out.2.1
            have h3 := rc_block_lt SS4.out.2.2.1
            have h5 := rc_block_lt SS4.out.2.2.2
            have := SZ
            omega
          · rw [← hL0]; exact H.out.nz
        obtain ⟨s, hs⟩ : ∃ s, R0.seen = s := ⟨_, rfl⟩
        have s0 : 0 ≤ s := by rw [← hs, ← HR0.out]; show 0 ≤ sn + (m : Int); omega
        have s1 : s ≤ 100 := by rw [← hs, ← HR0.out]; show sn + (m : Int) ≤ 100; omega
        have HS0 := Lib.hid hs
        obtain ⟨R1, hR1⟩ : ∃ R1 : Rc, { R0 with output := Mg.outOf X0 s } = R1 := ⟨_, rfl⟩
        have HR1 := Lib.hid hR1
        have c3 := M5.out.nums.2.1
        rw [hs] at c3
        obtain ⟨bb, hbb⟩ : ∃ bb, decide (0 < s) = bb := ⟨_, rfl⟩
        have HBB := Lib.hid hbb
        clear hr hb5 hrl hs hR1 hL0 RO4 B4 SS4 CD BR RI RO RZ
        go_upto_if 63 with fail
        clear hbb
        go_cut [] (fun wx => SalMid w wx S N P q r f gg pv x u3 L0 R1)
        case first =>
          cases bb
          · have E1 : Hid (R1 = R0) := by
              have h0 : s = 0 := by have := of_decide_eq_false HBB.out; omega
              have ho : Mg.outOf X0 s = R0.output := by rw [h0, ← HR0.out]; rfl
              show _ = _
              rw [← HR1.out, ho]
            go_wp2_with fail
            go_meet
            rw [E1.out]; exact M5.out
          · have E1 : Hid (Mg.outOf X0 s = outHash s) := by
              have h0 : 0 < s := of_decide_eq_true HBB.out
              show _ = _
              unfold Mg.outOf
              rw [if_neg (by omega)]
              rfl
            have CO := Lib.hid (fun W => output_any s ⟨s0, by omega⟩ W)
            have FO := Lib.hid (fun W => run_field_ot (o := otOf s (outHash s)) (otOf_ok ⟨by omega, by omega⟩ (outHash_len s)) W)
            have EP := Lib.hid (rc_put_output OK0.out (outHash s) (outHash_len s))
            have HLN := Lib.hid (outHash_len s)
            rw [← E1.out, HR1.out] at EP
            have CZ := Lib.hid (show 4 + 32 ≤ (rcArr R0).size by rw [rcArr_size OK0.out]; omega)
            obtain ⟨V, hV⟩ : ∃ V, otArr (otOf s (outHash s)) = V := ⟨_, rfl⟩
            rw [hV] at CO FO
            have EO := Lib.hid E1.out.symm
            obtain ⟨h, hh⟩ : ∃ h, outHash s = h := ⟨_, rfl⟩
            have FO' : Hid (∀ W, (Instr.field 42 (.agg V) 4).run Tryz.prog W = .ok (.agg (hashArr h)) W) := fun W => by rw [← hh]; exact FO.out W
            rw [E1.out, hh] at EP
            rw [hh] at HLN
            clear hV hh E1 FO EO
            go_wp2_with fail
            refine (CO.out _).mono ?_
            rintro e w3 ⟨rfl, hb3⟩
            have M6 := Lib.hid (M5.out.later hb3)
            have fo := FO'.out
            clear hb3
            have TH := Lib.hid (there_of_row M6.out.rc 4 (hashArr h).size (by rw [hashArr_size, HLN.out]; exact CZ.out))
            have HI := Lib.hid (hash_info h HLN.out)
            have HO := Lib.hid (hashArr_one h)
            go_wp2_with (refine wpList_store_mid rfl 27 (.tmp 68) (.tmp 67) rfl r 4 (hashArr h) rfl rfl TH.out HI.out HO.out ?_)
            go_meet
            have R4 := heap_setCells_at (hcl h) 4 _ _ M6.out.rc
            rw [EP.out] at R4
            rw [hashArr_list]
            exact M6.out.put (Turned.setCells (F := fun k => k = r) (.inl rfl) (hcl h) 4 (Turned.of_below (Below.refl _ _))) R4
        case rest =>
          have M6 := Lib.hid hcut
          clear M5 c3 HBB
          have hx4 := x.stamp
          have g0 : (0 : Int) ≤ (x.stamp : Int) := by omega
          have g1 : (x.stamp : Int) ≤ 255 := by omega
          have w0 : (0 : Int) ≤ (x.wrong : Int) := by omega
          have w1 : (x.wrong : Int) ≤ 255 := by omega
          obtain ⟨wv, hwv⟩ : ∃ wv, x.wrong % 24 = wv := ⟨_, rfl⟩
          have wm : (x.wrong : Int) % 24 = (wv : Int) := by omega
          have HWV := Lib.hid hwv
          have OK1 : Hid (RcOk R1) := by
            have := OK0.out
            show RcOk R1
            rw [← HR1.out]
            exact ⟨this.kiosk, this.serial, this.seen, this.r, this.s, this.draw, outOf_len s, this.hash, this.prev⟩
          have CDE := Lib.hid (fun W => decimal_any (x.stamp : Int) W ⟨g0, by omega⟩)
          have itz := itoa_size (z := (x.stamp : Int)) ⟨by omega, by omega⟩
          have ES : Hid ((⟨#[115, 101, 97, 108, 32]⟩ : ByteArray) ++ bstr (Lib.itoa (x.stamp : Int)) = bstr (sealText x.stamp)) := by
            apply ByteArray.ext
            simp [bstr, ByteArray.data_append, sealText]
          obtain ⟨ti, hti⟩ : ∃ ti, bstr (Lib.itoa (x.stamp : Int)) = ti := ⟨_, rfl⟩
          have TI : ti.size ≤ 40 := by rw [← hti, bstr_size]; omega
          rw [hti] at CDE ES
          obtain ⟨sh, hsh⟩ : ∃ h, sealHash x.stamp = h := ⟨_, rfl⟩
          have SHL := Lib.hid (show sh.length = 32 by rw [← hsh]; exact sealHash_len _)
          have CSU := Lib.hid (fun W => rsum_is (bstr (sealText x.stamp)) sh W (by rw [bstr_size]; simp only [sealText, List.length_append, List.length_cons, List.length_nil]; omega) hsh)
          rw [← ES.out] at CSU
          have EP := Lib.hid (rc_put_hash OK1.out sh SHL.out)
          obtain ⟨R2, hR2⟩ : ∃ R2 : Rc, { R1 with hash := sh } = R2 := ⟨_, rfl⟩
          rw [hR2] at EP
          have HI := Lib.hid (hash_info sh SHL.out)
          have HO := Lib.hid (hashArr_one sh)
          have CZ := Lib.hid (show 36 + 32 ≤ (rcArr R1).size by rw [rcArr_size OK1.out]; omega)
          have c3 := M6.out.nums.2.2.2.2.1
          have HSH := Lib.hid hsh
          have GB : Hid (gbase x (st n) = R2) := by
            show _ = _
            rw [← hR2, ← HR1.out, ← HR0.out, ← hsh]
            unfold gbase
            have e1 : (x.kiosk % 4) = n := HNN.out
            have e2 : s = sn + (m : Int) := by rw [← HS0.out, ← HR0.out]
            have e3 : (st n).prev = p0 := by have := HP0.out; rw [← HPV.out] at this; exact this
            rw [e1, HSN.out, HSR.out, HM.out, HDN.out, e2, e3]
          clear hwv hti hsh hR2 itz
          go_wp2_with fail
          refine (CDE.out _).mono ?_
          rintro e w7 ⟨rfl, b7⟩
          have M7 := Lib.hid (M6.out.later b7)
          clear b7 c3 M6
          go_wp2_with fail
          refine (CSU.out _).mono ?_
          rintro e w8 ⟨rfl, b8⟩
          have M8 := Lib.hid (M7.out.later b8)
          clear b8 M7
          have TH := Lib.hid (there_of_row M8.out.rc 36 (hashArr sh).size (by rw [hashArr_size, SHL.out]; exact CZ.out))
          go_upto_region 16 with (refine wpList_store_mid rfl 27 (.tmp 75) (.tmp 74) rfl r 36 (hashArr sh) rfl rfl TH.out HI.out HO.out ?_)
          have R4 := heap_setCells_at (hcl sh) 36 _ _ M8.out.rc
          rw [EP.out] at R4
          rw [hashArr_list]
          have M9 := Lib.hid (M8.out.put (Turned.setCells (F := fun k => k = r) (.inl rfl) (hcl sh) 36 (Turned.of_below (Below.refl _ _))) R4)
          clear R4 M8 TH CDE CSU EP HI HO CZ
          generalize w8.setCells r 36 (hcl sh) = w9 at *
          have c4 := M9.out.nums.2.2.2.2.2
          have CSE := Lib.hid (fun W => secret_any n W (by omega))
          go_wp2_with fail
          refine (CSE.out _).mono ?_
          rintro e w' ⟨rfl, rfl⟩
          go_upto_block 2 with fail
          have SM2 : Hid (RcSm R2) := by
            have := gbase_sm (x := x) PK.out (by omega)
            rw [HNN.out, GB.out] at this
            exact this
          have z0 : Hid (R2.serial ≤ 900) := by
            show R2.serial ≤ 900
            rw [← GB.out]
            show (st n).serial + 1 ≤ 900
            rw [HSR.out]; omega
          obtain ⟨z, hz⟩ : ∃ z, R2.seen = z := ⟨_, rfl⟩
          have zn : 0 ≤ z := by rw [← hz]; exact SM2.out.n.1
          have zx : z ≤ 900 := by
            rw [← hz, ← GB.out]
            show (st n).seen + ((x.seen % 3 : Nat) : Int) ≤ 900
            rw [HSN.out, HM.out]; omega
          have HZ := Lib.hid hz
          have N9 := Lib.hid M9.out.nums
          have OK2 := Lib.hid SM2.out.ok
          have GE : Hid (wv ≠ 4 → gextra x (st n) = []) := fun h => by
            unfold gextra
            rw [if_neg (by rw [HWV.out]; exact h)]
          have F5 := Lib.hid (show (5000 + 3 * n : Int) = ((5000 + 3 * n : Nat) : Int) by omega)
          clear hz c4 CSE
          rw [wm]
          go_cut [3, 11] (fun v3 v11 wx => v11 = .int .i64 ((gsec wv n : Nat) : Int) ∧ SalMid w wx S N P q r f gg pv x v3 (L0 ++ gextra x (st n)) (gbent wv R2))
          case first =>
            have hcase : wv = 1 ∨ wv = 2 ∨ wv = 3 ∨ wv = 4 ∨ wv = 5 ∨ wv = 6 ∨ wv = 7 ∨ (wv ≠ 1 ∧ wv ≠ 2 ∧ wv ≠ 3 ∧ wv ≠ 4 ∧ wv ≠ 5 ∧ wv ≠ 6 ∧ wv ≠ 7) := by omega
            rcases hcase with hw | hw | hw | hw | hw | hw | hw | hw
            · have t1 := int_t (a := wv) (c := 1) (by omega)
              have k3 : w9.cell? ⟨r, 3, none⟩ = some (.int .i64 z) := by rw [← HZ.out]; exact N9.out.2.1
              have f3 := N9.out.2.2.2.1
              have HW := Lib.hid hw
              clear hw
              obtain ⟨y, hy⟩ : ∃ y, max 0 (z - 2) = y := ⟨_, rfl⟩
              have y0 : 0 ≤ y := by omega
              have y1 : y ≤ 900 := by omega
              have HY := Lib.hid hy
              go_upto_region 20 with fail
              have X3 := heap_setCell_at (o := 3) M9.out.rc (.int .i64 y)
              rw [rc_set_seen] at X3
              have M10 := Lib.hid (M9.out.put (Turned.setCell (F := fun k => k = r) (Turned.of_below (Below.refl _ _)) (.inl rfl) 3 (.int .i64 y)) X3)
              clear hy X3 k3 f3 M9 t1
              generalize w9.setCell ⟨r, 3, none⟩ (.int .i64 y) = w10 at *
              have OK3 := Lib.hid (sm_seen SM2.out y0 (by omega)).ok
              obtain ⟨R3, hR3⟩ : ∃ R3 : Rc, { R2 with seen := y } = R3 := ⟨_, rfl⟩
              rw [hR3] at OK3 M10
              have HR3 := Lib.hid hR3
              have EP := Lib.hid (rc_put_output OK3.out zeroH zeroH_length)
              have CZ := Lib.hid (show 4 + 32 ≤ (rcArr R3).size by rw [rcArr_size OK3.out]; omega)
              have HLZ := Lib.hid zeroH_length
              have TH := Lib.hid (there_of_row M10.out.rc 4 (hashArr zeroH).size (by rw [hashArr_size, HLZ.out]; exact CZ.out))
              have HI := Lib.hid (hash_info zeroH HLZ.out)
              have HO := Lib.hid (hashArr_one zeroH)
              clear hR3
              go_upto_region 21 with (first
                | (refine wpList_store_mid rfl 27 (.tmp 89) (.tmp 88) rfl r 4 (hashArr zeroH) rfl rfl TH.out HI.out HO.out ?_))
              have R4 := heap_setCells_at (hcl zeroH) 4 _ _ M10.out.rc
              rw [EP.out] at R4
              rw [hashArr_list]
              have M11 := Lib.hid (M10.out.put (Turned.setCells (F := fun k => k = r) (.inl rfl) (hcl zeroH) 4 (Turned.of_below (Below.refl _ _))) R4)
              clear R4 M10 TH EP HI HO CZ
              generalize w10.setCells r 4 (hcl zeroH) = w11 at *
              obtain ⟨R4, hR4⟩ : ∃ R4 : Rc, { R3 with output := zeroH } = R4 := ⟨_, rfl⟩
              rw [hR4] at M11
              have OK4 : Hid (RcOk R4) := by
                have := OK3.out
                show RcOk R4
                rw [← hR4]
                exact ⟨this.kiosk, this.serial, this.seen, this.r, this.s, this.draw, HLZ.out, this.hash, this.prev⟩
              have c3 := M11.out.nums.2.1
              have es : R4.seen = y := by rw [← hR4, ← HR3.out]
              rw [es] at c3
              have GB1 : Hid ({ R4 with output := Mg.outOf X0 y } = gbent wv R2) := by
                show _ = _
                have hw1 : wv = 1 := HW.out
                unfold gbent
                rw [if_pos hw1, HZ.out, HY.out, ← hR4, ← HR3.out]
              have HR4 := Lib.hid hR4
              obtain ⟨bb, hbb⟩ : ∃ bb, decide (0 < y) = bb := ⟨_, rfl⟩
              have HBB := Lib.hid hbb
              have GS : Hid ((5000 + 3 * n : Int) = ((gsec wv n : Nat) : Int)) := by
                show _ = _
                have hw1 : wv = 1 := HW.out
                rw [F5.out]
                unfold gsec
                rw [if_neg (by omega)]
              have GE1 := Lib.hid (GE.out (by have hw1 : wv = 1 := HW.out; omega))
              clear hR4 es hbb
              cases bb
              · have d0 : decide (0 < y) = false := HBB.out
                go_wp2_with fail
                go_meet
                refine ⟨by rw [GS.out], ?_⟩
                rw [GE1.out, List.append_nil, ← GB1.out]
                have ho : Mg.outOf X0 y = R4.output := by
                  have h0 : y = 0 := by have := of_decide_eq_false HBB.out; omega
                  rw [← HR4.out, h0]; rfl
                rw [ho]; exact M11.out
              · have d0 : decide (0 < y) = true := HBB.out
                have E1 : Hid (Mg.outOf X0 y = outHash y) := by
                  have h0 : 0 < y := of_decide_eq_true HBB.out
                  show _ = _
                  unfold Mg.outOf
                  rw [if_neg (by omega)]
                  rfl
                have CO := Lib.hid (fun W => output_any y ⟨y0, by omega⟩ W)
                have FO := Lib.hid (fun W => run_field_ot (o := otOf y (outHash y)) (otOf_ok ⟨by omega, by omega⟩ (outHash_len y)) W)
                have EP := Lib.hid (rc_put_output OK4.out (outHash y) (outHash_len y))
                have HLN := Lib.hid (outHash_len y)
                rw [← E1.out, GB1.out] at EP
                have CZ := Lib.hid (show 4 + 32 ≤ (rcArr R4).size by rw [rcArr_size OK4.out]; omega)
                obtain ⟨V, hV⟩ : ∃ V, otArr (otOf y (outHash y)) = V := ⟨_, rfl⟩
                rw [hV] at CO FO
                obtain ⟨h, hh⟩ : ∃ h, outHash y = h := ⟨_, rfl⟩
                have FO' : Hid (∀ W, (Instr.field 42 (.agg V) 4).run Tryz.prog W = .ok (.agg (hashArr h)) W) := fun W => by rw [← hh]; exact FO.out W
                rw [E1.out, hh] at EP
                rw [hh] at HLN
                clear hV hh E1 FO
                go_wp2_with fail
                refine (CO.out _).mono ?_
                rintro e w12 ⟨rfl, hb3⟩
                have M12 := Lib.hid (M11.out.later hb3)
                have fo := FO'.out
                clear hb3
                have TH := Lib.hid (there_of_row M12.out.rc 4 (hashArr h).size (by rw [hashArr_size, HLN.out]; exact CZ.out))
                have HI := Lib.hid (hash_info h HLN.out)
                have HO := Lib.hid (hashArr_one h)
                go_wp2_with (refine wpList_store_mid rfl 27 (.tmp 97) (.tmp 96) rfl r 4 (hashArr h) rfl rfl TH.out HI.out HO.out ?_; simp only [Act.put])
                go_meet
                have R5 := heap_setCells_at (hcl h) 4 _ _ M12.out.rc
                rw [EP.out] at R5
                rw [hashArr_list]
                refine ⟨by rw [GS.out], ?_⟩
                rw [GE1.out, List.append_nil]
                exact M12.out.put (Turned.setCells (F := fun k => k = r) (.inl rfl) (hcl h) 4 (Turned.of_below (Below.refl _ _))) R5
            · have t1 := int_f (a := wv) (c := 1) (by omega)
              have t2 := int_t (a := wv) (c := 2) (by omega)
              have HW := Lib.hid hw
              have GS : Hid ((5000 + 3 * n : Int) = ((gsec wv n : Nat) : Int)) := by
                show _ = _
                have hw1 := HW.out
                rw [F5.out]
                unfold gsec
                rw [if_neg (by omega)]
              have GE1 := Lib.hid (GE.out (by have hw1 := HW.out; omega))
              obtain ⟨b, hb⟩ : ∃ b, R2.output.getD 3 0 = b := ⟨_, rfl⟩
              have kb : w9.cell? ⟨r, 7, none⟩ = some (.int .u8 (b.toNat : Int)) := by
                have := (rc_byte OK2.out M9.out.rc (k := 3) (by omega)).1
                rw [hb] at this
                exact this
              have fb : w9.frozen? ⟨r, 7, none⟩ = false := frozen_of_row _ _ _ _ _ M9.out.rc
              have GB1 : Hid ({ R2 with output := R2.output.set 3 (b ^^^ 1) } = gbent wv R2) := by
                show _ = _
                have hw1 : wv = 2 := HW.out
                unfold gbent flip
                rw [if_neg (by omega), if_pos hw1, hb]
              have HB := Lib.hid hb
              clear hb hw
              go_wp2_with fail
              go_meet
              refine ⟨by rw [GS.out], ?_⟩
              rw [GE1.out, List.append_nil, flip_byte]
              have X3 := heap_setCell_at (o := 4 + 3) M9.out.rc (.int .u8 ((b ^^^ 1).toNat : Int))
              rw [rc_set_output OK2.out 3 (by omega), GB1.out] at X3
              exact M9.out.put (Turned.setCell (F := fun k => k = r) (Turned.of_below (Below.refl _ _)) (.inl rfl) 7 (.int .u8 ((b ^^^ 1).toNat : Int))) X3
            · have t1 := int_f (a := wv) (c := 1) (by omega)
              have t2 := int_f (a := wv) (c := 2) (by omega)
              have t3 := int_t (a := wv) (c := 3) (by omega)
              have HW := Lib.hid hw
              have GS : Hid ((5000 + 3 * n : Int) = ((gsec wv n : Nat) : Int)) := by
                show _ = _
                have hw1 := HW.out
                rw [F5.out]
                unfold gsec
                rw [if_neg (by omega)]
              have GE1 := Lib.hid (GE.out (by have hw1 := HW.out; omega))
              obtain ⟨b, hb⟩ : ∃ b, R2.prev.getD 4 0 = b := ⟨_, rfl⟩
              have kb : w9.cell? ⟨r, 72, none⟩ = some (.int .u8 (b.toNat : Int)) := by
                have := (rc_byte OK2.out M9.out.rc (k := 4) (by omega)).2.2
                rw [hb] at this
                exact this
              have fb : w9.frozen? ⟨r, 72, none⟩ = false := frozen_of_row _ _ _ _ _ M9.out.rc
              have GB1 : Hid ({ R2 with prev := R2.prev.set 4 (b ^^^ 1) } = gbent wv R2) := by
                show _ = _
                have hw1 : wv = 3 := HW.out
                unfold gbent flip
                rw [if_neg (by omega), if_neg (by omega), if_pos hw1, hb]
              have HB := Lib.hid hb
              clear hb hw
              go_wp2_with fail
              go_meet
              refine ⟨by rw [GS.out], ?_⟩
              rw [GE1.out, List.append_nil, flip_byte]
              have X3 := heap_setCell_at (o := 68 + 4) M9.out.rc (.int .u8 ((b ^^^ 1).toNat : Int))
              rw [rc_set_prev OK2.out 4 (by omega), GB1.out] at X3
              exact M9.out.put (Turned.setCell (F := fun k => k = r) (Turned.of_below (Below.refl _ _)) (.inl rfl) 72 (.int .u8 ((b ^^^ 1).toNat : Int))) X3
            · have t1 := int_f (a := wv) (c := 1) (by omega)
              have t2 := int_f (a := wv) (c := 2) (by omega)
              have t3 := int_f (a := wv) (c := 3) (by omega)
              have t4 := int_t (a := wv) (c := 4) (by omega)
              have HW := Lib.hid hw
              have RI2 := Lib.hid (rc_info OK2.out)
              have RO2 := Lib.hid (rcArr_one R2)
              have RZ2 := Lib.hid (show (rcArr rc0).size = (rcArr R2).size by rw [rcArr_size rc0_ok, rcArr_size OK2.out])
              have E3 := Lib.hid (World.setRow_alloc_new w9 (rcArr rc0) (rcArr R2) 31)
              have F3 := Lib.hid (heap_alloc_new w9 (.cells (rcArr rc0) 31))
              have O10 := Lib.hid (heap_alloc_new w9 (.cells (rcArr R2) 31))
              have T10 : Hid (Turned (fun k => k = r) w9 (w9.alloc (.cells (rcArr R2) 31))) := Turned.of_below ((Below.refl _ _).alloc (Nat.le_refl _) _)
              have R10 := Lib.hid (heap_below M9.out.rc ((Below.refl w9.heap.size w9).alloc (Nat.le_refl _) (.cells (rcArr R2) 31)))
              clear hw
              go_upto_region 29 with (first
                | (refine wpList_load_row rfl 31 (.tmp 10) rfl r rfl 31 (rcArr R2) (0, 0) _ M9.out.rc Tryz.underlying31 rfl RI2.out ?_)
                | (refine wpList_store_row rfl 31 (.tmp 12) (.tmp 116) rfl w9.heap.size (rcArr R2) rfl rfl 31 _ F3.out RI2.out RZ2.out RO2.out ?_; rw [E3.out]; simp only [Act.put]))
              obtain ⟨o2, ho2⟩ : ∃ o, w9.heap.size = o := ⟨_, rfl⟩
              have ro : Hid (r < o2) := by show r < o2; rw [← ho2]; exact M9.out.lt
              rw [ho2] at O10 ⊢
              have HO2 := Lib.hid ho2
              generalize w9.alloc (.cells (rcArr R2) 31) = w10 at *
              obtain ⟨b, hb⟩ : ∃ b, R2.hash.getD 0 0 = b := ⟨_, rfl⟩
              have kb : w10.cell? ⟨o2, 36, none⟩ = some (.int .u8 (b.toNat : Int)) := by
                have := (rc_byte OK2.out O10.out (k := 0) (by omega)).2.1
                rw [hb] at this
                exact this
              have fb : w10.frozen? ⟨o2, 36, none⟩ = false := frozen_of_row _ _ _ _ _ O10.out
              obtain ⟨R3, hR3⟩ : ∃ R3 : Rc, { R2 with hash := R2.hash.set 0 (b ^^^ 1) } = R3 := ⟨_, rfl⟩
              have SM3 : Hid (RcSm R3) := by
                show RcSm R3
                rw [← hR3]
                exact sm_hash SM2.out (by rw [List.length_set]; exact OK2.out.hash)
              have HB := Lib.hid hb
              have HR3 := Lib.hid hR3
              clear E3 F3 ho2 hb hR3 t1 t2 t3 t4
              go_upto_region 30 with fail
              rw [flip_byte]
              have X3 := heap_setCell_at (o := 36 + 0) O10.out (.int .u8 ((b ^^^ 1).toNat : Int))
              rw [rc_set_hash OK2.out 0 (by omega), HR3.out] at X3
              have T11 := T10.out.setCell (b := o2) (.inr (by rw [HO2.out]; exact Nat.le_refl _)) 36 (.int .u8 ((b ^^^ 1).toNat : Int))
              have R11 := (Below.heap_setCell w10 ⟨o2, 36, none⟩ (.int .u8 ((b ^^^ 1).toNat : Int)) r (by show r ≠ o2; have := ro.out; omega)).trans R10.out
              have M11 := Lib.hid (M9.out.put T11 R11)
              have X3 : Hid ((w10.setCell ⟨o2, 36, none⟩ (.int .u8 ((b ^^^ 1).toNat : Int))).heap[o2]? = some (.cells (rcArr R3) 31 (0, 0))) := X3
              clear kb fb T11 R11 T10 R10 O10 M9
              generalize w10.setCell ⟨o2, 36, none⟩ (.int .u8 ((b ^^^ 1).toNat : Int)) = w11 at *
              have CS := Lib.hid (fun W => signed_any (5000 + 3 * n) 1152921504606845789 2305843009213691579 R3 SM3.out W rfl rfl (by omega))
              have SG := Lib.hid (signed_sm 1152921504606845789 2305843009213691579 (5000 + 3 * n) rfl rfl SM3.out)
              have GX : Hid (gextra x (st n) = [R3.signed sc 1152921504606845789 2305843009213691579 (5000 + 3 * n)]) := by
                show _ = _
                have hw1 : wv = 4 := HW.out
                unfold gextra
                rw [if_pos (by rw [HWV.out]; exact hw1), HNN.out, GB.out]
                unfold flip
                rw [HB.out, HR3.out]
                rfl
              have GB1 : Hid (gbent wv R2 = R2) := by
                show _ = _
                have hw1 : wv = 4 := HW.out
                unfold gbent
                rw [if_neg (by omega), if_neg (by omega), if_neg (by omega), if_neg (by omega), if_neg (by omega)]
              have GS : Hid ((5000 + 3 * n : Int) = ((gsec wv n : Nat) : Int)) := by
                show _ = _
                have hw1 : wv = 4 := HW.out
                rw [F5.out]
                unfold gsec
                rw [if_neg (by omega)]
              rw [← F5.out] at CS
              obtain ⟨E1, hE1⟩ : ∃ E1, R3.signed sc 1152921504606845789 2305843009213691579 (5000 + 3 * n) = E1 := ⟨_, rfl⟩
              rw [hE1] at CS SG GX
              have OKE := Lib.hid SG.out.ok
              have RI3 := Lib.hid (rc_info SM3.out.ok)
              clear hE1 SM3
              go_wp2_with (refine wpList_load_row rfl 31 (.tmp 12) rfl o2 rfl 31 (rcArr R3) (0, 0) _ X3.out Tryz.underlying31 rfl RI3.out ?_)
              refine (CS.out _).mono ?_
              rintro e w12 ⟨rfl, b12⟩
              have M12 := Lib.hid (M11.out.later b12)
              clear b12 X3 CS M11
              have bz : Below w12.heap.size w12 (w12.alloc (.cells (rcK.enc E1).toArray rcK.ty)) := (Below.refl _ _).alloc (Nat.le_refl _) _
              have MZ := Lib.hid (M12.out.later bz)
              have NZ := Lib.hid (heap_alloc_new w12 (.cells (rcK.enc E1).toArray rcK.ty))
              have LZ : Hid (L0.length ≤ 100000) := by show _ ≤ _; have := LN0.out; omega
              obtain ⟨B, hB⟩ : ∃ B, (if L0 = [] then w12.heap.size else w.heap.size + 3) = B := ⟨_, rfl⟩
              have OB : Hid (OwnsR rcK (w12.alloc (.cells (rcK.enc E1).toArray rcK.ty)) B u3 L0) := by
                by_cases he : L0 = []
                · rw [if_pos he] at hB
                  have hv := MZ.out.nz he
                  rw [hv, he]; exact OwnsR.nil _ _ _
                · rw [if_neg he] at hB
                  rw [← hB]; exact MZ.out.row
              have hBn : L0 = [] → r < B := fun he => by
                rw [if_pos he] at hB
                rw [← hB]
                exact M12.out.lt
              have hBl : w.heap.size + 3 ≤ B := by
                have := M12.out.lo.1
                have := M12.out.lt
                rw [← hB]; split <;> omega
              have hBu : B ≤ (w12.alloc (.cells (rcK.enc E1).toArray rcK.ty)).heap.size := by
                have := M12.out.lo.1
                have := M12.out.lt
                have := bz.size
                rw [← hB]; split <;> omega
              have HBn := Lib.hid hBn
              have HBl := Lib.hid hBl
              have HBu := Lib.hid hBu
              clear hB hBn hBl hBu bz M12
              go_wp2_with (first
                | (refine wpList_build_r rcK rfl (.tmp 126) rfl OKE.out (.agg (rcArr E1)) rfl rfl ?_)
                | (at_builtin; refine wpList_append_r rcK rfl (.tmp 123) (.tmp 127) rfl B u3 L0 E1 w12.heap.size rfl rfl OB.out OKE.out NZ.out LZ.out HBu.out ?_; intro v5' w8' hown8 hg8))
              go_meet
              refine ⟨by rw [GS.out], ?_⟩
              rw [GX.out, GB1.out]
              have hq1 : ∀ {k : Nat} {o : Obj}, (w12.alloc (.cells (rcK.enc E1).toArray rcK.ty)).heap[k]? = some o → u3.ownBlock ≠ some k → w8'.heap[k]? = some o := fun {k o} hk hne => (hg8.block k (rc_block_lt hk) (fun e => hne e.symm)).trans hk
              have hS : ∀ {k : Nat}, k < w.heap.size + 3 → u3.ownBlock ≠ some k := fun {k} hk e => by
                have := (MZ.out.row.base_le k e).1
                omega
              have sn3 := SN.out
              exact ⟨⟨hq1 MZ.out.at4.1 (hS (by omega)), hq1 MZ.out.at4.2.1 (hS (by omega)), hq1 MZ.out.at4.2.2.1 (hS (by omega)), hq1 MZ.out.at4.2.2.2 (own_ne_blk MZ.out.row MZ.out.at4.2.2.2 (by decide))⟩,
                hq1 MZ.out.rc (fun e => MZ.out.ne r e rfl), hown8.mono HBl.out, MZ.out.below.grown hg8 MZ.out.below.size (fun b e => by have := (MZ.out.row.base_le b e).1; omega),
                append_ne hown8 hg8 MZ.out.rc OK2.out MZ.out.ne HBn.out, MZ.out.lo, fun h => by simp at h⟩
            · have t1 := int_f (a := wv) (c := 1) (by omega)
              have t2 := int_f (a := wv) (c := 2) (by omega)
              have t3 := int_f (a := wv) (c := 3) (by omega)
              have t4 := int_f (a := wv) (c := 4) (by omega)
              have t5 := int_t (a := wv) (c := 5) (by omega)
              have HW := Lib.hid hw
              have GS : Hid ((5000 + 3 * n + 1 : Int) = ((gsec wv n : Nat) : Int)) := by
                show _ = _
                have hw1 : wv = 5 := HW.out
                unfold gsec
                rw [if_pos hw1]
                omega
              have GE1 := Lib.hid (GE.out (by have hw1 : wv = 5 := HW.out; omega))
              have GB1 : Hid (gbent wv R2 = R2) := by
                show _ = _
                have hw1 : wv = 5 := HW.out
                unfold gbent
                rw [if_neg (by omega), if_neg (by omega), if_neg (by omega), if_neg (by omega), if_neg (by omega)]
              clear hw
              go_wp2_with fail
              go_meet
              refine ⟨by rw [← GS.out], ?_⟩
              rw [GE1.out, List.append_nil, GB1.out]
              exact M9.out
            · have t1 := int_f (a := wv) (c := 1) (by omega)
              have t2 := int_f (a := wv) (c := 2) (by omega)
              have t3 := int_f (a := wv) (c := 3) (by omega)
              have t4 := int_f (a := wv) (c := 4) (by omega)
              have t5 := int_f (a := wv) (c := 5) (by omega)
              have t6 := int_t (a := wv) (c := 6) (by omega)
              have HW := Lib.hid hw
              have GS : Hid ((5000 + 3 * n : Int) = ((gsec wv n : Nat) : Int)) := by
                show _ = _
                have hw1 := HW.out
                rw [F5.out]
                unfold gsec
                rw [if_neg (by omega)]
              have GE1 := Lib.hid (GE.out (by have hw1 := HW.out; omega))
              obtain ⟨y, hy⟩ : ∃ y, R2.serial = y := ⟨_, rfl⟩
              have k1 : w9.cell? ⟨r, 1, none⟩ = some (.int .i64 y) := by rw [← hy]; exact N9.out.1
              have f1 := N9.out.2.2.1
              have y0 : 0 ≤ y := by rw [← hy]; exact SM2.out.s.1
              have y1 : y ≤ 900 := by rw [← hy]; exact z0.out
              have GB1 : Hid ({ R2 with serial := y + 1 } = gbent wv R2) := by
                show _ = _
                have hw1 : wv = 6 := HW.out
                unfold gbent
                rw [if_neg (by omega), if_neg (by omega), if_neg (by omega), if_pos hw1, hy]
              clear hy hw
              go_wp2_with fail
              go_meet
              refine ⟨by rw [GS.out], ?_⟩
              rw [GE1.out, List.append_nil]
              have X3 := heap_setCell_at (o := 1) M9.out.rc (.int .i64 (y + 1))
              rw [rc_set_serial, GB1.out] at X3
              exact M9.out.put (Turned.setCell (F := fun k => k = r) (Turned.of_below (Below.refl _ _)) (.inl rfl) 1 (.int .i64 (y + 1))) X3
            · have t1 := int_f (a := wv) (c := 1) (by omega)
              have t2 := int_f (a := wv) (c := 2) (by omega)
              have t3 := int_f (a := wv) (c := 3) (by omega)
              have t4 := int_f (a := wv) (c := 4) (by omega)
              have t5 := int_f (a := wv) (c := 5) (by omega)
              have t6 := int_f (a := wv) (c := 6) (by omega)
              have t7 := int_t (a := wv) (c := 7) (by omega)
              have HW := Lib.hid hw
              have GS : Hid ((5000 + 3 * n : Int) = ((gsec wv n : Nat) : Int)) := by
                show _ = _
                have hw1 := HW.out
                rw [F5.out]
                unfold gsec
                rw [if_neg (by omega)]
              have GE1 := Lib.hid (GE.out (by have hw1 := HW.out; omega))
              have k3 := N9.out.2.1
              have f3 := N9.out.2.2.2.1
              obtain ⟨b, hb⟩ : ∃ b, R2.output.getD 5 0 = b := ⟨_, rfl⟩
              have GB1 : Hid ({ ({ R2 with seen := 0 } : Rc) with output := R2.output.set 5 (b ^^^ 1) } = gbent wv R2) := by
                show _ = _
                have hw1 : wv = 7 := HW.out
                unfold gbent flip
                rw [if_neg (by omega), if_neg (by omega), if_neg (by omega), if_neg (by omega), if_pos hw1, hb]
              have OK3 := Lib.hid (sm_seen SM2.out (s := 0) (by omega) (by omega)).ok
              have HB := Lib.hid hb
              clear hb hw
              go_upto_region 37 with fail
              have X3 := heap_setCell_at (o := 3) M9.out.rc (.int .i64 0)
              rw [rc_set_seen] at X3
              have M10 := Lib.hid (M9.out.put (Turned.setCell (F := fun k => k = r) (Turned.of_below (Below.refl _ _)) (.inl rfl) 3 (.int .i64 0)) X3)
              clear X3 k3 f3 M9
              generalize w9.setCell ⟨r, 3, none⟩ (.int .i64 0) = w10 at *
              have kb : w10.cell? ⟨r, 9, none⟩ = some (.int .u8 (b.toNat : Int)) := by
                have := (rc_byte OK3.out M10.out.rc (k := 5) (by omega)).1
                have e : ({ R2 with seen := 0 } : Rc).output = R2.output := rfl
                rw [e, HB.out] at this
                exact this
              have fb : w10.frozen? ⟨r, 9, none⟩ = false := frozen_of_row _ _ _ _ _ M10.out.rc
              go_wp2_with fail
              go_meet
              refine ⟨by rw [GS.out], ?_⟩
              rw [GE1.out, List.append_nil, flip_byte]
              have X3 := heap_setCell_at (o := 4 + 5) M10.out.rc (.int .u8 ((b ^^^ 1).toNat : Int))
              rw [rc_set_output OK3.out 5 (by omega)] at X3
              have X4 := X3.trans (by rw [show ({ ({ R2 with seen := 0 } : Rc) with output := ({ R2 with seen := 0 } : Rc).output.set 5 (b ^^^ 1) } : Rc) = gbent wv R2 from GB1.out])
              exact M10.out.put (Turned.setCell (F := fun k => k = r) (Turned.of_below (Below.refl _ _)) (.inl rfl) 9 (.int .u8 ((b ^^^ 1).toNat : Int))) X4
            · have t1 := int_f (a := wv) (c := 1) (by omega)
              have t2 := int_f (a := wv) (c := 2) (by omega)
              have t3 := int_f (a := wv) (c := 3) (by omega)
              have t4 := int_f (a := wv) (c := 4) (by omega)
              have t5 := int_f (a := wv) (c := 5) (by omega)
              have t6 := int_f (a := wv) (c := 6) (by omega)
              have t7 := int_f (a := wv) (c := 7) (by omega)
              have HW := Lib.hid hw
              have GS : Hid ((5000 + 3 * n : Int) = ((gsec wv n : Nat) : Int)) := by
                show _ = _
                have hw1 := HW.out
                rw [F5.out]
                unfold gsec
                rw [if_neg (by omega)]
              have GE1 := Lib.hid (GE.out (by have hw1 := HW.out; omega))
              have GB1 : Hid (gbent wv R2 = R2) := by
                show _ = _
                have hw1 := HW.out
                unfold gbent
                rw [if_neg (by omega), if_neg (by omega), if_neg (by omega), if_neg (by omega), if_neg (by omega)]
              clear hw
              go_wp2_with fail
              go_meet
              refine ⟨by rw [GS.out], ?_⟩
              rw [GE1.out, List.append_nil, GB1.out]
              exact M9.out
          case rest =>
            obtain ⟨rfl, hm⟩ := hcut
            obtain ⟨R3, hR3⟩ : ∃ R3, gbent wv R2 = R3 := ⟨_, rfl⟩
            have SM3 : Hid (RcSm R3) := by
              show RcSm R3
              rw [← hR3]
              exact gbent_sm SM2.out wv z0.out (by rw [HZ.out]; exact zx)
            obtain ⟨sx, hsx⟩ : ∃ s, gsec wv n = s := ⟨_, rfl⟩
            have sx6 : sx ≤ 6000 := by rw [← hsx]; unfold gsec; split <;> omega
            have sx0 : (0 : Int) ≤ (sx : Int) := by omega
            obtain ⟨L1, hL1⟩ : ∃ L1, L0 ++ gextra x (st n) = L1 := ⟨_, rfl⟩
            have LN1 : Hid (L1.length ≤ 2 * i + 1) := by
              show _ ≤ _
              rw [← hL1, List.length_append]
              have := LN0.out
              have : (gextra x (st n)).length ≤ 1 := by unfold gextra; split <;> simp
              omega
            rw [hR3, hL1] at hm
            have M9 := Lib.hid hm
            have CS := Lib.hid (fun W => signed_any sx 1152921504606845789 2305843009213691579 R3 SM3.out W rfl rfl (by omega))
            have SG := Lib.hid (signed_sm 1152921504606845789 2305843009213691579 sx rfl rfl SM3.out)
            obtain ⟨R4, hR4⟩ : ∃ R4, R3.signed sc 1152921504606845789 2305843009213691579 sx = R4 := ⟨_, rfl⟩
            rw [hR4] at CS SG
            have GF : Hid (gfin x (st n) = R4) := by
              show _ = _
              rw [← hR4, ← hR3, ← hsx]
              unfold gfin
              rw [HWV.out, HNN.out, GB.out]
              rfl
            have OK3 := Lib.hid SM3.out.ok
            have OK4 := Lib.hid SG.out.ok
            have RI3 := Lib.hid (rc_info OK3.out)
            have RI4 := Lib.hid (rc_info OK4.out)
            have RO4 := Lib.hid (rcArr_one R4)
            have RZ4 := Lib.hid (show (rcArr R3).size = (rcArr R4).size by rw [rcArr_size OK3.out, rcArr_size OK4.out])
            have HL1 := Lib.hid hL1
            rw [hsx]
            clear hR3 hsx hL1 hR4 hm SM3 GE HWV z0 N9
            go_wp2_with (refine wpList_load_row rfl 31 (.tmp 10) rfl r rfl 31 (rcArr R3) (0, 0) _ M9.out.rc Tryz.underlying31 rfl RI3.out ?_)
            refine (CS.out _).mono ?_
            rintro e w10 ⟨rfl, b10⟩
            have M10 := Lib.hid (M9.out.later b10)
            clear b10 M9 CS
            go_upto_region 39 with (refine wpList_store_row rfl 31 (.tmp 10) (.tmp 150) rfl r (rcArr R4) rfl rfl 31 _ M10.out.rc RI4.out RZ4.out RO4.out ?_; simp only [Act.put])
            have M11 := Lib.hid (M10.out.put (Turned.setRow (F := fun k => k = r) (Turned.of_below (Below.refl _ _)) (.inl rfl) (rcArr R4)) (setRow_heap _ _ _ _ _ _ M10.out.rc))
            clear M10 RZ4 RI3 OK3
            generalize w10.setRow r (rcArr R4) = w11 at *
            have CH := Lib.hid (fun W => rchash_any R4 SG.out W)
            obtain ⟨h, hh⟩ : ∃ h, rch R4 = h := ⟨_, rfl⟩
            have HL4 := Lib.hid (show h.length = 32 by rw [← hh]; exact rch_length _)
            rw [hh] at CH
            have HH := Lib.hid hh
            clear hh
            go_wp2_with (refine wpList_load_row rfl 31 (.tmp 10) rfl r rfl 31 (rcArr R4) (0, 0) _ M11.out.rc Tryz.underlying31 rfl RI4.out ?_)
            refine (CH.out _).mono ?_
            rintro e w12 ⟨rfl, b12⟩
            have M12 := Lib.hid (M11.out.later b12)
            clear b12 M11 CH
            have TH := Lib.hid (there_of_row M12.out.at4.2.2.1 (n * 32) (hashArr h).size (by rw [hashArr_size, HL4.out, List.size_toArray, prevL_length PL.out]; omega))
            have HI := Lib.hid (hash_info h HL4.out)
            have HO := Lib.hid (hashArr_one h)
            have QP : Hid (q ≠ P) := by show q ≠ P; have := SN.out; have := SZ; have := HQ.out; omega
            go_upto_region 40 with (refine wpList_store_mid rfl 27 (.tmp 154) (.tmp 153) rfl P (n * 32) (hashArr h) rfl rfl TH.out HI.out HO.out ?_; simp only [Act.put])
            rw [hashArr_list]
            have M13 := Lib.hid (M12.out.putPrev PL.out n4 HL4.out SN.out.2.2.1 SN.out.2.2.2.2.2.1 SN.out.2.2.2.2.2.2.2.1 SN.out.2.2.2.2.2.2.2.2 QP.out)
            clear M12 TH HI HO
            generalize w12.setCells P (n * 32) (hcl h) = w13 at *
            have bz : Below w13.heap.size w13 (w13.alloc (.cells (rcK.enc R4).toArray rcK.ty)) := (Below.refl _ _).alloc (Nat.le_refl _) _
            have MZ := Lib.hid (M13.out.later bz)
            have NZ := Lib.hid (heap_alloc_new w13 (.cells (rcK.enc R4).toArray rcK.ty))
            have LZ : Hid (L1.length ≤ 100000) := by show _ ≤ _; have := LN1.out; omega
            have BU : Hid (w.heap.size + 3 ≤ (w13.alloc (.cells (rcK.enc R4).toArray rcK.ty)).heap.size) := by
              have := M13.out.lo.1
              have := M13.out.lt
              have := bz.size
              show _ ≤ _
              omega
            clear bz
            go_wp2_with (first
              | (refine wpList_load_row rfl 31 (.tmp 10) rfl r rfl 31 (rcArr R4) (0, 0) _ M13.out.rc Tryz.underlying31 rfl RI4.out ?_)
              | (refine wpList_build_r rcK rfl (.tmp 156) rfl OK4.out (.agg (rcArr R4)) rfl rfl ?_)
              | (at_builtin; refine wpList_append_r rcK rfl (.tmp 155) (.tmp 157) rfl (w.heap.size + 3) u3 L1 R4 w13.heap.size rfl rfl MZ.out.row OK4.out NZ.out LZ.out BU.out ?_; intro v5' w8' hown8 hg8))
            have eT : l.take (i + 1) = l.take i ++ [x] := take_succ_get HX.out
            have eG : gst pos0 (l.take (i + 1)) = Mg.put st n ⟨sr + 1, h, sn + (m : Int)⟩ := by
              rw [eT, gst_snoc, HST.out, HNN.out]
              unfold gnext
              rw [HSR.out, GF.out, HH.out, HSN.out, HM.out]
            have eL : gsales pos0 (l.take (i + 1)) = L1 ++ [R4] := by
              rw [eT, gsales_snoc, HST.out, HNN.out, GF.out, ← List.append_assoc, HL0.out, HL1.out]
            have e1 : (fun j => (gst pos0 (l.take (i + 1)) j).serial) = f := by
              rw [eG, ← HF.out]
              funext j
              unfold Mg.put
              split <;> rfl
            have e2 : (fun j => (gst pos0 (l.take (i + 1)) j).seen) = gg := by
              rw [eG, ← HG.out]
              funext j
              unfold Mg.put
              split <;> rfl
            have e3 : (fun j => (gst pos0 (l.take (i + 1)) j).prev) = fun j => if j = n then h else pv j := by
              rw [eG, ← HPV.out]
              funext j
              unfold Mg.put
              split <;> rfl
            have hq1 : ∀ {k : Nat} {o : Obj}, (w13.alloc (.cells (rcK.enc R4).toArray rcK.ty)).heap[k]? = some o → k < w.heap.size + 3 → w8'.heap[k]? = some o := fun {k o} hk hlt => (hg8.block k (rc_block_lt hk) (fun e => by
              have := (MZ.out.row.base_le k e.symm).1
              omega)).trans hk
            have sn3 := SN.out
            refine ⟨⟨i + 1, hlt1, by omega, rfl, ?_⟩, by simp [intOf]; omega⟩
            refine ⟨by rw [e1]; exact hq1 MZ.out.at4.1 sn3.2.2.2.1, by rw [e2]; exact hq1 MZ.out.at4.2.1 sn3.2.2.2.2.1, by rw [e3]; exact hq1 MZ.out.at4.2.2.1 sn3.2.2.2.2.2.1, by rw [eL]; exact hown8, ?_, MZ.out.below.grown hg8 MZ.out.below.size (fun b e => by have := (MZ.out.row.base_le b e).1; omega), Nat.le_trans BU.out hg8.size, fun h => by rw [eL] at h; simp at h⟩
            rw [eL, List.length_append]
            have := LN1.out
            simp only [List.length_cons, List.length_nil]
            omega
    · have hend : i = L ∨ i = 24 := by omega
      have EL : Hid (gall l = gsales pos0 (l.take i)) := by
        show gsales pos0 (l.take 24) = _
        rcases hend with h | h
        · rw [List.take_of_length_le (by rw [HL.out]; omega), List.take_of_length_le (by rw [HL.out]; omega)]
        · rw [h]
      obtain ⟨b1, hb1⟩ : ∃ b, decide ((i : Int) < (L : Int)) = b := ⟨_, rfl⟩
      have d1n : decide (i < L) = b1 := by rw [← hb1]; exact decide_eq_decide.2 (by omega)
      have d2 : b1 = true → decide ((i : Int) < 24) = false := fun h => decide_eq_false (by rw [h] at hb1; have := of_decide_eq_true hb1; omega)
      clear hend hlt
      cases b1
      · clear d2
        go_wp2_with fail
        go_ret
        exact ⟨_, rfl, by rw [EL.out]; exact H.out.row.mono (by omega), H.out.below⟩
      · replace d2 := d2 rfl
        go_wp2_with fail
        go_ret
        exact ⟨_, rfl, by rw [EL.out]; exact H.out.row.mono (by omega), H.out.below⟩
end Go.Proofs.YtpblfpnldbdncaaGreatDoor
