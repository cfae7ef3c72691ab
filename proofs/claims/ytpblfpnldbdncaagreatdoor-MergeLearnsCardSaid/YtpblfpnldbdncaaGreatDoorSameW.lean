/- The contract of the law's same, where no kiosk is known. -/
import Derived.Test.YtpblfpnldbdncaaGreatDoorLearnsP
import Derived.Test.YtpblfpnldbdncaaGreatDoorLrnM
namespace Go.Proofs.YtpblfpnldbdncaaGreatDoor
open Go.RowKit Go.Sort Go.Maps
open Sg (Rc)
open Mg (Mst Jd H)
set_option linter.unusedVariables false
set_option maxRecDepth 100000
theorem four_at {W : World} {b : Nat} {t : TypeId} {fr : Nat × Nat} (h : W.heap[b]? = some (.cells #[.int .i64 0, .int .i64 1, .int .i64 3, .int .i64 100] t fr)) {j : Nat} (hj : j < 4) : ∃ z : Int, W.cell? ⟨b, j, none⟩ = some (.int .i64 z) := by
  match j, hj with
  | 0, _ => exact ⟨0, (cell_of_row _ _ 0 _ _ _ h).trans rfl⟩
  | 1, _ => exact ⟨1, (cell_of_row _ _ 1 _ _ _ h).trans rfl⟩
  | 2, _ => exact ⟨3, (cell_of_row _ _ 2 _ _ _ h).trans rfl⟩
  | 3, _ => exact ⟨100, (cell_of_row _ _ 3 _ _ _ h).trans rfl⟩
theorem same_nil {w : World} {v u : Value} (hA : LiesR rcK w v []) (hB : LiesR rcK w u []) :
    Calls Tryz.prog 36 #[v, u] w fun e w' => e = .returned (.bool true) ∧ Below w.heap.size w w' :=
  (same_rcs hA hB (by simp) (by simp)).mono fun e w' ⟨h1, h2⟩ => ⟨by rw [h1]; rfl, h2⟩
set_option maxHeartbeats 4000000 in
theorem same_has {pm pr n : Nat} {st : Mst} {L : List Ot} {w0 w : World} (h : Has ((MrgT pm st n).both (RMT pr L)) w0 w) (hl : LrnS st L) (hn : n ≤ 10000) (hL : L.length ≤ 1000) (hE : Env w0) :
    Calls Tryz.prog 31 #[.pointer (some ⟨pm, 0, none⟩), .pointer (some ⟨pr, 0, none⟩)] w fun e w' => e = .returned (.bool true) ∧ Below w.heap.size w w' := by
  have HH := Lib.hid h
  have HL := Lib.hid hl
  have HE := Lib.hid hE
  obtain ⟨vp, vo, vk, vc, hm⟩ := h.left.mrg
  obtain ⟨vr, hr⟩ := h.right.rm
  have hEw := hE.below h.base
  have CE := Lib.hid (encode_any hm hn hEw.1 hEw.2)
  have CR : Hid (∀ W, Below w.heap.size w W → Calls Tryz.prog 30 #[.pointer (some ⟨pr, 0, none⟩)] W fun e w' => e = .returned (.string (bstr (L.flatMap oLine))) ∧ Below W.heap.size W w') := fun W hb => rencode_any (hr.below hb) hL fun o ho => (hl.ok o ho).2
  have CV : Hid (∀ W, Below w.heap.size w W → Calls Tryz.prog 19 #[.pointer (some ⟨pm, 0, none⟩)] W (GivesRows evK W (evids st []))) := fun W hb => evids_has (h.left.below hb) hn hl.few hl.keys hE
  have CRV : Hid (∀ W, Below w.heap.size w W → Calls Tryz.prog 69 #[.pointer (some ⟨pr, 0, none⟩)] W fun e w' => e = .returned (.slice none 0 0) ∧ Below W.heap.size W w') := fun W hb => revid_any (hr.below hb)
  have CP : Hid (∀ d rd W, Below w.heap.size w W → Calls Tryz.prog 21 #[.pointer (some ⟨pm, 0, none⟩), .string (bstr d), .int .i64 rd] W (GivesRows rcK W (picks st [] (soon d rd)))) := fun d rd W hb => receipts_has (h.left.below hb) hn hl.few hl.keys d rd
  have CQ : Hid (∀ d rd W, Below w.heap.size w W → Calls Tryz.prog 25 #[.pointer (some ⟨pm, 0, none⟩), .string (bstr d), .int .i64 rd] W (GivesRows rcK W (picks st [] (late d rd)))) := fun d rd W hb => lates_has (h.left.below hb) hn hl.few hl.keys d rd
  have CRP : Hid (∀ d rd W, Below w.heap.size w W → Calls Tryz.prog 70 #[.pointer (some ⟨pr, 0, none⟩), .string d, .int .i64 rd] W fun e w' => e = .returned (.slice none 0 0) ∧ Below W.heap.size W w') := fun d rd W hb => rreceipts_any (hr.below hb) d rd
  have CRQ : Hid (∀ d rd W, Below w.heap.size w W → Calls Tryz.prog 71 #[.pointer (some ⟨pr, 0, none⟩), .string d, .int .i64 rd] W fun e w' => e = .returned (.slice none 0 0) ∧ Below W.heap.size W w') := fun d rd W hb => rlate_any (hr.below hb) d rd
  obtain ⟨T, hT⟩ : ∃ T, bstr (L.flatMap oLine) = T := ⟨_, rfl⟩
  rw [hT] at CR
  have HT := Lib.hid hT
  clear h hl hE hm hr hEw hT
  go_enter Tryz.func31, Tryz.ntmps31
  go_wp2_with fail
  refine CE.out.mono ?_
  rintro e w1 ⟨ko, ks, kc, k1, k2, k3, rfl, b1⟩
  rw [HL.out.text k1 k2 k3, HT.out]
  have B1 := Lib.hid b1
  clear k1 k2 k3 b1 CE
  go_wp2_with fail
  refine (CR.out w1 B1.out).mono ?_
  rintro e w2 ⟨rfl, b2⟩
  have B2 := Lib.hid (below_join B1.out b2)
  clear b2 CR B1
  go_wp2_with fail
  refine (CV.out w2 B2.out).mono ?_
  rintro e w3 ⟨v3, rfl, o3, b3⟩
  have o3 : OwnsR evK w3 w2.heap.size v3 [] := o3
  obtain ⟨ao, cap, rfl⟩ := own_nil_slice o3
  have B3 := Lib.hid (below_join B2.out b3)
  have O3 := Lib.hid o3
  clear b3 CV B2 o3
  go_wp2_with fail
  refine (CRV.out w3 B3.out).mono ?_
  rintro e w4 ⟨rfl, b4⟩
  have B4 := Lib.hid (below_join B3.out b4)
  have CS := Lib.hid (same_evs (O3.out.lies.below b4) (lies_nil_rc (R := evK) (w := w4)) (by simp))
  clear b4 CRV B3 O3
  go_wp2_with fail
  refine CS.out.mono ?_
  rintro e w5 ⟨rfl, b5⟩
  have B5 := Lib.hid (below_join B4.out b5)
  clear b5 CS B4
  go_wp2_with fail
  go_loopw [5, 22] (fun _ v22 wx => ∃ i : Nat, i ≤ 3 ∧ v22 = .int .i64 i ∧ Below w.heap.size w wx) (fun _ v22 _ => 3 - (intOf v22).toNat)
  case atStart => exact ⟨0, by omega, rfl, B5.out⟩
  case round =>
    obtain ⟨i, hi, rfl, hb⟩ := hrel
    have BW := Lib.hid hb
    clear hb B5
    by_cases hlt : i < 3
    · have d1 : decide ((i : Int) < 3) = true := decide_eq_true (by omega)
      have bz : Below wr.heap.size wr (wr.alloc (.cells #[.int .i64 0, .int .i64 1, .int .i64 3, .int .i64 100] 3)) := (Below.refl _ _).alloc (Nat.le_refl _) _
      have NZ := Lib.hid (heap_alloc_new wr (.cells #[.int .i64 0, .int .i64 1, .int .i64 3, .int .i64 100] 3))
      have BZ := Lib.hid (below_join BW.out bz)
      clear bz
      go_wp2_with fail
      obtain ⟨b4, hb4⟩ : ∃ b, wr.heap.size = b := ⟨_, rfl⟩
      rw [hb4] at NZ ⊢
      generalize wr.alloc (.cells #[.int .i64 0, .int .i64 1, .int .i64 3, .int .i64 100] 3) = WZ at *
      clear hb4
      go_loopw [7, 8, 27] (fun _ _ v27 wx => ∃ j : Nat, j ≤ 4 ∧ v27 = .int .i64 j ∧ Below w.heap.size w wx ∧ Below WZ.heap.size WZ wx) (fun _ _ v27 _ => 4 - (intOf v27).toNat)
      case atStart => exact ⟨0, by omega, rfl, BZ.out, Below.refl _ _⟩
      case round =>
        obtain ⟨j, hj, rfl, hb, hb2⟩ := hrel
        have BJ := Lib.hid hb
        have BK := Lib.hid hb2
        clear hb hb2
        by_cases hjt : j < 4
        · have d2 : decide ((j : Int) < 4) = true := decide_eq_true (by omega)
          obtain ⟨z, hz⟩ := four_at (heap_below NZ.out BK.out) hjt
          have z0 : (0 : Int) ≤ (j : Int) := by omega
          have z1 : (j : Int) < 4 := by omega
          have CD := Lib.hid (draw_any i wr (by omega))
          obtain ⟨D, hD⟩ : ∃ D, drawName i = D := ⟨_, rfl⟩
          rw [hD] at CD
          clear hD
          go_wp2_with fail
          refine CD.out.mono ?_
          rintro e w6 ⟨rfl, b6⟩
          have B6 := Lib.hid (below_join BJ.out b6)
          have B6K := Lib.hid (below_join BK.out b6)
          have C1 := Lib.hid (CP.out D z w6 B6.out)
          have R1 : Hid (∀ W, Below w.heap.size w W → Calls Tryz.prog 70 #[.pointer (some ⟨pr, 0, none⟩), .string (bstr D), .int .i64 z] W fun e w' => e = .returned (.slice none 0 0) ∧ Below W.heap.size W w') := fun W hb => CRP.out (bstr D) z W hb
          have C2 : Hid (∀ W, Below w.heap.size w W → Calls Tryz.prog 25 #[.pointer (some ⟨pm, 0, none⟩), .string (bstr D), .int .i64 z] W (GivesRows rcK W (picks st [] (late D z)))) := fun W hb => CQ.out D z W hb
          have R2 : Hid (∀ W, Below w.heap.size w W → Calls Tryz.prog 71 #[.pointer (some ⟨pr, 0, none⟩), .string (bstr D), .int .i64 z] W fun e w' => e = .returned (.slice none 0 0) ∧ Below W.heap.size W w') := fun W hb => CRQ.out (bstr D) z W hb
          obtain ⟨P1, hP1⟩ : ∃ P, picks st [] (soon D z) = P := ⟨_, rfl⟩
          obtain ⟨P2, hP2⟩ : ∃ P, picks st [] (late D z) = P := ⟨_, rfl⟩
          rw [hP1] at C1
          rw [hP2] at C2
          have E1 : P1 = [] := hP1.symm
          have E2 : P2 = [] := hP2.symm
          subst E1 E2
          obtain ⟨ds, hds⟩ : ∃ s, bstr D = s := ⟨_, rfl⟩
          rw [hds] at C1 R1 C2 R2
          rw [hds]
          clear hP1 hP2 hds b6 CD
          go_wp2_with fail
          refine C1.out.mono ?_
          rintro e w7 ⟨v7, rfl, o7, b7⟩
          obtain ⟨a7, c7, rfl⟩ := own_nil_slice o7
          have B7 := Lib.hid (below_join B6.out b7)
          have B7K := Lib.hid (below_join B6K.out b7)
          have O7 := Lib.hid o7
          clear b7 o7 C1 B6 B6K
          go_wp2_with fail
          refine (R1.out w7 B7.out).mono ?_
          rintro e w8 ⟨rfl, b8⟩
          have B8 := Lib.hid (below_join B7.out b8)
          have B8K := Lib.hid (below_join B7K.out b8)
          have CS1 := Lib.hid (same_nil (O7.out.lies.below b8) (lies_nil_rc (R := rcK) (w := w8)))
          clear b8 B7 B7K O7 R1
          go_wp2_with fail
          refine CS1.out.mono ?_
          rintro e w9 ⟨rfl, b9⟩
          have B9 := Lib.hid (below_join B8.out b9)
          have B9K := Lib.hid (below_join B8K.out b9)
          clear b9 B8 B8K CS1
          go_wp2_with fail
          refine (C2.out w9 B9.out).mono ?_
          rintro e w10 ⟨v10, rfl, o10, b10⟩
          obtain ⟨a10, c10, rfl⟩ := own_nil_slice o10
          have B10 := Lib.hid (below_join B9.out b10)
          have B10K := Lib.hid (below_join B9K.out b10)
          have O10 := Lib.hid o10
          clear b10 o10 C2 B9 B9K
          go_wp2_with fail
          refine (R2.out w10 B10.out).mono ?_
          rintro e w11 ⟨rfl, b11⟩
          have B11 := Lib.hid (below_join B10.out b11)
          have B11K := Lib.hid (below_join B10K.out b11)
          have CS2 := Lib.hid (same_nil (O10.out.lies.below b11) (lies_nil_rc (R := rcK) (w := w11)))
          clear b11 B10 B10K O10 R2
          go_wp2_with fail
          refine CS2.out.mono ?_
          rintro e w12 ⟨rfl, b12⟩
          have B12 := Lib.hid (below_join B11.out b12)
          have B12K := Lib.hid (below_join B11K.out b12)
          clear b12 B11 B11K CS2
          go_wp2_with fail
          exact ⟨⟨j + 1, hjt, rfl, B12.out, B12K.out⟩, by simp [intOf]; omega⟩
        · have d2 : decide ((j : Int) < 4) = false := decide_eq_false (by omega)
          go_wp2_with fail
          exact ⟨⟨i + 1, hlt, rfl, BJ.out⟩, by simp [intOf]; omega⟩
    · have d1 : decide ((i : Int) < 3) = false := decide_eq_false (by omega)
      go_wp2_with fail
      go_ret
      exact ⟨rfl, BW.out⟩
end Go.Proofs.YtpblfpnldbdncaaGreatDoor
