/- The contract of the reference's Clash for two different strings. -/
import Derived.Test.YtpblfpnldbdncaaGreatDoorG24
namespace Go.Proofs.YtpblfpnldbdncaaGreatDoor
open Go.RowKit Go.Sort Go.Maps
set_option linter.unusedVariables false
set_option maxRecDepth 100000
theorem list_neq (x y : ByteArray) (h : x ≠ y) : (x.toList == y.toList) = false := by
  rw [ByteArray.toList_eq, ByteArray.toList_eq]
  refine beq_eq_false_iff_ne.2 (fun e => h ?_)
  cases x; cases y
  simp at e
  rw [ByteArray.mk.injEq]
  exact e
set_option maxHeartbeats 4000000 in
theorem clash2_any {w : World} {B : Nat} {x y : ByteArray} {hx hy : List UInt8} {fr : Nat × Nat} (hb : w.heap[B]? = some (.cells #[.string x, .string y] 9 fr)) (hne : x ≠ y) (sx : x.size ≤ 140737488355000) (sy : y.size ≤ 140737488355000) (ehx : Sha.sum x.data.toList = hx) (ehy : Sha.sum y.data.toList = hy) :
    Calls Tryz.prog 23 #[.slice (some ⟨B, 0, none⟩) 2 2] w fun e w' => e = .returned (.bool (hy == hx)) ∧ Below w.heap.size w w' := by
  have CX := Lib.hid (fun W => rsum_is x hx W sx ehx)
  have CY := Lib.hid (fun W => rsum_is y hy W sy ehy)
  have heq := fun W => hash_eql hy hx (by rw [← ehy]; exact Sha.sum_length _) (by rw [← ehx]; exact Sha.sum_length _) W
  have hq := list_neq y x (Ne.symm hne)
  obtain ⟨b, hbb⟩ : ∃ b, (hy == hx) = b := ⟨_, rfl⟩
  rw [hbb] at heq ⊢
  have HB := Lib.hid hb
  clear hb hne sx sy ehx ehy hbb
  go_enter Tryz.func23, Tryz.ntmps23
  go_wp2_with fail
  go_loopw [3] (fun v3 wx => ∃ i : Nat, i ≤ 2 ∧ v3 = .int .i64 i ∧ Below w.heap.size w wx ∧ Hid (i = 2 → b = false)) (fun v3 _ => 2 - (intOf v3).toNat)
  case atStart => exact ⟨0, by omega, rfl, Below.refl _ _, fun h => by omega⟩
  case round =>
    obtain ⟨i, hi, rfl, hw, hno⟩ := hrel
    have HW := Lib.hid hw
    clear hw
    by_cases hlt : i < 2
    · have d1 : decide ((i : Int) < 2) = true := decide_eq_true (by omega)
      clear hno
      go_wp2_with fail
      go_loopw [4] (fun v4 wx => ∃ j : Nat, j ≤ i ∧ v4 = .int .i64 j ∧ Below w.heap.size w wx ∧ Hid (j = 1 → b = false)) (fun v4 _ => i - (intOf v4).toNat)
      case atStart => exact ⟨0, by omega, rfl, HW.out, fun h => by omega⟩
      case round =>
        obtain ⟨j, hj, rfl, hw2, hno2⟩ := hrel
        have HW2 := Lib.hid hw2
        clear hw2 HW
        by_cases hjt : j < i
        · obtain rfl : i = 1 := by omega
          obtain rfl : j = 0 := by omega
          have p1 : ∀ d os, (grow (redrawn wr d) os).cell? ⟨B, 1, none⟩ = some (.string y) := fun d os => ((HW2.out.trans ((below_regrown wr d os).mono HW2.out.size)).cell (p := ⟨B, 1, none⟩) (Array.getElem?_eq_some_iff.1 HB.out).1).trans ((cell_of_row _ _ 1 _ _ _ HB.out).trans rfl)
          have p2 : ∀ d os, (grow (redrawn wr d) os).cell? ⟨B, 0, none⟩ = some (.string x) := fun d os => ((HW2.out.trans ((below_regrown wr d os).mono HW2.out.size)).cell (p := ⟨B, 0, none⟩) (Array.getElem?_eq_some_iff.1 HB.out).1).trans ((cell_of_row _ _ 0 _ _ _ HB.out).trans rfl)
          clear hno2
          go_wp2_with fail
          refine wp_region_quiet_below (by kernel_rfl) (by kernel_rfl) ?_
          repeat (go_big_quiet_step ((first | with_reducible exact Calls.regrown_of (CX.out _) | with_reducible exact Calls.regrown_of (CY.out _))))
          refine wpQuiet_nil ?_
          intro _ hw'
          obtain ⟨⟨dq, osq⟩, hw''⟩ := hw'
          subst hw''
          have BR := Lib.hid (HW2.out.trans ((below_regrown wr dq osq).mono HW2.out.size))
          generalize grow (redrawn wr dq) osq = WQ at *
          cases b
          · go_wp2_with fail
            go_roundw
            case rel => exact ⟨1, by omega, rfl, BR.out, fun _ => by trivial⟩
            case measure => simp [intOf]
          · go_wp2_with fail
            go_ret
            exact ⟨rfl, BR.out⟩
        · obtain rfl : j = i := by omega
          have d2 : decide ((j : Int) < (j : Int)) = false := by simp
          have HN := Lib.hid hno2
          clear hno2
          go_wp2_with fail
          refine ⟨⟨j + 1, hlt, rfl, HW2.out, fun h => HN.out.out (by omega)⟩, by simp [intOf]; omega⟩
    · obtain rfl : i = 2 := by omega
      have hbf := hno.out rfl
      subst hbf
      go_wp2_with fail
      go_ret
      exact ⟨rfl, HW.out⟩
end Go.Proofs.YtpblfpnldbdncaaGreatDoor
