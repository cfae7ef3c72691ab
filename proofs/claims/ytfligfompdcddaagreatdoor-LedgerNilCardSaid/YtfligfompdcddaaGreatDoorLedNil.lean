/- The methods at a nil ledger. -/
import Derived.Test.YtfligfompdcddaaGreatDoorLedEnc
import Derived.Test.YtfligfompdcddaaGreatDoorLedCopy
import Derived.Defers
import Derived.Recover
namespace Go.Proofs.YtfligfompdcddaaGreatDoor
open Go.RowKit Go.Sort Go.Maps
set_option linter.unusedVariables false
set_option maxHeartbeats 1000000 in
theorem nilPost_any (q : Pst) (w : World) : Calls Tryz.prog 11 #[.pointer none, ArrQ q] w fun e w' => e = .returned (.int .i64 1) ∧ Below w.heap.size w w' := by
  obtain ⟨k, s, d, n⟩ := q
  simp only [ArrQ]
  go_enter Tryz.func11, Tryz.ntmps11
  go_wp2_with fail
  go_ret
  exact ⟨rfl, (Below.refl _ _).alloc (Nat.le_refl _) _⟩
set_option maxHeartbeats 1000000 in
theorem nilBalance_any (a : ByteArray) (w : World) : Calls Tryz.prog 13 #[.pointer none, .string a] w fun e w' => e = .returned (.int .i64 0) ∧ w' = w := by
  go_enter Tryz.func13, Tryz.ntmps13
  go_wp2_with fail
  go_ret
  exact ⟨rfl, rfl⟩
set_option maxHeartbeats 1000000 in
theorem nilAccounts_any (w : World) : Calls Tryz.prog 23 #[.pointer none] w fun e w' => e = .returned (.slice none 0 0) ∧ w' = w := by
  go_enter Tryz.func23, Tryz.ntmps23
  go_wp2_with fail
  go_ret
  exact ⟨rfl, rfl⟩
set_option maxHeartbeats 1000000 in
theorem nilPostings_any (w : World) : Calls Tryz.prog 19 #[.pointer none] w fun e w' => e = .returned (.slice none 0 0) ∧ w' = w := by
  go_enter Tryz.func19, Tryz.ntmps19
  go_wp2_with fail
  go_ret
  exact ⟨rfl, rfl⟩
set_option maxHeartbeats 1000000 in
theorem nilPaid_any (a : ByteArray) (w : World) : Calls Tryz.prog 15 #[.pointer none, .string a] w fun e w' => e = .returned (.bool false) ∧ w' = w := by
  go_enter Tryz.func15, Tryz.ntmps15
  go_wp2_with fail
  go_ret
  exact ⟨rfl, rfl⟩
set_option maxHeartbeats 1000000 in
theorem nilCopy_any (w : World) : Calls Tryz.prog 22 #[.pointer none] w fun e w' => e = .returned (.pointer none) ∧ w' = w := by
  go_enter Tryz.func22, Tryz.ntmps22
  go_wp2_with fail
  go_ret
  exact ⟨rfl, rfl⟩
set_option maxHeartbeats 1000000 in
set_option maxRecDepth 100000 in
theorem nilEncode_any (w : World) : Calls Tryz.prog 18 #[.pointer none] w fun e w' => e = .returned (.string ⟨#[]⟩) ∧ Below w.heap.size w w' := by
  have I1 := Lib.hid (Lib.IsBuilderF.of (Lib.fresh_isBuilder 68 5 w))
  have B1 := Lib.hid ((Below.refl w.heap.size w).alloc (Nat.le_refl _) (.cells #[.pointer none, .slice none 0 0] 68))
  go_enter Tryz.func18, Tryz.ntmps18
  go_wp2_with fail
  generalize w.alloc (.cells #[.pointer none, .slice none 0 0] 68) = W at *
  refine (nilAccounts_any W).mono ?_
  rintro e w' ⟨rfl, rfl⟩
  go_wp2_with fail
  go_loopw [9] (fun i wr => i = .int .i64 0 ∧ wr = w') (fun _ _ => 0)
  case atStart => exact ⟨rfl, rfl⟩
  case round =>
    obtain ⟨rfl, rfl⟩ := hrel
    go_wp2_with fail
    refine (Tryz.Builder_String_any_k w.heap.size w.heap.size [] _ I1.out B1.out.size).mono ?_
    rintro e w4 ⟨rfl, _, b4, _⟩
    have B4 := Lib.hid (B1.out.trans b4)
    clear b4
    go_wp2_with fail
    go_ret
    exact ⟨rfl, B4.out⟩
set_option maxHeartbeats 1000000 in
set_option maxRecDepth 100000 in
theorem nilAll_any (v : Value) (w : World) : Calls Tryz.prog 20 #[.pointer none, v] w fun e w' => e = .returned (.tuple #[.int .i64 0, .int .i64 1]) ∧ Below w.heap.size w w' := by
  go_enter_defers Tryz.func20, Tryz.ntmps20
  go_wp2_with fail
  have r2 := (cell_of_row _ _ 0 _ _ _ (heap_alloc_new (w.alloc (.cells #[.pointer none] 26)) (.cells #[.int .i64 1] 32))).trans rfl
  have bb : Below w.heap.size w ((w.alloc (.cells #[.pointer none] 26)).alloc (.cells #[.int .i64 1] 32)) := ((Below.refl _ _).alloc (Nat.le_refl _) _).alloc (by simp) _
  refine ⟨.tuple #[.int .i64 0, .int .i64 1], by simp [results, Tryz.results20, go_sem], rfl, bb⟩
end Go.Proofs.YtfligfompdcddaaGreatDoor
