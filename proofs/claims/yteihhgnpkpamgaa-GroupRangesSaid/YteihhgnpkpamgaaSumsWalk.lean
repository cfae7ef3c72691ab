/- The walk of the law GroupSums. -/
import Derived.Test.YteihhgnpkpamgaaSanity4
namespace Go.Proofs.Yteihhgnpkpamgaa
open Go.RowKit
set_option linter.unusedVariables false

/-- the moduli that the law tries -/
def sumsAt (m : Int) : Nat → Int
  | 0 => m
  | 1 => 2305843009213691579
  | 2 => 1152921504606845789
  | 3 => m % 1024
  | 4 => 9223372036854775807
  | _ => 1
theorem sumsAt_bd (m : Int) (h : -9223372036854775808 ≤ m) (h' : m ≤ 9223372036854775807) (k : Nat) : -9223372036854775808 ≤ sumsAt m k ∧ sumsAt m k ≤ 9223372036854775807 := by
  unfold sumsAt; split <;> omega
theorem wf_bd {a : Int} (h : (Lit.int .i64 a).wf = true) : -9223372036854775808 ≤ a ∧ a ≤ 9223372036854775807 := by
  simpa [Lit.wf, IntKind.min, IntKind.max, IntKind.signed, IntKind.bits] using h

theorem sums_cells (w1 : World) (T : TypeId) (m : Int) (k : Nat) (hk : k < 6) :
    (w1.alloc (.cells #[.int .i64 m, .int .i64 2305843009213691579, .int .i64 1152921504606845789, .int .i64 (m % 1024), .int .i64 9223372036854775807, .int .i64 1] T)).cell? ⟨w1.heap.size, k, none⟩ = some (.int .i64 (sumsAt m k)) := by
  match k, hk with
  | 0, _ => simp [sumsAt]
  | 1, _ => simp [sumsAt]
  | 2, _ => simp [sumsAt]
  | 3, _ => simp [sumsAt]
  | 4, _ => simp [sumsAt]
  | 5, _ => simp [sumsAt]
  | k + 6, h => omega

set_option maxHeartbeats 400000 in
theorem walk_GroupSums (a b m : Int) (ha : (Lit.int .i64 a).wf = true) (hb : (Lit.int .i64 b).wf = true) (hm : (Lit.int .i64 m).wf = true) (w : World) :
    Calls Try.prog 3 #[.int .i64 a, .int .i64 b, .int .i64 m] w fun e w' => e = .returned (.bool true) ∧ Below w.heap.size w w' := by
  obtain ⟨ha1, ha2⟩ := wf_bd ha
  obtain ⟨hb1, hb2⟩ := wf_bd hb
  obtain ⟨hm1, hm2⟩ := wf_bd hm
  clear ha hb hm
  have hmask := Lib.hid (Num.and10 m)
  go_enter Try.func3, Try.ntmps3
  go_wp2_with fail
  refine (sanity_any _).mono ?_
  rintro e w1 ⟨rfl, hb1⟩
  go_wp2_with fail
  rw [hmask.out]
  have HC := Lib.hid (sums_cells w1 3 m)
  have hbw : Below w.heap.size w (w1.alloc (.cells #[.int .i64 m, .int .i64 2305843009213691579, .int .i64 1152921504606845789, .int .i64 (m % 1024), .int .i64 9223372036854775807, .int .i64 1] 3)) := hb1.alloc hb1.size _
  generalize w1.alloc _ = W2 at *
  go_loop [9, 16] (fun _ i => ∃ k : Nat, k ≤ 6 ∧ i = .int .i64 k) (fun _ i => 6 - (intOf i).toNat)
  case atStart => exact ⟨0, by omega, rfl⟩
  case round =>
    obtain ⟨k, hk, rfl⟩ := hrel
    by_cases hlt : k < 6
    · have hc := HC.out k hlt
      obtain ⟨hn1, hn2⟩ := sumsAt_bd m hm1 hm2 k
      generalize sumsAt m k = n at *
      go_wp2_with fail
      refine (add_any _ _ _ _ (by omega) (by omega) (by omega) (by omega) (by omega)).mono ?_
      rintro e w' ⟨rfl, rfl⟩
      go_wp2_with fail
      refine (radd_any _ _ _ _ (by omega) (by omega) (by omega) (by omega) (by omega)).mono ?_
      rintro e w' ⟨rfl, rfl⟩
      go_wp2_with fail
      refine (sub_any _ _ _ _ (by omega) (by omega) (by omega) (by omega) (by omega)).mono ?_
      rintro e w' ⟨rfl, rfl⟩
      go_wp2_with fail
      refine (rsub_any _ _ _ _ (by omega) (by omega) (by omega) (by omega) (by omega)).mono ?_
      rintro e w' ⟨rfl, rfl⟩
      go_wp2_with fail
      refine (mul_any _ _ _ _ (by omega) (by omega) (by omega) (by omega) (by omega)).mono ?_
      rintro e w' ⟨rfl, rfl⟩
      go_wp2_with fail
      refine (rmul_any _ _ _ _ (by omega) (by omega) (by omega) (by omega) (by omega)).mono ?_
      rintro e w' ⟨rfl, rfl⟩
      go_wp2_with fail
      go_round
      case rel => exact ⟨k + 1, by omega, by go_num⟩
      case measure => simp [intOf]; omega
    · go_wp2_with fail
      go_ret
      exact ⟨rfl, hbw⟩
end Go.Proofs.Yteihhgnpkpamgaa
