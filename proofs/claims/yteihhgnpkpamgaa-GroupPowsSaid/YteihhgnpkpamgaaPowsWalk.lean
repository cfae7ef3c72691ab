/- The walk of the law GroupPows. -/
import Derived.Test.YteihhgnpkpamgaaSumsWalk
namespace Go.Proofs.Yteihhgnpkpamgaa
open Go.RowKit
set_option linter.unusedVariables false

set_option maxHeartbeats 400000 in
theorem walk_GroupPows (a b m : Int) (ha : (Lit.int .i64 a).wf = true) (hb : (Lit.int .i64 b).wf = true) (hm : (Lit.int .i64 m).wf = true) (w : World) :
    Calls Try.prog 4 #[.int .i64 a, .int .i64 b, .int .i64 m] w fun e w' => e = .returned (.bool true) ∧ Below w.heap.size w w' := by
  obtain ⟨ha1, ha2⟩ := wf_bd ha
  obtain ⟨hb1, hb2⟩ := wf_bd hb
  obtain ⟨hm1, hm2⟩ := wf_bd hm
  clear ha hb hm
  have hmask := Lib.hid (Num.and10 m)
  go_enter Try.func4, Try.ntmps4
  go_wp2_with fail
  refine (sanity_any _).mono ?_
  rintro e w1 ⟨rfl, hb1⟩
  go_wp2_with fail
  rw [hmask.out]
  have HC := Lib.hid (sums_cells w1 3 m)
  have hbw : Below w.heap.size w (w1.alloc (.cells #[.int .i64 m, .int .i64 2305843009213691579, .int .i64 1152921504606845789, .int .i64 (m % 1024), .int .i64 9223372036854775807, .int .i64 1] 3)) := hb1.alloc hb1.size _
  have hsz : w1.heap.size < (w1.alloc (.cells #[.int .i64 m, .int .i64 2305843009213691579, .int .i64 1152921504606845789, .int .i64 (m % 1024), .int .i64 9223372036854775807, .int .i64 1] 3)).heap.size := by simp
  generalize w1.alloc _ = W2 at *
  go_loopw [9, 10, 11, 12, 13, 20] (fun _ _ _ _ _ i wr => ∃ k : Nat, k ≤ 6 ∧ i = .int .i64 k ∧ Below W2.heap.size W2 wr) (fun _ _ _ _ _ i _ => 6 - (intOf i).toNat)
  case atStart => exact ⟨0, by omega, rfl, Below.refl _ _⟩
  case round =>
    obtain ⟨k, hk, rfl, hbr⟩ := hrel
    by_cases hlt : k < 6
    · have hc : wr.cell? ⟨w1.heap.size, k, none⟩ = some (.int .i64 (sumsAt m k)) := (hbr.cell (p := ⟨w1.heap.size, k, none⟩) hsz).trans (HC.out k hlt)
      obtain ⟨hn1, hn2⟩ := sumsAt_bd m hm1 hm2 k
      generalize sumsAt m k = n at *
      go_wp2_with fail
      refine (inv_any _ _ _ (by omega) (by omega) (by omega)).mono ?_
      rintro e w2 ⟨⟨i, ok, rfl, hi⟩, hb2⟩
      have HI := Lib.hid hi
      clear hi
      go_wp2_with fail
      refine (rinv_any _ _ _ (by omega) (by omega) (by omega)).mono ?_
      rintro e w3 ⟨⟨j, is, rfl, hj⟩, rfl⟩
      obtain ⟨rfl, rfl⟩ := HI.out.unique hj
      clear hj HI
      go_wp2_with fail
      refine (pow_any _ _ _ _ (by omega) (by omega) (by omega) (by omega)).mono ?_
      rintro e w3 ⟨rfl, hb3⟩
      go_wp2_with fail
      refine (rpow_any _ _ _ _ (by omega) (by omega) (by omega) (by omega)).mono ?_
      rintro e w' ⟨rfl, rfl⟩
      go_wp2_with fail
      go_roundw
      case rel => exact ⟨k + 1, by omega, by go_num, hbr.trans ((hb2.mono hbr.size).trans (hb3.mono (by have := hbr.size; have := hb2.size; omega)))⟩
      case measure => simp [intOf]; omega
    · go_wp2_with fail
      go_ret
      exact ⟨rfl, hbw.trans (hbr.mono hbw.size)⟩
end Go.Proofs.Yteihhgnpkpamgaa
