/- Contracts of package group's small functions. -/
import Derived.Test.YtfligfompdcddaaProg
import Derived.Test.YtfligfompdcddaaShelf
import Derived.Test.YtfligfompdcddaaNum
import Derived.Test.YtfligfompdcddaaKit
import Derived.WalkLawsBesides
namespace Go.Proofs.Ytfligfompdcddaa
open Go.RowKit
set_option linter.unusedVariables false

theorem residue_any (a m : Int) (w : World) (h1 : 1 ≤ m) (h2 : m ≤ 9223372036854775807) (ha : -9223372036854775808 ≤ a) (hb : a ≤ 9223372036854775807) :
    Calls Try.prog 25 #[.int .i64 a, .int .i64 m] w fun e w' => e = .returned (.int .i64 (a % m)) ∧ w = w' := by
  have hl := Num.tmod_lo a m h1
  go_enter Try.func25, Try.ntmps25
  go_wp2
  · go_ret
    exact ⟨ret_int (Num.tmod_neg a m h1 ‹_›), rfl⟩
  · go_ret
    exact ⟨ret_int (Num.tmod_pos a m h1 ‹_›), rfl⟩

theorem plus_any (x y m : Int) (w : World) (h1 : 1 ≤ m) (h2 : m ≤ 9223372036854775807) (hx0 : 0 ≤ x) (hx : x < m) (hy0 : 0 ≤ y) (hy : y < m) :
    Calls Try.prog 27 #[.int .u64 x, .int .u64 y, .int .u64 m] w fun e w' => e = .returned (.int .u64 ((x + y) % m)) ∧ w = w' := by
  go_enter Try.func27, Try.ntmps27
  go_wp2
  · go_ret
    exact ⟨ret_int (Num.plus_ge x y m hx hy ‹_›), rfl⟩
  · go_ret
    exact ⟨ret_int (Num.plus_lt x y m hx0 hy0 ‹_›), rfl⟩

theorem residue_eq (a m x : Int) (w : World) (h1 : 1 ≤ m) (h2 : m ≤ 9223372036854775807) (ha : -9223372036854775808 ≤ a) (hb : a ≤ 9223372036854775807) (h : a % m = x) :
    Calls Try.prog 25 #[.int .i64 a, .int .i64 m] w fun e w' => e = .returned (.int .i64 x) ∧ w = w' := by
  rw [← h]; exact residue_any a m w h1 h2 ha hb

set_option maxHeartbeats 400000 in
theorem mul_core (a b : Int) (x y M : Nat) (w : World) (h1 : 1 ≤ M) (h2 : M ≤ 9223372036854775807) (ha : -9223372036854775808 ≤ a) (ha' : a ≤ 9223372036854775807) (hb : -9223372036854775808 ≤ b) (hb' : b ≤ 9223372036854775807)
    (hA : Hid (a % (M : Int) = (x : Int))) (hB : Hid (b % (M : Int) = (y : Int))) (hx : x < M) (hy : y < M) :
    Calls Try.prog 10 #[.int .i64 a, .int .i64 b, .int .i64 (M : Int)] w fun e w' => e = .returned (.int .i64 (Num.mulN x y M : Nat)) ∧ w = w' := by
  have hm0 : decide ((M : Int) < 1) = false := by simp; omega
  go_enter Try.func10, Try.ntmps10
  go_wp2_with fail
  refine (residue_eq a M x _ (by omega) (by omega) (by omega) (by omega) hA.out).mono ?_
  rintro e w' ⟨rfl, rfl⟩
  go_wp2_with fail
  refine (residue_eq b M y _ (by omega) (by omega) (by omega) (by omega) hB.out).mono ?_
  rintro e w' ⟨rfl, rfl⟩
  go_wp2_with fail
  refine (Try.bits_Len64 _ _ (by omega) (by omega)).mono ?_
  rintro e w' ⟨rfl, rfl⟩
  go_wp2_with fail
  have eL := Num.bitLen_le y
  have eY := Num.lt_bitLen y (by omega)
  generalize Lib.bitLen y = L at *
  go_loop [10, 12, 28] (fun r _ c => ∃ k : Nat, k ≤ L ∧ c = .int .i64 k ∧ r = .int .u64 ((Num.mulAt x y M L k : Nat) : Int)) (fun _ _ c => L - (intOf c).toNat)
  case atStart => exact ⟨0, Nat.zero_le _, rfl, by simp [Num.mulAt_start x y M L eY]⟩
  case round =>
    obtain ⟨k, hk, rfl, rfl⟩ := hrel
    have hr := Num.mulAt_lt x y M L k (by omega)
    by_cases hlt : k < L
    · by_cases hbit : y / 2 ^ (L - 1 - k) % 2 = 1
      · have hbt : (bits BinOp.and IntKind.u64 ((y : Int) / 2 ^ (L - 1 - k)) 1 == 1) = true := Num.bit_true y _ (by omega) hbit
        have H1 := Lib.hid (Num.mulAt_one' x y M L k hlt hbit)
        have hn := Int.emod_nonneg ((Num.mulAt x y M L k : Int) + Num.mulAt x y M L k) (show (M : Int) ≠ 0 by omega)
        have hl := Int.emod_lt_of_pos ((Num.mulAt x y M L k : Int) + Num.mulAt x y M L k) (show 0 < (M : Int) by omega)
        go_wp2_with fail
        refine (plus_any _ _ _ _ (by omega) (by omega) (by omega) (by omega) (by omega) (by omega)).mono ?_
        rintro e w' ⟨rfl, rfl⟩
        go_wp2_with fail
        refine (plus_any _ _ _ _ (by omega) (by omega) (by omega) (by omega) (by omega) (by omega)).mono ?_
        rintro e w' ⟨rfl, rfl⟩
        go_wp2_with fail
        go_round
        case rel => exact ⟨k + 1, by omega, by go_num, by rw [H1.out]⟩
        case measure => simp [intOf]; omega
      · have hbt : (bits BinOp.and IntKind.u64 ((y : Int) / 2 ^ (L - 1 - k)) 1 == 1) = false := Num.bit_false y _ (by omega) hbit
        have H1 := Lib.hid (Num.mulAt_zero' x y M L k hlt hbit)
        go_wp2_with fail
        refine (plus_any _ _ _ _ (by omega) (by omega) (by omega) (by omega) (by omega) (by omega)).mono ?_
        rintro e w' ⟨rfl, rfl⟩
        go_wp2_with fail
        go_round
        case rel => exact ⟨k + 1, by omega, by go_num, by rw [H1.out]⟩
        case measure => simp [intOf]; omega
    · obtain rfl : k = L := by omega
      go_wp2
      go_ret
      exact ⟨ret_int (by rw [Num.mulAt_end]), rfl⟩

theorem mul_any (a b m : Int) (w : World) (ha : -9223372036854775808 ≤ a) (ha' : a ≤ 9223372036854775807) (hb : -9223372036854775808 ≤ b) (hb' : b ≤ 9223372036854775807) (h2 : m ≤ 9223372036854775807) :
    Calls Try.prog 10 #[.int .i64 a, .int .i64 b, .int .i64 m] w fun e w' => e = .returned (.int .i64 (Num.mulZ a b m)) ∧ w = w' := by
  by_cases h1 : m < 1
  · rw [Num.mulZ, if_pos h1]
    go_enter Try.func10, Try.ntmps10
    go_wp2_with fail
    go_ret
    exact ⟨rfl, rfl⟩
  · rw [Num.mulZ, if_neg h1]
    obtain ⟨x, y, M, rfl, hx, hy, hxl, hyl, hM⟩ := Num.natres2 a b m (by omega)
    rw [← Num.mul_final a b x y M hx hy]
    exact mul_core a b x y M w hM (by omega) ha ha' hb hb' hx hy hxl hyl

theorem add_any (a b m : Int) (w : World) (ha : -9223372036854775808 ≤ a) (ha' : a ≤ 9223372036854775807) (hb : -9223372036854775808 ≤ b) (hb' : b ≤ 9223372036854775807) (h2 : m ≤ 9223372036854775807) :
    Calls Try.prog 13 #[.int .i64 a, .int .i64 b, .int .i64 m] w fun e w' => e = .returned (.int .i64 (Num.addZ a b m)) ∧ w = w' := by
  by_cases h1 : m < 1
  · rw [Num.addZ, if_pos h1]
    go_enter Try.func13, Try.ntmps13
    go_wp2_with fail
    go_ret
    exact ⟨rfl, rfl⟩
  · rw [Num.addZ, if_neg h1]
    obtain ⟨x, y, M, rfl, hx, hy, hxl, hyl, hM⟩ := Num.natres2 a b m (by omega)
    rw [Int.add_emod, hx, hy]
    have hx := Lib.hid hx
    have hy := Lib.hid hy
    have hn := Int.emod_nonneg ((x : Int) + y) (show (M : Int) ≠ 0 by omega)
    have hl := Int.emod_lt_of_pos ((x : Int) + y) (show 0 < (M : Int) by omega)
    go_enter Try.func13, Try.ntmps13
    go_wp2_with fail
    refine (residue_eq a M x _ (by omega) (by omega) (by omega) (by omega) hx.out).mono ?_
    rintro e w' ⟨rfl, rfl⟩
    go_wp2_with fail
    refine (residue_eq b M y _ (by omega) (by omega) (by omega) (by omega) hy.out).mono ?_
    rintro e w' ⟨rfl, rfl⟩
    go_wp2_with fail
    refine (plus_any _ _ _ _ (by omega) (by omega) (by omega) (by omega) (by omega) (by omega)).mono ?_
    rintro e w' ⟨rfl, rfl⟩
    go_wp2_with fail
    go_ret
    exact ⟨rfl, rfl⟩

theorem sub_any (a b m : Int) (w : World) (ha : -9223372036854775808 ≤ a) (ha' : a ≤ 9223372036854775807) (hb : -9223372036854775808 ≤ b) (hb' : b ≤ 9223372036854775807) (h2 : m ≤ 9223372036854775807) :
    Calls Try.prog 14 #[.int .i64 a, .int .i64 b, .int .i64 m] w fun e w' => e = .returned (.int .i64 (Num.subZ a b m)) ∧ w = w' := by
  by_cases h1 : m < 1
  · rw [Num.subZ, if_pos h1]
    go_enter Try.func14, Try.ntmps14
    go_wp2_with fail
    go_ret
    exact ⟨rfl, rfl⟩
  · rw [Num.subZ, if_neg h1]
    obtain ⟨x, y, M, rfl, hx, hy, hxl, hyl, hM⟩ := Num.natres2 a b m (by omega)
    rw [Int.sub_emod, hx, hy]
    have hx := Lib.hid hx
    have hy := Lib.hid hy
    go_enter Try.func14, Try.ntmps14
    go_wp2_with fail
    refine (residue_eq a M x _ (by omega) (by omega) (by omega) (by omega) hx.out).mono ?_
    rintro e w' ⟨rfl, rfl⟩
    go_wp2_with fail
    refine (residue_eq b M y _ (by omega) (by omega) (by omega) (by omega) hy.out).mono ?_
    rintro e w' ⟨rfl, rfl⟩
    go_wp2_with fail
    refine (residue_any _ _ _ (by omega) (by omega) (by omega) (by omega)).mono ?_
    rintro e w' ⟨rfl, rfl⟩
    go_wp2_with fail
    go_ret
    exact ⟨rfl, rfl⟩
end Go.Proofs.Ytfligfompdcddaa
