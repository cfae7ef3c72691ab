/- Contracts of Pow, Inv, Member of package group and of the reference. -/
import Derived.Test.YtfligfompdcddaaGroup
import Derived.RegionTactic
import Derived.Deep.QuietTactic
import Derived.BigQuiet
namespace Go.Proofs.Ytfligfompdcddaa
open Go.RowKit
set_option linter.unusedVariables false

theorem pow1_any (a b m : Int) (p : Addr) (w : World) (ha : -9223372036854775808 ≤ a) (ha' : a ≤ 9223372036854775807) (hb : -9223372036854775808 ≤ b) (hb' : b ≤ 9223372036854775807) (h2 : m ≤ 9223372036854775807) (hc : w.cell? p = some (.int .i64 m)) :
    Calls Try.prog 28 #[.int .i64 a, .int .i64 b, .pointer (some p)] w fun e w' => e = .returned (.int .i64 (Num.mulZ a b m)) ∧ w = w' := by
  go_enter Try.func28, Try.ntmps28
  go_wp2_with fail
  refine (mul_any a b m _ ha ha' hb hb' h2).mono ?_
  rintro e w' ⟨rfl, rfl⟩
  go_wp2_with fail
  go_ret
  exact ⟨rfl, rfl⟩

theorem mulZ_bd (a b m : Int) (h1 : 1 ≤ m) : 0 ≤ Num.mulZ a b m ∧ Num.mulZ a b m < m := by
  rw [Num.mulZ, if_neg (by omega)]
  exact ⟨Int.emod_nonneg _ (by omega), Int.emod_lt_of_pos _ (by omega)⟩

set_option maxHeartbeats 400000 in
theorem pow_core (a0 : Int) (n0 : Nat) (m : Int) (w : World) (ha : -9223372036854775808 ≤ a0) (ha' : a0 ≤ 9223372036854775807) (hn' : n0 ≤ 9223372036854775807) (h1 : 1 ≤ m) (h2 : m ≤ 9223372036854775807) :
    Calls Try.prog 11 #[.int .i64 a0, .int .i64 (n0 : Int), .int .i64 m] w fun e w' => e = .returned (.int .i64 (Num.powZ a0 n0 m)) ∧ Below w.heap.size w w' := by
  have hd1 : decide (m < 1) = false := by simp; omega
  have hd2 : decide ((n0 : Int) < 0) = false := by simp
  have hr : Hid (1 % m * a0 ^ n0 % m = Num.powZ a0 n0 m) := by
    rw [Num.powZ, if_neg (by omega), Int.toNat_natCast, Int.mul_emod, Int.emod_emod, ← Int.mul_emod, Int.one_mul]; exact rfl
  have e1 := Int.emod_nonneg 1 (show m ≠ 0 by omega)
  have e2 := Int.emod_lt_of_pos 1 (show 0 < m by omega)
  go_enter Try.func11, Try.ntmps11
  go_wp2_with fail
  refine (residue_any _ _ _ (by omega) (by omega) (by omega) (by omega)).mono ?_
  rintro e w' ⟨rfl, rfl⟩
  go_wp2_with fail
  go_loop [0, 1, 8] (fun x y z => ∃ (a : Int) (k : Nat) (p : Int), -9223372036854775808 ≤ a ∧ a ≤ 9223372036854775807 ∧ k ≤ 9223372036854775807 ∧ 0 ≤ p ∧ p < m ∧ x = .int .i64 a ∧ y = .int .i64 k ∧ z = .int .i64 p ∧ Hid (p * a ^ k % m = Num.powZ a0 n0 m)) (fun _ y _ => (intOf y).toNat)
  case atStart => exact ⟨a0, n0, _, ha, ha', hn', e1, e2, rfl, rfl, rfl, hr⟩
  case round =>
    obtain ⟨a, k, p, la, la', lk, lp, lp', rfl, rfl, rfl, HI⟩ := hrel
    have b1 := mulZ_bd p a m h1
    have b2 := mulZ_bd a a m h1
    by_cases hpos : 0 < k
    · by_cases hbit : k % 2 = 1
      · have hbt : (bits BinOp.and IntKind.i64 (k : Int) 1 == 1) = true := by rw [Num.and1]; simp; omega
        have HN : Hid (Num.mulZ p a m * Num.mulZ a a m ^ (k / 2) % m = Num.powZ a0 n0 m) := by
          simp only [Num.mulZ, if_neg (show ¬ m < 1 by omega)]; exact (Num.powL_odd p a m k hbit).trans HI.out
        generalize hg1 : Num.mulZ p a m = p' at *
        generalize hg2 : Num.mulZ a a m = a' at *
        have G1 := Lib.hid hg1
        have G2 := Lib.hid hg2
        clear hg1 hg2
        go_wp2_with fail
        refine (pow1_any p a m ⟨w.heap.size, 0, none⟩ _ (by omega) (by omega) la la' h2 (by simp)).mono ?_
        rintro e w' ⟨rfl, rfl⟩
        rw [G1.out]
        go_wp2_with fail
        refine (pow1_any a a m ⟨w.heap.size, 0, none⟩ _ la la' la la' h2 (by simp)).mono ?_
        rintro e w' ⟨rfl, rfl⟩
        rw [G2.out]
        go_wp2_with fail
        go_round
        case rel => exact ⟨a', k / 2, p', by omega, by omega, by omega, by omega, by omega, rfl, by go_num, rfl, HN⟩
        case measure => simp [intOf]; omega
      · have hbt : (bits BinOp.and IntKind.i64 (k : Int) 1 == 1) = false := by rw [Num.and1]; simp; omega
        have HN : Hid (p * Num.mulZ a a m ^ (k / 2) % m = Num.powZ a0 n0 m) := by
          simp only [Num.mulZ, if_neg (show ¬ m < 1 by omega)]; exact (Num.powL_even p a m k (by omega)).trans HI.out
        generalize hg2 : Num.mulZ a a m = a' at *
        have G2 := Lib.hid hg2
        clear hg2
        go_wp2_with fail
        refine (pow1_any a a m ⟨w.heap.size, 0, none⟩ _ la la' la la' h2 (by simp)).mono ?_
        rintro e w' ⟨rfl, rfl⟩
        rw [G2.out]
        go_wp2_with fail
        go_round
        case rel => exact ⟨a', k / 2, p, by omega, by omega, by omega, by omega, by omega, rfl, by go_num, rfl, HN⟩
        case measure => simp [intOf]; omega
    · obtain rfl : k = 0 := by omega
      go_wp2
      go_ret
      exact ⟨ret_int (by rw [← HI.out]; simp; exact (Int.emod_eq_of_lt lp lp').symm), (Below.refl _ _).alloc (Nat.le_refl _) _⟩

theorem pow_any (a n m : Int) (w : World) (ha : -9223372036854775808 ≤ a) (ha' : a ≤ 9223372036854775807) (hn : n ≤ 9223372036854775807) (h2 : m ≤ 9223372036854775807) :
    Calls Try.prog 11 #[.int .i64 a, .int .i64 n, .int .i64 m] w fun e w' => e = .returned (.int .i64 (Num.powZ a n m)) ∧ Below w.heap.size w w' := by
  by_cases h1 : m < 1
  · rw [Num.powZ, if_pos (Or.inl h1)]
    have hd : decide (m < 1) = true := by simp; omega
    go_enter Try.func11, Try.ntmps11
    go_wp2_with fail
    go_ret
    exact ⟨rfl, (Below.refl _ _).alloc (Nat.le_refl _) _⟩
  · by_cases h3 : n < 0
    · rw [Num.powZ, if_pos (Or.inr h3)]
      have hd : decide (m < 1) = false := by simp; omega
      have hd2 : decide (n < 0) = true := by simp; omega
      go_enter Try.func11, Try.ntmps11
      go_wp2_with fail
      go_ret
      exact ⟨rfl, (Below.refl _ _).alloc (Nat.le_refl _) _⟩
    · obtain ⟨k, rfl⟩ := Int.eq_ofNat_of_zero_le (show 0 ≤ n by omega)
      exact pow_core a k m w ha ha' (by omega) (by omega) h2

end Go.Proofs.Ytfligfompdcddaa
