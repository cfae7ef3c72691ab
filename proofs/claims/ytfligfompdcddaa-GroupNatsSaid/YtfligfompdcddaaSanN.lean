/- Contracts of Member (package group, and the reference), and of the laws' sanity. -/
import Derived.Test.YtfligfompdcddaaInvN
namespace Go.Proofs.Ytfligfompdcddaa
open Go.RowKit
set_option linter.unusedVariables false

/-- what Member answers -/
def Num.memberZ (a : Int) : Bool := decide (1 ≤ a ∧ a ≤ 2305843009213691578) && (Num.powZ a 1152921504606845789 2305843009213691579 == 1)
theorem Num.memberZ_out (a : Int) (h : ¬ (1 ≤ a ∧ a ≤ 2305843009213691578)) : Num.memberZ a = false := by simp [Num.memberZ, h]
theorem Num.memberZ_in (a : Int) (h : 1 ≤ a ∧ a ≤ 2305843009213691578) : Num.memberZ a = (Num.powZ a 1152921504606845789 2305843009213691579 == 1) := by simp [Num.memberZ, h]
theorem Num.memberZ_mod (a r : Nat) (h : 1 ≤ a ∧ a ≤ 2305843009213691578) (hr : Num.powMod 64 a 1152921504606845789 2305843009213691579 = r) : Num.memberZ a = (r == 1) := by
  rw [Num.memberZ_in a (by omega)]
  have := Num.powZ_eq a 1152921504606845789 2305843009213691579 (by decide) (by decide)
  rw [hr] at this
  rw [show (1152921504606845789 : Int) = ((1152921504606845789 : Nat) : Int) from rfl, show (2305843009213691579 : Int) = ((2305843009213691579 : Nat) : Int) from rfl, this]
  rw [Bool.eq_iff_iff]; simp; omega

theorem member_any (a : Int) (w : World) (ha : -9223372036854775808 ≤ a) (ha' : a ≤ 9223372036854775807) :
    Calls Try.prog 15 #[.int .i64 a] w fun e w' => e = .returned (.bool (Num.memberZ a)) ∧ Below w.heap.size w w' := by
  by_cases h : 1 ≤ a ∧ a ≤ 2305843009213691578
  · rw [Num.memberZ_in a h]
    obtain ⟨h1, h2⟩ := h
    have d1 : decide (1 ≤ a) = true := by simp; omega
    have d2 : decide (a ≤ 2305843009213691578) = true := by simp; omega
    go_enter Try.func15, Try.ntmps15
    go_wp2_with fail
    refine (pow_any _ _ _ _ ha ha' (by omega) (by omega)).mono ?_
    rintro e w' ⟨rfl, hb⟩
    go_wp2_with fail
    go_ret
    exact ⟨rfl, hb⟩
  · rw [Num.memberZ_out a h]
    have d : (decide (1 ≤ a) = false) ∨ (decide (1 ≤ a) = true ∧ decide (a ≤ 2305843009213691578) = false) := by simp only [decide_eq_false_iff_not, decide_eq_true_eq]; omega
    rcases d with d1 | ⟨d1, d2⟩
    · go_enter Try.func15, Try.ntmps15
      go_wp2_with fail
      go_ret
      exact ⟨rfl, Below.refl _ _⟩
    · go_enter Try.func15, Try.ntmps15
      go_wp2_with fail
      go_ret
      exact ⟨rfl, Below.refl _ _⟩


theorem InvEnd.is {a m i : Int} {ok : Bool} {e : Ending} (h : InvEnd a m e) (k : Num.InvIs a m i ok) : e = .returned (.tuple #[.int .i64 i, .bool ok]) := by
  obtain ⟨j, is, rfl, hj⟩ := h
  obtain ⟨rfl, rfl⟩ := hj.unique k
  rfl
theorem s_inv1 : Num.InvIs 3 7 5 true := Or.inl ⟨rfl, by omega, by omega, by omega, by omega⟩
theorem s_inv2 : Num.InvIs 2 4 0 false := Or.inr ⟨rfl, rfl, fun j _ => by omega⟩
theorem s_inv3 : Num.InvIs 0 7 0 false := Or.inr ⟨rfl, rfl, fun j _ => by omega⟩
theorem s_mul1 : Num.mulZ 2305843009213691578 2305843009213691578 2305843009213691579 = 1 := by decide +kernel
theorem s_add1 : Num.addZ 1152921504606845788 5 1152921504606845789 = 4 := by decide +kernel
theorem s_sub1 : Num.subZ 2 5 7 = 4 := by decide +kernel
theorem s_mul2 : Num.mulZ (-1) 3 7 = 4 := by decide +kernel
theorem s_mul3 : Num.mulZ 3 4 0 = 0 := by decide +kernel
theorem s_pow1 : Num.powZ 4 1152921504606845789 2305843009213691579 = 1 := (Num.powZ_eq 4 1152921504606845789 2305843009213691579 (by decide) (by decide)).trans (by decide +kernel)
theorem s_pow2 : Num.powZ 2 (-1) 7 = 0 := by decide +kernel
theorem s_mem1 : Num.memberZ 1 = true := (Num.memberZ_mod 1 1 (by omega) (by decide +kernel)).trans (by decide +kernel)
theorem s_mem4 : Num.memberZ 4 = true := (Num.memberZ_mod 4 1 (by omega) (by decide +kernel)).trans (by decide +kernel)
theorem s_mem2 : Num.memberZ 2 = false := (Num.memberZ_mod 2 2305843009213691578 (by omega) (by decide +kernel)).trans (by decide +kernel)
theorem s_mem0 : Num.memberZ 0 = false := Num.memberZ_out 0 (by omega)

set_option maxHeartbeats 400000 in
theorem sanity_any (w : World) : Calls Try.prog 4 #[] w fun e w' => e = .returned (.bool true) ∧ Below w.heap.size w w' := by
  go_enter Try.func4, Try.ntmps4
  go_wp2_with fail
  refine (inv_any _ _ _ (by omega) (by omega) (by omega)).mono ?_
  rintro e w1 ⟨he, hb1⟩
  obtain rfl := he.is s_inv1
  clear he
  go_wp2_with fail
  refine (inv_any _ _ _ (by omega) (by omega) (by omega)).mono ?_
  rintro e w2 ⟨he, hb2⟩
  obtain rfl := he.is s_inv2
  clear he
  go_wp2_with fail
  refine (inv_any _ _ _ (by omega) (by omega) (by omega)).mono ?_
  rintro e w3 ⟨he, hb3⟩
  obtain rfl := he.is s_inv3
  clear he
  go_wp2_with fail
  refine (mul_any _ _ _ _ (by omega) (by omega) (by omega) (by omega) (by omega)).mono ?_
  rintro e w' ⟨rfl, rfl⟩
  rw [s_mul1]
  go_wp2_with fail
  refine (add_any _ _ _ _ (by omega) (by omega) (by omega) (by omega) (by omega)).mono ?_
  rintro e w' ⟨rfl, rfl⟩
  rw [s_add1]
  go_wp2_with fail
  refine (sub_any _ _ _ _ (by omega) (by omega) (by omega) (by omega) (by omega)).mono ?_
  rintro e w' ⟨rfl, rfl⟩
  rw [s_sub1]
  go_wp2_with fail
  refine (mul_any _ _ _ _ (by omega) (by omega) (by omega) (by omega) (by omega)).mono ?_
  rintro e w' ⟨rfl, rfl⟩
  rw [s_mul2]
  go_wp2_with fail
  refine (mul_any _ _ _ _ (by omega) (by omega) (by omega) (by omega) (by omega)).mono ?_
  rintro e w' ⟨rfl, rfl⟩
  rw [s_mul3]
  go_wp2_with fail
  refine (pow_any _ _ _ _ (by omega) (by omega) (by omega) (by omega)).mono ?_
  rintro e w4 ⟨rfl, hb4⟩
  rw [s_pow1]
  go_wp2_with fail
  refine (pow_any _ _ _ _ (by omega) (by omega) (by omega) (by omega)).mono ?_
  rintro e w5 ⟨rfl, hb5⟩
  rw [s_pow2]
  go_wp2_with fail
  refine (member_any _ _ (by omega) (by omega)).mono ?_
  rintro e w6 ⟨rfl, hb6⟩
  rw [s_mem1]
  go_wp2_with fail
  refine (member_any _ _ (by omega) (by omega)).mono ?_
  rintro e w7 ⟨rfl, hb7⟩
  rw [s_mem4]
  go_wp2_with fail
  refine (member_any _ _ (by omega) (by omega)).mono ?_
  rintro e w8 ⟨rfl, hb8⟩
  rw [s_mem2]
  go_wp2_with fail
  refine (member_any _ _ (by omega) (by omega)).mono ?_
  rintro e w9 ⟨rfl, hb9⟩
  rw [s_mem0]
  go_wp2_with fail
  go_ret
  have z1 := hb1.size
  have z2 := hb2.size
  have z3 := hb3.size
  have z4 := hb4.size
  have z5 := hb5.size
  have z6 := hb6.size
  have z7 := hb7.size
  have z8 := hb8.size
  exact ⟨rfl, hb1.trans <| (hb2.mono (by omega)).trans <| (hb3.mono (by omega)).trans <| (hb4.mono (by omega)).trans <| (hb5.mono (by omega)).trans <| (hb6.mono (by omega)).trans <| (hb7.mono (by omega)).trans <| (hb8.mono (by omega)).trans (hb9.mono (by omega))⟩
end Go.Proofs.Ytfligfompdcddaa
