/- The walk of the law GroupNats. -/
import Derived.Test.YtfligfompdcddaaSanN
import Derived.Test.YtfligfompdcddaaDigP
namespace Go.Proofs.Ytfligfompdcddaa
open Go.RowKit
set_option linter.unusedVariables false
theorem and62 (n : Int) : bits .and .i64 n 4611686018427387903 = n % 4611686018427387904 := by
  have h127 : (BitVec.ofInt 64 4611686018427387903).toNat = 2 ^ 62 - 1 := by decide
  have key : (BitVec.ofInt 64 n &&& BitVec.ofInt 64 4611686018427387903).toNat = (n % ((2 ^ 64 : Nat) : Int)).toNat % 2 ^ 62 := by
    rw [BitVec.toNat_and, BitVec.toNat_ofInt, h127, Nat.and_two_pow_sub_one_eq_mod]
  show IntKind.i64.wrap ((BitVec.ofInt 64 n &&& BitVec.ofInt 64 4611686018427387903).toNat : Nat) = n % 4611686018427387904
  rw [key, IntKind.wrap_i64]
  omega
theorem wf_bd64 {a : Int} (h : (Lit.int .i64 a).wf = true) : -9223372036854775808 ≤ a ∧ a ≤ 9223372036854775807 := by
  simpa [Lit.wf, IntKind.min, IntKind.max, IntKind.signed, IntKind.bits] using h
theorem mulZ_nat (x y z : Nat) (hz : 0 < z) : Num.mulZ (x : Int) (y : Int) (z : Int) = ((x * y % z : Nat) : Int) := by
  rw [Num.mulZ, if_neg (by omega)]
  simp
theorem powZ_nat (x y z : Nat) (hz : 0 < z) : Num.powZ (x : Int) (y : Int) (z : Int) = ((x ^ y % z : Nat) : Int) := by
  rw [Num.powZ, if_neg (by omega), Int.toNat_natCast]
  simp
set_option maxHeartbeats 2000000 in
set_option maxRecDepth 100000 in
theorem walk_GroupNats (a b m : Int) (ha : (Lit.int .i64 a).wf = true) (hb : (Lit.int .i64 b).wf = true) (hm : (Lit.int .i64 m).wf = true) (w : World) :
    Calls Try.prog 3 #[.int .i64 a, .int .i64 b, .int .i64 m] w fun e w' => e = .returned (.bool true) ∧ Below w.heap.size w w' := by
  obtain ⟨ha1, ha2⟩ := wf_bd64 ha
  obtain ⟨hb1, hb2⟩ := wf_bd64 hb
  obtain ⟨hm1, hm2⟩ := wf_bd64 hm
  clear ha hb hm
  have M1 := and62 a
  have M2 := and62 b
  have M3 := and62 m
  obtain ⟨x, hx⟩ : ∃ x : Nat, a % 4611686018427387904 = (x : Int) := ⟨(a % 4611686018427387904).toNat, by omega⟩
  obtain ⟨y, hy⟩ : ∃ y : Nat, b % 4611686018427387904 = (y : Int) := ⟨(b % 4611686018427387904).toNat, by omega⟩
  obtain ⟨z', hz'⟩ : ∃ z : Nat, m % 4611686018427387904 = (z : Int) := ⟨(m % 4611686018427387904).toNat, by omega⟩
  have xl : x < 4611686018427387904 := by omega
  have yl : y < 4611686018427387904 := by omega
  have zl : z' < 4611686018427387904 := by omega
  rw [hx] at M1
  rw [hy] at M2
  rw [hz'] at M3
  obtain ⟨z, hz⟩ : ∃ z : Nat, z' + 1 = z := ⟨_, rfl⟩
  have M4 : (1 : Int) + (z' : Int) = (z : Int) := by omega
  have z0 : 0 < z := by omega
  have zl2 : z ≤ 4611686018427387904 := by omega
  have pw : (4611686018427387904 : Nat) < 256 ^ 8 := by decide
  have C1 := Lib.hid (fun W => of_any x W (by omega))
  have C2 := Lib.hid (fun W => of_any y W (by omega))
  have C3 := Lib.hid (fun W => of_any z W (by omega))
  have C4 := Lib.hid (fun W => mul_ok (a := x) (b := y) (Nat.lt_trans xl (by decide)) (Nat.lt_trans yl (by decide)) W)
  have C5 := Lib.hid (fun W => quo_ok (a := x * y) (m := z) (Nat.lt_of_le_of_lt (Nat.mul_le_mul (Nat.le_of_lt xl) (Nat.le_of_lt yl)) (by decide)) (Nat.lt_of_le_of_lt zl2 (by decide)) z0 W)
  have C6 := Lib.hid (fun W => rnpow_any x y z (by omega) (by omega) (by omega) z0 W)
  have l1 : x * y % z < 9223372036854775808 := Nat.lt_of_lt_of_le (Nat.mod_lt _ z0) (by omega)
  have l2 : x ^ y % z < 9223372036854775808 := Nat.lt_of_lt_of_le (Nat.mod_lt _ z0) (by omega)
  have C7 := Lib.hid (fun W => int_yes (bstr (Nb.enc (x * y % z))) (x * y % z) W (by have := str_size (x * y % z) 8 (by omega); unfold maxLen; omega) (val_str _) l1)
  have C8 := Lib.hid (fun W => int_yes (bstr (Nb.enc (x ^ y % z))) (x ^ y % z) W (by have := str_size (x ^ y % z) 8 (by omega); unfold maxLen; omega) (val_str _) l2)
  have C9 := Lib.hid (fun W => mul_any (x : Int) (y : Int) (z : Int) W (by omega) (by omega) (by omega) (by omega) (by omega))
  have C10 := Lib.hid (fun W => pow_any (x : Int) (y : Int) (z : Int) W (by omega) (by omega) (by omega) (by omega))
  have E1 := mulZ_nat x y z z0
  have E2 := powZ_nat x y z z0
  rw [E1] at C9
  rw [E2] at C10
  obtain ⟨r, hr⟩ : ∃ r, x * y % z = r := ⟨_, rfl⟩
  obtain ⟨s, hs⟩ : ∃ s, x ^ y % z = s := ⟨_, rfl⟩
  rw [hr] at C5 C7 C9
  rw [hs] at C6 C8 C10
  clear E1 E2 l1 l2 pw hx hy hz' hr hs hz
  go_enter Try.func3, Try.ntmps3
  go_wp2_with fail
  refine (sanity_any _).mono ?_
  rintro e w1 ⟨rfl, b1⟩
  have B1 := Lib.hid b1
  clear b1
  go_wp2_with fail
  refine (C1.out _).mono ?_
  rintro e w2 ⟨rfl, b2⟩
  have B2 := Lib.hid (below_join B1.out b2)
  clear b2 C1 B1
  go_wp2_with fail
  refine (C2.out _).mono ?_
  rintro e w3 ⟨rfl, b3⟩
  have B3 := Lib.hid (below_join B2.out b3)
  clear b3 C2 B2
  go_wp2_with fail
  refine (C3.out _).mono ?_
  rintro e w4 ⟨rfl, b4⟩
  have B4 := Lib.hid (below_join B3.out b4)
  clear b4 C3 B3
  go_wp2_with fail
  refine (C4.out _).mono ?_
  rintro e w5 ⟨rfl, b5⟩
  have B5 := Lib.hid (below_join B4.out b5)
  clear b5 C4 B4
  go_wp2_with fail
  refine (C5.out _).mono ?_
  rintro e w6 ⟨rfl, b6⟩
  have B6 := Lib.hid (below_join B5.out b6)
  clear b6 C5 B5
  go_wp2_with fail
  refine (C6.out _).mono ?_
  rintro e w7 ⟨rfl, b7⟩
  have B7 := Lib.hid (below_join B6.out b7)
  clear b7 C6 B6
  go_wp2_with fail
  refine (C7.out _).mono ?_
  rintro e w' ⟨rfl, rfl⟩
  clear C7
  go_wp2_with fail
  refine (C8.out _).mono ?_
  rintro e w' ⟨rfl, rfl⟩
  clear C8
  go_wp2_with fail
  refine (C9.out _).mono ?_
  rintro e w' ⟨rfl, rfl⟩
  clear C9
  go_wp2_with fail
  refine (C10.out _).mono ?_
  rintro e w8 ⟨rfl, b8⟩
  have B8 := Lib.hid (below_join B7.out b8)
  clear b8 C10 B7
  go_wp2_with fail
  go_ret
  exact ⟨rfl, B8.out⟩
end Go.Proofs.Ytfligfompdcddaa
