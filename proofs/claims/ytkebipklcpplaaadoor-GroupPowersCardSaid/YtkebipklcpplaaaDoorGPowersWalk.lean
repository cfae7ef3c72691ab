/- The walk of the law GroupPowers. -/
import Derived.Test.YtkebipklcpplaaaDoorGTextsWalk
namespace Go.Proofs.YtkebipklcpplaaaDoor
open Go.RowKit Go.Sort
set_option linter.unusedVariables false
/-- powers of a member: what the law asks -/
theorem powers_law (a x y : Nat) (hx : x < 4611686018427387904) (hy : y < 4611686018427387904) (h : ∀ q p, q = 1152921504606845789 → p = 2305843009213691579 → a ^ q % p = 1) :
    ∃ p q s t : Int, Num.powZ a x 2305843009213691579 = p ∧ Num.powZ a y 2305843009213691579 = q ∧ (1 ≤ p ∧ p < 2305843009213691579) ∧ (1 ≤ q ∧ q < 2305843009213691579) ∧ Num.memberZ p = true ∧ Num.powZ a ((x : Int) % 1152921504606845789) 2305843009213691579 = p ∧
      Num.mulZ p q 2305843009213691579 = s ∧ Num.powZ a (Num.addZ x y 1152921504606845789) 2305843009213691579 = s ∧ Num.powZ p y 2305843009213691579 = t ∧ Num.powZ a (Num.mulZ x y 1152921504606845789) 2305843009213691579 = t ∧
      (0 ≤ Num.addZ x y 1152921504606845789 ∧ Num.addZ x y 1152921504606845789 < 1152921504606845789) ∧ (0 ≤ Num.mulZ x y 1152921504606845789 ∧ Num.mulZ x y 1152921504606845789 < 1152921504606845789) := by
  obtain ⟨q, hq⟩ : ∃ q : Nat, q = 1152921504606845789 := ⟨_, rfl⟩
  obtain ⟨p, hp⟩ : ∃ p : Nat, p = 2305843009213691579 := ⟨_, rfl⟩
  have h0 := h q p hq hp
  have ep : (2305843009213691579 : Int) = (p : Int) := by omega
  have eq : (1152921504606845789 : Int) = (q : Int) := by omega
  obtain ⟨m1, m2, m3⟩ := power_member q p a x hq hp h0
  obtain ⟨_, n2, n3⟩ := power_member q p a y hq hp h0
  have em := member_of q p (a ^ x % p) hq hp m1 m2 m3
  rw [ep, eq]
  rw [addZ_nat x y q (by omega), mulZ_nat x y q (by omega)]
  refine ⟨_, _, _, _, powZ_nat a x p (by omega), powZ_nat a y p (by omega), by omega, by omega, em, ?_, mulZ_nat _ _ p (by omega), ?_, powZ_nat _ _ p (by omega), ?_, ?_, ?_⟩
  · rw [show ((x : Int) % (q : Int)) = ((x % q : Nat) : Int) by simp, powZ_nat _ _ p (by omega), ← pow_red p q a (by omega) h0 x]
  · rw [powZ_nat _ _ p (by omega), ← pow_red p q a (by omega) h0 (x + y), ← Nat.mul_mod, ← Nat.pow_add]
  · rw [powZ_nat _ _ p (by omega), ← pow_red p q a (by omega) h0 (x * y), Num.natpow_mod, ← Nat.pow_mul]
  · have := Nat.mod_lt (x + y) (show 0 < q by omega); omega
  · have := Nat.mod_lt (x * y) (show 0 < q by omega); omega
set_option maxHeartbeats 2000000 in
set_option maxRecDepth 100000 in
theorem walk_GroupPowers (s : ByteArray) (e f : Int) (hs : s.size ≤ 140737488351232) (he : (Lit.int .i64 e).wf = true) (hf : (Lit.int .i64 f).wf = true) (w : World) (hT : Tabs w) :
    Calls Tryd.prog 13 #[.string s, .int .i64 e, .int .i64 f] w fun e w' => e = .returned (.bool true) ∧ Below w.heap.size w w' := by
  clear he hf
  obtain ⟨a, ea, ha, ha1, ha2, hm⟩ := element_is s
  have ex := Num.and62 e
  have ey := Num.and62 f
  obtain ⟨x, hx⟩ := Int.eq_ofNat_of_zero_le (show 0 ≤ e % 4611686018427387904 by omega)
  obtain ⟨y, hy⟩ := Int.eq_ofNat_of_zero_le (show 0 ≤ f % 4611686018427387904 by omega)
  rw [hx] at ex
  rw [hy] at ey
  obtain ⟨p, q, u, v, e1, e2, b1, b2, e3, e4, e5, e6, e7, e8, b3, b4⟩ := powers_law a x y (by omega) (by omega) ha
  have ce : ∀ W, Tabs W → Calls Tryd.prog 29 #[.string s] W fun e w' => e = .returned (.int .i64 (a : Int)) ∧ Below W.heap.size W w' := fun W h => element_any s a W (by omega) h ea
  have ia0 : 1 ≤ (a : Int) := by omega
  have ia1 : (a : Int) < 2305843009213691579 := by omega
  have ix0 : 0 ≤ (x : Int) := by omega
  have ix1 : (x : Int) < 4611686018427387904 := by omega
  have iy0 : 0 ≤ (y : Int) := by omega
  have iy1 : (y : Int) < 4611686018427387904 := by omega
  generalize (a : Int) = A at *
  generalize (x : Int) = X at *
  generalize (y : Int) = Y at *
  obtain ⟨X', eX'⟩ : ∃ X', X % 1152921504606845789 = X' := ⟨_, rfl⟩
  have iX0 : 0 ≤ X' ∧ X' < 1152921504606845789 := by omega
  rw [eX'] at e4
  obtain ⟨Z, eZ⟩ : ∃ Z, Num.addZ X Y 1152921504606845789 = Z := ⟨_, rfl⟩
  obtain ⟨M, eM⟩ : ∃ M, Num.mulZ X Y 1152921504606845789 = M := ⟨_, rfl⟩
  rw [eZ] at e6 b3
  rw [eM] at e8 b4
  have c1 : ∀ W, Calls Tryd.prog 30 #[.int .i64 A, .int .i64 X, .int .i64 2305843009213691579] W fun e w' => e = .returned (.int .i64 p) ∧ Below W.heap.size W w' := fun W => by rw [← e1]; exact pow_any A X _ W (by omega) (by omega) (by omega) (by omega)
  have c2 : ∀ W, Calls Tryd.prog 30 #[.int .i64 A, .int .i64 Y, .int .i64 2305843009213691579] W fun e w' => e = .returned (.int .i64 q) ∧ Below W.heap.size W w' := fun W => by rw [← e2]; exact pow_any A Y _ W (by omega) (by omega) (by omega) (by omega)
  have c3 : ∀ W, Calls Tryd.prog 31 #[.int .i64 A] W fun e w' => e = .returned (.bool true) ∧ Below W.heap.size W w' := fun W => by rw [← hm]; exact member_any A W (by omega) (by omega)
  have c4 : ∀ W, Calls Tryd.prog 31 #[.int .i64 p] W fun e w' => e = .returned (.bool true) ∧ Below W.heap.size W w' := fun W => by rw [← e3]; exact member_any p W (by omega) (by omega)
  have c5 : ∀ W, Calls Tryd.prog 30 #[.int .i64 A, .int .i64 X', .int .i64 2305843009213691579] W fun e w' => e = .returned (.int .i64 p) ∧ Below W.heap.size W w' := fun W => by rw [← e4]; exact pow_any A X' _ W (by omega) (by omega) (by omega) (by omega)
  have c6 : ∀ W, Calls Tryd.prog 32 #[.int .i64 p, .int .i64 q, .int .i64 2305843009213691579] W fun e w' => e = .returned (.int .i64 u) ∧ W = w' := fun W => by rw [← e5]; exact mul_any p q _ W (by omega) (by omega) (by omega) (by omega) (by omega)
  have c7 : ∀ W, Calls Tryd.prog 33 #[.int .i64 X, .int .i64 Y, .int .i64 1152921504606845789] W fun e w' => e = .returned (.int .i64 Z) ∧ W = w' := fun W => by rw [← eZ]; exact add_any X Y _ W (by omega) (by omega) (by omega) (by omega) (by omega)
  have c8 : ∀ W, Calls Tryd.prog 30 #[.int .i64 A, .int .i64 Z, .int .i64 2305843009213691579] W fun e w' => e = .returned (.int .i64 u) ∧ Below W.heap.size W w' := fun W => by rw [← e6]; exact pow_any A Z _ W (by omega) (by omega) (by omega) (by omega)
  have c9 : ∀ W, Calls Tryd.prog 30 #[.int .i64 p, .int .i64 Y, .int .i64 2305843009213691579] W fun e w' => e = .returned (.int .i64 v) ∧ Below W.heap.size W w' := fun W => by rw [← e7]; exact pow_any p Y _ W (by omega) (by omega) (by omega) (by omega)
  have d1 : ∀ W, Calls Tryd.prog 32 #[.int .i64 X, .int .i64 Y, .int .i64 1152921504606845789] W fun e w' => e = .returned (.int .i64 M) ∧ W = w' := fun W => by rw [← eM]; exact mul_any X Y _ W (by omega) (by omega) (by omega) (by omega) (by omega)
  have d2 : ∀ W, Calls Tryd.prog 30 #[.int .i64 A, .int .i64 M, .int .i64 2305843009213691579] W fun e w' => e = .returned (.int .i64 v) ∧ Below W.heap.size W w' := fun W => by rw [← e8]; exact pow_any A M _ W (by omega) (by omega) (by omega) (by omega)
  have CE := Lib.hid ce
  have C1 := Lib.hid c1
  have C2 := Lib.hid c2
  have C3 := Lib.hid c3
  have C4 := Lib.hid c4
  have C5 := Lib.hid c5
  have C6 := Lib.hid c6
  have C7 := Lib.hid c7
  have C8 := Lib.hid c8
  have C9 := Lib.hid c9
  have D1 := Lib.hid d1
  have D2 := Lib.hid d2
  have HT := Lib.hid hT
  clear ce c1 c2 c3 c4 c5 c6 c7 c8 c9 d1 d2 hT e1 e2 e3 e4 e5 e6 e7 e8 eZ eM hm ea ha ha1 ha2 b1 b2 b3 b4 hs hx hy
  go_enter Tryd.func13, Tryd.ntmps13
  go_wp2_with fail
  refine (sanity_any _).mono ?_
  rintro e w1 ⟨rfl, hb1⟩
  have HT1 := Lib.hid (HT.out.below hb1)
  go_wp2_with fail
  with_reducible refine (CE.out _ HT1.out).mono ?_
  rintro e w2 ⟨rfl, hb2⟩
  go_wp2_with fail
  with_reducible refine (C1.out _).mono ?_
  rintro e w3 ⟨rfl, hb3⟩
  go_wp2_with fail
  with_reducible refine (C2.out _).mono ?_
  rintro e w4 ⟨rfl, hb4⟩
  go_wp2_with fail
  with_reducible refine (C3.out _).mono ?_
  rintro e w5 ⟨rfl, hb5⟩
  go_wp2_with fail
  with_reducible refine (C4.out _).mono ?_
  rintro e w6 ⟨rfl, hb6⟩
  go_wp2_with fail
  with_reducible refine (C5.out _).mono ?_
  rintro e w7 ⟨rfl, hb7⟩
  go_wp2_with fail
  with_reducible refine (C6.out _).mono ?_
  rintro e w' ⟨rfl, rfl⟩
  go_wp2_with fail
  with_reducible refine (C7.out _).mono ?_
  rintro e w' ⟨rfl, rfl⟩
  go_wp2_with fail
  with_reducible refine (C8.out _).mono ?_
  rintro e w8 ⟨rfl, hb8⟩
  go_wp2_with fail
  with_reducible refine (C9.out _).mono ?_
  rintro e w9 ⟨rfl, hb9⟩
  go_wp2_with fail
  with_reducible refine (D1.out _).mono ?_
  rintro e w' ⟨rfl, rfl⟩
  go_wp2_with fail
  with_reducible refine (D2.out _).mono ?_
  rintro e w10 ⟨rfl, hb10⟩
  go_wp2_with fail
  go_ret
  exact ⟨ret_bool (by simp), below_join (below_join (below_join (below_join (below_join (below_join (below_join (below_join (below_join (hb1) hb2) hb3) hb4) hb5) hb6) hb7) hb8) hb9) hb10⟩
end Go.Proofs.YtkebipklcpplaaaDoor
