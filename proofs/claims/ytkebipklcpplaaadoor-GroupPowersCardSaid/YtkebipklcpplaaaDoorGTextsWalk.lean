/- The walk of the law GroupTexts. -/
import Derived.Test.YtkebipklcpplaaaDoorScalar
namespace Go.Proofs.YtkebipklcpplaaaDoor
open Go.RowKit Go.Sort
set_option linter.unusedVariables false
/-- the member of a text -/
theorem element_is (s : ByteArray) : ∃ a : Nat, Num.mulZ (rootN s : Nat) (rootN s : Nat) 2305843009213691579 = (a : Int) ∧ (∀ q p, q = 1152921504606845789 → p = 2305843009213691579 → a ^ q % p = 1) ∧ 1 ≤ a ∧ a < 2305843009213691579 ∧ Num.memberZ (a : Int) = true := by
  have h1 : 1 ≤ rootN s := by unfold rootN; omega
  have h2 : rootN s < 2305843009213691579 := by unfold rootN; omega
  obtain ⟨q, hq⟩ : ∃ q : Nat, q = 1152921504606845789 := ⟨_, rfl⟩
  obtain ⟨p, hp⟩ : ∃ p : Nat, p = 2305843009213691579 := ⟨_, rfl⟩
  generalize rootN s = x at *
  obtain ⟨e1, e2, e3⟩ := square_member q p x hq hp h1 (by omega)
  refine ⟨x * x % p, ?_, fun q' p' hq' hp' => ?_, e2, by omega, member_of q p _ hq hp e1 e2 e3⟩
  · have := mulZ_nat x x p (by omega)
    rw [hp] at this ⊢
    exact this
  · rw [hq', hp', ← hq, ← hp]; exact e1
set_option maxHeartbeats 2000000 in
set_option maxRecDepth 100000 in
theorem walk_GroupTexts (s : ByteArray) (hs : s.size ≤ maxLen) (w : World) (hT : Tabs w) :
    Calls Tryd.prog 14 #[.string s] w fun e w' => e = .returned (.bool true) ∧ Below w.heap.size w w' := by
  unfold maxLen at hs
  have HT := Lib.hid hT
  clear hT
  go_enter Tryd.func14, Tryd.ntmps14
  go_wp2_with fail
  refine (sanity_any _).mono ?_
  rintro e w1 ⟨rfl, hb1⟩
  have HT1 := Lib.hid (HT.out.below hb1)
  go_wp2_with fail
  have hx : (s.extract 0 (min (s.size : Int) 300).toNat).size ≤ 300 := by simp; omega
  generalize s.extract 0 (min (s.size : Int) 300).toNat = x at *
  obtain ⟨a, ea, _, ha1, ha2, hm⟩ := element_is x
  obtain ⟨v, ev⟩ : ∃ v, scalarN x = v := ⟨_, rfl⟩
  have hv : v < 1152921504606845789 := by rw [← ev]; exact Nat.mod_lt _ (by omega)
  have EA := Lib.hid ea
  have EV := Lib.hid ev
  have HM := Lib.hid hm
  have iv0 : 0 ≤ (v : Int) := by omega
  have iv1 : (v : Int) < 1152921504606845789 := by omega
  have ia0 : 1 ≤ (a : Int) := by omega
  have ia1 : (a : Int) < 2305843009213691579 := by omega
  clear ea ev hm hv ha1 ha2
  obtain ⟨V, eV⟩ : ∃ V : Int, (v : Int) = V := ⟨_, rfl⟩
  obtain ⟨A, eA⟩ : ∃ A : Int, (a : Int) = A := ⟨_, rfl⟩
  have cs : ∀ W, Tabs W → Calls Tryd.prog 34 #[.string x] W fun e w' => e = .returned (.int .i64 V) ∧ Below W.heap.size W w' := fun W h => by rw [← eV]; exact scalar_any x v W (by omega) h EV.out
  have ce : ∀ W, Tabs W → Calls Tryd.prog 29 #[.string x] W fun e w' => e = .returned (.int .i64 A) ∧ Below W.heap.size W w' := fun W h => by rw [← eA]; exact element_any x a W (by omega) h EA.out
  have rs : ∀ W, Calls Tryd.prog 35 #[.string x] W fun e w' => e = .returned (.int .i64 V) ∧ Below W.heap.size W w' := fun W => by rw [← eV]; exact rscalar_any x v W (by omega) EV.out
  have re : ∀ W, Calls Tryd.prog 36 #[.string x] W fun e w' => e = .returned (.int .i64 A) ∧ Below W.heap.size W w' := fun W => by rw [← eA]; exact relement_any x a W (by omega) EA.out
  have CS := Lib.hid cs
  have CE := Lib.hid ce
  have RS := Lib.hid rs
  have RE := Lib.hid re
  rw [eV] at iv0 iv1
  rw [eA] at ia0 ia1 HM
  clear cs ce rs re eV eA EV EA
  with_reducible refine (CS.out _ HT1.out).mono ?_
  rintro e w2 ⟨rfl, hb2⟩
  have HT2 := Lib.hid (HT1.out.below hb2)
  go_wp2_with fail
  with_reducible refine (CE.out _ HT2.out).mono ?_
  rintro e w3 ⟨rfl, hb3⟩
  go_wp2_with fail
  with_reducible refine (RS.out _).mono ?_
  rintro e w4 ⟨rfl, hb4⟩
  go_wp2_with fail
  with_reducible refine (RE.out _).mono ?_
  rintro e w5 ⟨rfl, hb5⟩
  go_wp2_with fail
  refine (member_any _ _ (by omega) (by omega)).mono ?_
  rintro e w6 ⟨rfl, hb6⟩
  rw [HM.out]
  go_wp2_with fail
  go_ret
  exact ⟨ret_bool (by simp), below_join (below_join (below_join (below_join (below_join hb1 hb2) hb3) hb4) hb5) hb6⟩
end Go.Proofs.YtkebipklcpplaaaDoor
