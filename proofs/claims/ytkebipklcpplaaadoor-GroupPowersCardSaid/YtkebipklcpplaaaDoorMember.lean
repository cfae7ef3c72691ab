/- Members of the group: plain laws. -/
import Derived.Test.YtkebipklcpplaaaDoorSan4
import Derived.Test.YtkebipklcpplaaaDoorPrime
namespace Go.Proofs.YtkebipklcpplaaaDoor
open Go.RowKit
set_option linter.unusedVariables false

theorem member_nat (q p : Nat) (hq : q = 1152921504606845789) (hp : p = 2305843009213691579) (x : Int) (h : 1 ≤ x ∧ x ≤ 2305843009213691578) : Num.memberZ x = (x ^ q % p == 1) := by
  rw [Num.memberZ_in x h, Num.powZ, if_neg (by omega), show (1152921504606845789 : Int).toNat = q by omega, show (2305843009213691579 : Int) = p by omega]
/-- of a number from 1 to P - 1 and its negative, exactly one is a member -/
theorem member_neg (x : Int) (h1 : 1 ≤ x) (h2 : x ≤ 2305843009213691578) : (Num.memberZ x != Num.memberZ (2305843009213691579 - x)) = true := by
  obtain ⟨q, hq⟩ : ∃ q : Nat, q = 1152921504606845789 := ⟨_, rfl⟩
  obtain ⟨p, hp⟩ : ∃ p : Nat, p = 2305843009213691579 := ⟨_, rfl⟩
  obtain ⟨n, rfl⟩ := Int.eq_ofNat_of_zero_le (show 0 ≤ x by omega)
  rw [member_nat q p hq hp n (by omega), member_nat q p hq hp _ (by omega), show (2305843009213691579 : Int) = p by omega]
  have hpr : Num.Pr p := by rw [hp]; exact Num.prP
  have := Num.one_of_two p q n (by omega) (by omega) hpr (by omega) (Num.fermatP p (2 * q) n hp (by omega) (by omega) (by omega))
  simpa [bne_iff_ne] using this

end Go.Proofs.YtkebipklcpplaaaDoor
