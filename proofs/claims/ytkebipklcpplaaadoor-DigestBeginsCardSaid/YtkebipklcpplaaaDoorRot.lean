/- Contracts of the rotations. -/
import Derived.Test.YtkebipklcpplaaaDoorProg
import Derived.Test.YtkebipklcpplaaaDoorKit
import Derived.Test.YtkebipklcpplaaaDoorSha
import Derived.WalkLawsBesides
import Derived.Deep.QuietTactic
import Derived.BigQuiet
namespace Go.Proofs.YtkebipklcpplaaaDoor
open Go.RowKit
set_option linter.unusedVariables false

theorem rot_any (x n : Nat) (w : World) (hx : x < 4294967296) (h1 : 1 ≤ n) (h2 : n ≤ 31) :
    Calls Tryd.prog 62 #[.int .u32 (x : Int), .int .i64 (n : Int)] w fun e w' => e = .returned (.int .u32 (Sha.rotr x n : Nat)) ∧ ∃ m, w' = w.drewN m := by
  have H := Lib.hid (Sha.rotr_walk x n hx)
  go_enter Tryd.func62, Tryd.ntmps62
  go_wp2
  go_quiet (fail)
  go_wp2
  go_ret
  exact ⟨ret_int H.out, _, rfl⟩
theorem rotl_any (x n : Nat) (w : World) (hx : x < 4294967296) (h1 : 1 ≤ n) (h2 : n ≤ 31) :
    Calls Tryd.prog 68 #[.int .u32 (x : Int), .int .i64 (-(n : Int))] w fun e w' => e = .returned (.int .u32 (Sha.rotr x n : Nat)) ∧ w' = w := by
  obtain ⟨c, hc⟩ : ∃ c, c + n = 32 := ⟨32 - n, by omega⟩
  have hm := Sha.neg_mask n c h1 h2 hc
  have H := Lib.hid (Sha.rotl_walk x n c hx (by omega) (by omega))
  have hc1 : c ≤ 31 := by omega
  clear hc
  go_enter Tryd.func68, Tryd.ntmps68
  go_wp2
  go_ret
  exact ⟨ret_int H.out, rfl⟩
theorem rotate_any (x n : Nat) (w : World) (hx : x < 4294967296) (h1 : 1 ≤ n) (h2 : n ≤ 31) :
    Calls Tryd.prog 54 #[.int .u32 (x : Int), .int .i64 (n : Int)] w fun e w' => e = .returned (.int .u32 (Sha.rotr x n : Nat)) ∧ w' = w := by
  go_enter Tryd.func54, Tryd.ntmps54
  go_wp2_with fail
  refine (rotl_any x n _ hx h1 h2).mono ?_
  rintro e w' ⟨rfl, rfl⟩
  go_wp2_with fail
  go_ret
  exact ⟨rfl, rfl⟩
theorem rotate_int (x : Nat) (z : Int) (w : World) (hx : x < 4294967296) (h1 : 1 ≤ z) (h2 : z ≤ 31) :
    Calls Tryd.prog 54 #[.int .u32 (x : Int), .int .i64 z] w fun e w' => e = .returned (.int .u32 (Sha.rotr x z.toNat : Nat)) ∧ w' = w := by
  obtain ⟨n, rfl⟩ := Int.eq_ofNat_of_zero_le (show 0 ≤ z by omega)
  exact rotate_any x n w hx (by omega) (by omega)
theorem rot_int (x : Nat) (z : Int) (w : World) (hx : x < 4294967296) (h1 : 1 ≤ z) (h2 : z ≤ 31) :
    Calls Tryd.prog 62 #[.int .u32 (x : Int), .int .i64 z] w fun e w' => e = .returned (.int .u32 (Sha.rotr x z.toNat : Nat)) ∧ ∃ m, w' = w.drewN m := by
  obtain ⟨n, rfl⟩ := Int.eq_ofNat_of_zero_le (show 0 ≤ z by omega)
  exact rot_any x n w hx (by omega) (by omega)
end Go.Proofs.YtkebipklcpplaaaDoor
