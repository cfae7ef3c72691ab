/- The sanity of the laws of layer 12: plain laws. -/
import Derived.Test.YtjedhmoehepbnaaDoorTreeOk
namespace Go.Proofs.YtjedhmoehepbnaaDoor
set_option linter.unusedVariables false
namespace Tree
theorem half2 : half 2 = 1 := (half_unique 2 0 (by omega) (by omega)).symm
theorem half3 : half 3 = 2 := (half_unique 3 1 (by omega) (by omega)).symm
theorem half4 : half 4 = 2 := (half_unique 4 1 (by omega) (by omega)).symm
theorem root_two (a b : ByteArray) : root 1 [a, b] = node (leaf a) (leaf b) := by simp [root, small, half2]
theorem root_one' (a : ByteArray) (f : Nat) : root f [a] = leaf a := by cases f <;> simp [root, small]
theorem san_p2 (a b c : ByteArray) : path 2 [a, b, c] 2 = [node (leaf a) (leaf b)] := by simp [path, half3, root_two]
theorem san_p0 (a b c : ByteArray) : path 2 [a, b, c] 0 = [leaf b, leaf c] := by simp [path, half3, half2, root_one']
theorem san_g2 (a b c : ByteArray) : growth 2 [a, b, c] 2 true = [leaf c] := by simp [growth, half3, root_one']
theorem san_g3 (a b c d : ByteArray) : growth 2 [a, b, c, d] 3 true = [leaf c, leaf d, node (leaf a) (leaf b)] := by simp [growth, half4, half2, root_two, root_one']
theorem san_g1 (a b c : ByteArray) : growth 2 [a, b, c] 1 true = [leaf b, leaf c] := by simp [growth, half3, half2, root_one']
theorem san_root (a b c : ByteArray) : root 2 [a, b, c] = node (node (leaf a) (leaf b)) (leaf c) := by simp [root, small, half3, half2]
theorem leaf_a : (leaf ⟨#[97]⟩ == List.replicate 32 0) = false := by
  have : Sha.sum [0, 97] ≠ List.replicate 32 0 := by decide +kernel
  rw [beq_eq_false_iff_ne]
  exact this
end Tree
end Go.Proofs.YtjedhmoehepbnaaDoor
