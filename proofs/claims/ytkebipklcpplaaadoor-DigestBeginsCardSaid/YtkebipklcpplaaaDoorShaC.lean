/- Plain: blocks of a message, and the bytes of a hash. -/
import Derived.Test.YtkebipklcpplaaaDoorShaB
namespace Go.Proofs.YtkebipklcpplaaaDoor.Sha
set_option linter.unusedVariables false

theorem getD_range_map {α : Type} (F : Nat → α) (n j : Nat) (h : j < n) (d : α) : ((List.range n).map F).getD j d = F j := by
  rw [List.getD_eq_getElem?_getD, List.getElem?_map, List.getElem?_range h]; rfl
/-- all words of a state are words -/
def St.ok (s : St) : Prop := s.a < 4294967296 ∧ s.b < 4294967296 ∧ s.c < 4294967296 ∧ s.d < 4294967296 ∧ s.e < 4294967296 ∧ s.f < 4294967296 ∧ s.g < 4294967296 ∧ s.h < 4294967296
theorem mix_ok (s : St) (b : List UInt8) : (mix s b).ok := ⟨add_lt _ _, add_lt _ _, add_lt _ _, add_lt _ _, add_lt _ _, add_lt _ _, add_lt _ _, add_lt _ _⟩
theorem iv_ok : iv.ok := by unfold St.ok; decide
theorem fold_ok : ∀ (n : Nat) (s : St) (l : List UInt8), s.ok → (fold n s l).ok := by
  intro n
  induction n with
  | zero => intro s l h; exact h
  | succ n ih => intro s l h; exact ih _ _ (mix_ok _ _)
theorem fold_succ : ∀ (n : Nat) (s : St) (l : List UInt8), fold (n + 1) s l = mix (fold n s l) ((l.drop (64 * n)).take 64) := by
  intro n
  induction n with
  | zero => intro s l; simp [fold]
  | succ n ih =>
    intro s l
    rw [fold, ih, fold, List.drop_drop, show 64 + 64 * n = 64 * (n + 1) by omega]
theorem padded_length (l : List UInt8) : (padded l).length % 64 = 0 ∧ 64 ≤ (padded l).length ∧ (padded l).length ≤ l.length + 73 := by
  simp only [padded, List.length_append, List.length_cons, List.length_replicate, bytesOf, List.length_map, List.length_range]
  omega
/-- a hash's bytes behind k of 32 rounds -/
def outAt (s : St) (k j : Nat) : Nat := if j < k then (stList s).getD (j / 4) 0 / 2 ^ (8 * (3 - j % 4)) % 256 else 0
theorem outAt_step (s : St) (k j : Nat) : (if j = k then (stList s).getD (k / 4) 0 / 2 ^ (8 * (3 - k % 4)) % 256 else outAt s k j) = outAt s (k + 1) j := by
  unfold outAt
  by_cases h : j = k
  · rw [if_pos h, if_pos (by omega), h]
  · rw [if_neg h]
    by_cases h2 : j < k
    · rw [if_pos h2, if_pos (by omega)]
    · rw [if_neg h2, if_neg (by omega)]
theorem out_length (s : St) : (out s).length = 32 := by simp [out]
theorem outAt_end (s : St) (j : Nat) (h : j < 32) : outAt s 32 j = ((out s).getD j 0).toNat := by
  unfold outAt out
  rw [if_pos h, getD_range_map _ 32 j h]
  simp
theorem sum_length (l : List UInt8) : (sum l).length = 32 := out_length _
end Go.Proofs.YtkebipklcpplaaaDoor.Sha
