/- Trees of hashes on lists: plain definitions and laws. -/
import Derived.Test.YtjedhmoehepbnaaDoorShaC
namespace Go.Proofs.YtjedhmoehepbnaaDoor
set_option linter.unusedVariables false
namespace Tree
abbrev H := List UInt8
/-- the greatest power of 2 below n -/
def half (n : Nat) : Nat := 2 ^ Nat.log2 (n - 1)
theorem half_pos (n : Nat) : 1 ≤ half n := Nat.pow_pos (by omega)
theorem half_lt (n : Nat) (h : 2 ≤ n) : half n < n := by
  have := Nat.log2_self_le (n := n - 1) (by omega)
  unfold half; omega
theorem half_le (n : Nat) (h : 2 ≤ n) : n ≤ 2 * half n := by
  have := Nat.lt_log2_self (n := n - 1)
  unfold half
  rw [Nat.pow_succ] at this
  omega
theorem half_unique (n e : Nat) (h1 : 2 ^ e < n) (h2 : n ≤ 2 * 2 ^ e) : 2 ^ e = half n := by
  have a := half_lt n (by have := Nat.pow_pos (n := e) (show 0 < 2 by omega); omega)
  have b := half_le n (by have := Nat.pow_pos (n := e) (show 0 < 2 by omega); omega)
  unfold half at *
  generalize Nat.log2 (n - 1) = g at *
  have : e = g := by
    rcases Nat.lt_trichotomy e g with h | h | h
    · have := Nat.pow_le_pow_right (show 0 < 2 by omega) (show e + 1 ≤ g from h)
      rw [Nat.pow_succ] at this; omega
    · exact h
    · have := Nat.pow_le_pow_right (show 0 < 2 by omega) (show g + 1 ≤ e from h)
      rw [Nat.pow_succ] at this; omega
  rw [this]
theorem half_pow (n f : Nat) (h : 2 ≤ n) (hf : n ≤ 2 ^ (f + 1)) : half n ≤ 2 ^ f := by
  have a := half_lt n h
  unfold half at *
  generalize Nat.log2 (n - 1) = g at *
  have : g ≤ f := by
    rcases Nat.lt_or_ge f g with h' | h'
    · have := Nat.pow_le_pow_right (show 0 < 2 by omega) (show f + 1 ≤ g from h')
      omega
    · exact h'
  exact Nat.pow_le_pow_right (by omega) this
theorem rest_pow (n f : Nat) (h : 2 ≤ n) (hf : n ≤ 2 ^ (f + 1)) : n - half n ≤ 2 ^ f := by
  have := half_pow n f h hf
  have := half_le n h
  omega
def leaf (s : ByteArray) : H := Sha.sum (0 :: s.data.toList)
def node (a b : H) : H := Sha.sum (1 :: (a ++ b))
theorem leaf_length (s : ByteArray) : (leaf s).length = 32 := Sha.sum_length _
theorem node_length (a b : H) : (node a b).length = 32 := Sha.sum_length _
/-- the root of a list of at most 2^f strings -/
def small (l : List ByteArray) : H := match l with
  | [] => Sha.sum []
  | s :: _ => leaf s
theorem small_length (l : List ByteArray) : (small l).length = 32 := by
  unfold small; split
  · exact Sha.sum_length _
  · exact leaf_length _
def root : Nat → List ByteArray → H
  | 0, l => small l
  | f + 1, l => if l.length ≤ 1 then small l else node (root f (l.take (half l.length))) (root f (l.drop (half l.length)))
theorem root_succ (f : Nat) (l : List ByteArray) : root (f + 1) l = if l.length ≤ 1 then small l else node (root f (l.take (half l.length))) (root f (l.drop (half l.length))) := rfl
theorem root_length : ∀ (f : Nat) (l : List ByteArray), (root f l).length = 32
  | 0, l => small_length l
  | f + 1, l => by
    rw [root]
    split
    · exact small_length l
    · exact node_length _ _
theorem root_more : ∀ (f : Nat) (l : List ByteArray), l.length ≤ 2 ^ f → root (f + 1) l = root f l := by
  intro f
  induction f with
  | zero => intro l h; rw [root, root, if_pos (by simpa using h)]
  | succ f ih =>
    intro l h
    rw [root_succ (f + 1) l, root_succ f l]
    by_cases h1 : l.length ≤ 1
    · rw [if_pos h1, if_pos h1]
    · have a := half_pow l.length f (by omega) h
      have b := rest_pow l.length f (by omega) h
      rw [if_neg h1, if_neg h1, ih _ (by rw [List.length_take]; omega), ih _ (by rw [List.length_drop]; omega)]
theorem root_fuel (f g : Nat) (l : List ByteArray) (h : l.length ≤ 2 ^ f) (hg : f ≤ g) : root g l = root f l := by
  induction g with
  | zero => obtain rfl : f = 0 := by omega
            rfl
  | succ g ih =>
    by_cases e : f = g + 1
    · rw [e]
    · rw [root_more g l (Nat.le_trans h (Nat.pow_le_pow_right (by omega) (by omega))), ih (by omega)]
/-- the path of string i -/
def path : Nat → List ByteArray → Nat → List H
  | 0, _, _ => []
  | f + 1, l, i => if l.length ≤ 1 then [] else
    if i < half l.length then path f (l.take (half l.length)) i ++ [root f (l.drop (half l.length))]
    else path f (l.drop (half l.length)) (i - half l.length) ++ [root f (l.take (half l.length))]
/-- the growth with a mark -/
def growth : Nat → List ByteArray → Nat → Bool → List H
  | 0, l, _, whole => if whole then [] else [root 0 l]
  | f + 1, l, m, whole => if m = l.length then (if whole then [] else [root (f + 1) l]) else
    if m ≤ half l.length then growth f (l.take (half l.length)) m whole ++ [root f (l.drop (half l.length))]
    else growth f (l.drop (half l.length)) (m - half l.length) false ++ [root f (l.take (half l.length))]
theorem path_length : ∀ (f : Nat) (l : List ByteArray) (i : Nat), (path f l i).length ≤ f
  | 0, _, _ => by simp [path]
  | f + 1, l, i => by
    rw [path]
    split
    · simp
    · split
      · have := path_length f (l.take (half l.length)) i; simp; omega
      · have := path_length f (l.drop (half l.length)) (i - half l.length); simp; omega
theorem path_each : ∀ (f : Nat) (l : List ByteArray) (i : Nat), ∀ h ∈ path f l i, h.length = 32
  | 0, _, _ => by simp [path]
  | f + 1, l, i => by
    rw [path]
    split
    · simp
    · split
      · intro h hh
        rcases List.mem_append.1 hh with hh | hh
        · exact path_each f _ _ h hh
        · rw [List.mem_singleton.1 hh]; exact root_length _ _
      · intro h hh
        rcases List.mem_append.1 hh with hh | hh
        · exact path_each f _ _ h hh
        · rw [List.mem_singleton.1 hh]; exact root_length _ _
theorem growth_length : ∀ (f : Nat) (l : List ByteArray) (m : Nat) (b : Bool), (growth f l m b).length ≤ f + 1
  | 0, _, _, b => by rw [growth]; split <;> simp
  | f + 1, l, m, b => by
    rw [growth]
    split
    · split <;> simp
    · split
      · have := growth_length f (l.take (half l.length)) m b; simp; omega
      · have := growth_length f (l.drop (half l.length)) (m - half l.length) false; simp; omega
theorem growth_each : ∀ (f : Nat) (l : List ByteArray) (m : Nat) (b : Bool), ∀ h ∈ growth f l m b, h.length = 32
  | 0, _, _, b => by
    rw [growth]; split
    · simp
    · intro h hh; rw [List.mem_singleton.1 hh]; exact root_length _ _
  | f + 1, l, m, b => by
    rw [growth]
    split
    · split
      · simp
      · intro h hh; rw [List.mem_singleton.1 hh]; exact root_length _ _
    · split
      · intro h hh
        rcases List.mem_append.1 hh with hh | hh
        · exact growth_each f _ _ _ h hh
        · rw [List.mem_singleton.1 hh]; exact root_length _ _
      · intro h hh
        rcases List.mem_append.1 hh with hh | hh
        · exact growth_each f _ _ _ h hh
        · rw [List.mem_singleton.1 hh]; exact root_length _ _
end Tree
end Go.Proofs.YtjedhmoehepbnaaDoor
