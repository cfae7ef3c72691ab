/- Paths and growths of lists are accepted: plain laws. -/
import Derived.Test.YtjedhmoehepbnaaDoorTreeCheck
namespace Go.Proofs.YtjedhmoehepbnaaDoor
set_option linter.unusedVariables false
namespace Tree
theorem snoc_take (P : List H) (r : H) : (P ++ [r]).take ((P ++ [r]).length - 1) = P := by simp
theorem snoc_last (P : List H) (r : H) : (P ++ [r]).getD ((P ++ [r]).length - 1) [] = r := by simp [List.getD_eq_getElem?_getD]
theorem getD_take (l : List ByteArray) (k i : Nat) (h : i < k) (d : ByteArray) : (l.take k).getD i d = l.getD i d := by
  rw [List.getD_eq_getElem?_getD, List.getD_eq_getElem?_getD, List.getElem?_take, if_pos h]
theorem getD_drop (l : List ByteArray) (k i : Nat) (h : k ≤ i) (d : ByteArray) : (l.drop k).getD (i - k) d = l.getD i d := by
  rw [List.getD_eq_getElem?_getD, List.getD_eq_getElem?_getD, List.getElem?_drop, show k + (i - k) = i by omega]
theorem small_one (l : List ByteArray) (i : Nat) (h : i < l.length) (h1 : l.length ≤ 1) : leaf (l.getD i ByteArray.empty) = small l := by
  match l, h, h1 with
  | [s], h, _ => obtain rfl : i = 0 := by simp at h; omega
                 rfl
theorem path_ok : ∀ (f : Nat) (l : List ByteArray) (i : Nat), i < l.length → l.length ≤ 2 ^ f →
    (path f l i).length = depth f i l.length ∧ up f (leaf (l.getD i ByteArray.empty)) i l.length (path f l i) = root f l := by
  intro f
  induction f with
  | zero => intro l i h1 h2; exact ⟨rfl, small_one l i h1 (by simpa using h2)⟩
  | succ f ih =>
    intro l i h1 h2
    rw [path, depth, up, root]
    by_cases hn : l.length ≤ 1
    · rw [if_pos hn, if_pos hn, if_pos hn, if_pos hn]; exact ⟨rfl, small_one l i h1 hn⟩
    · rw [if_neg hn, if_neg hn, if_neg hn, if_neg hn]
      have a := half_pow l.length f (by omega) h2
      have b := rest_pow l.length f (by omega) h2
      have c := half_lt l.length (by omega)
      have lt : (l.take (half l.length)).length = half l.length := by rw [List.length_take]; omega
      have ld : (l.drop (half l.length)).length = l.length - half l.length := List.length_drop
      by_cases hi : i < half l.length
      · rw [if_pos hi, if_pos hi, if_pos hi]
        obtain ⟨e1, e2⟩ := ih (l.take (half l.length)) i (by omega) (by omega)
        rw [lt] at e1 e2
        rw [getD_take _ _ _ hi] at e2
        rw [snoc_take, snoc_last, e2]
        exact ⟨by rw [List.length_append, e1]; simp; omega, rfl⟩
      · rw [if_neg hi, if_neg hi, if_neg hi]
        obtain ⟨e1, e2⟩ := ih (l.drop (half l.length)) (i - half l.length) (by omega) (by omega)
        rw [ld] at e1 e2
        rw [getD_drop _ _ _ (by omega)] at e2
        rw [snoc_take, snoc_last, e2]
        exact ⟨by rw [List.length_append, e1]; simp; omega, rfl⟩
/-- the path of a string is accepted -/
theorem path_fits (f : Nat) (l : List ByteArray) (i : Nat) (h1 : i < l.length) (h2 : l.length ≤ 2 ^ f) : fits f l.length (root f l) i (leaf (l.getD i ByteArray.empty)) (path f l i) = true := by
  obtain ⟨e1, e2⟩ := path_ok f l i h1 h2
  unfold fits
  rw [e2, e1]; simp [h1]
theorem half_same (m n : Nat) (h1 : half n < m) (h2 : m ≤ n) : half m = half n := by
  have b := half_le n (by have := half_pos n; omega)
  unfold half at h1 b
  exact (half_unique m _ h1 (by omega)).symm
theorem growth_ok : ∀ (f : Nat) (l : List ByteArray) (m : Nat) (w : Bool) (old : H), 1 ≤ m → m ≤ l.length → l.length ≤ 2 ^ f → (w = true → old = root f (l.take m)) →
    (growth f l m w).length = many f m l.length w ∧ both f m l.length w old (growth f l m w) = (root f (l.take m), root f l) := by
  intro f
  induction f with
  | zero =>
    intro l m w old h1 h2 h3 h4
    have e : l.take m = l := List.take_of_length_le (by simp at h3; omega)
    rw [growth, many, both, e]
    cases w with
    | true => rw [e] at h4; simp [h4 rfl]
    | false => simp
  | succ f ih =>
    intro l m w old h1 h2 h3 h4
    rw [growth, many, both]
    by_cases hm : m = l.length
    · have e : l.take m = l := List.take_of_length_le (by omega)
      rw [if_pos hm, if_pos hm, if_pos hm, e]
      cases w with
      | true => rw [e] at h4; simp [h4 rfl]
      | false => simp
    · rw [if_neg hm, if_neg hm, if_neg hm]
      have a := half_pow l.length f (by omega) h3
      have b := rest_pow l.length f (by omega) h3
      have c := half_lt l.length (by omega)
      have lt : (l.take (half l.length)).length = half l.length := by rw [List.length_take]; omega
      have ld : (l.drop (half l.length)).length = l.length - half l.length := List.length_drop
      have er : root (f + 1) l = node (root f (l.take (half l.length))) (root f (l.drop (half l.length))) := by rw [root_succ, if_neg (by omega)]
      by_cases hi : m ≤ half l.length
      · rw [if_pos hi, if_pos hi, if_pos hi]
        have et : (l.take (half l.length)).take m = l.take m := by rw [List.take_take]; congr 1; omega
        have em : root (f + 1) (l.take m) = root f (l.take m) := root_more f _ (by rw [List.length_take]; omega)
        obtain ⟨e1, e2⟩ := ih (l.take (half l.length)) m w old h1 (by omega) (by omega) (fun h => by rw [et, ← em]; exact h4 h)
        rw [lt] at e1 e2
        rw [snoc_take, snoc_last, e2, et, er, em]
        exact ⟨by rw [List.length_append, e1]; simp; omega, rfl⟩
      · rw [if_neg hi, if_neg hi, if_neg hi]
        obtain ⟨e1, e2⟩ := ih (l.drop (half l.length)) (m - half l.length) false old (by omega) (by omega) (by omega) (fun h => by cases h)
        rw [ld] at e1 e2
        have lm : (l.take m).length = m := by rw [List.length_take]; omega
        have hs := half_same m l.length (by omega) h2
        have em : root (f + 1) (l.take m) = node (root f (l.take (half l.length))) (root f ((l.drop (half l.length)).take (m - half l.length))) := by
          rw [root_succ, if_neg (by rw [lm]; have := half_pos l.length; omega), lm, hs, List.take_take, List.drop_take]
          congr 3; omega
        rw [snoc_take, snoc_last, e2, er, em]
        exact ⟨by rw [List.length_append, e1]; simp; omega, rfl⟩
/-- the growth of a list is accepted -/
theorem growth_grown (f : Nat) (l : List ByteArray) (m : Nat) (h1 : 1 ≤ m) (h2 : m ≤ l.length) (h3 : l.length ≤ 2 ^ f) : grown f m l.length (root f (l.take m)) (root f l) (growth f l m true) = true := by
  obtain ⟨e1, e2⟩ := growth_ok f l m true (root f (l.take m)) h1 h2 h3 (fun _ => rfl)
  unfold grown
  rw [e2, e1]; simp
end Tree
end Go.Proofs.YtjedhmoehepbnaaDoor
