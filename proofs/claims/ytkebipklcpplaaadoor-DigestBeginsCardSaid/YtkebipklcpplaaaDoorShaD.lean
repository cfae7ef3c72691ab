/- Plain: the message in two parts. -/
import Derived.Test.YtkebipklcpplaaaDoorShaC
import Derived.Lib.Repeat
namespace Go.Proofs.YtkebipklcpplaaaDoor.Sha
set_option linter.unusedVariables false
theorem fold_add : ∀ (n m : Nat) (s : St) (l : List UInt8), fold (n + m) s l = fold m (fold n s l) (l.drop (64 * n)) := by
  intro n
  induction n with
  | zero => intro m s l; simp [fold]
  | succ n ih =>
    intro m s l
    rw [show n + 1 + m = (n + m) + 1 by omega, fold, ih, fold, List.drop_drop, show 64 + 64 * n = 64 * (n + 1) by omega]
theorem fold_begin : ∀ (n : Nat) (s : St) (l r : List UInt8), 64 * n ≤ l.length → fold n s (l ++ r) = fold n s l := by
  intro n
  induction n with
  | zero => intro s l r _; rfl
  | succ n ih =>
    intro s l r h
    rw [fold, fold, List.take_append_of_le_length (by omega), List.drop_append_of_le_length (by omega), ih _ _ _ (by simp; omega)]
/-- what lies behind the whole blocks -/
def rest (l : List UInt8) : List UInt8 := l.drop (64 * (l.length / 64)) ++ 128 :: List.replicate ((119 - l.length % 64) % 64) 0 ++ bytesOf 8 (l.length * 8)
theorem rest_eq (l : List UInt8) : (padded l).drop (64 * (l.length / 64)) = rest l := by
  unfold padded rest
  rw [List.append_assoc, List.drop_append_of_le_length (by omega), ← List.append_assoc]
theorem rest_length (l : List UInt8) : (rest l).length = (padded l).length - 64 * (l.length / 64) := by rw [← rest_eq]; simp
theorem sum_two (l : List UInt8) (nb : Nat) (h : (rest l).length = 64 * nb) : sum l = out (fold nb (fold (l.length / 64) iv l) (rest l)) := by
  have h1 := padded_length l
  have h2 := rest_length l
  have h3 : (padded l).length / 64 = l.length / 64 + nb := by
    have : 64 * (l.length / 64) ≤ (padded l).length := by
      have : l.length ≤ (padded l).length := by simp [padded]
      omega
    omega
  rw [sum, h3, fold_add, rest_eq]
  congr 2
  unfold padded
  rw [List.append_assoc, fold_begin _ _ _ _ (by omega)]
theorem repeatL_zero (n : Nat) : Lib.repeatL [0] n = List.replicate n 0 := by
  induction n with
  | zero => rfl
  | succ n ih => rw [Lib.repeatL, ih, List.replicate_succ]; rfl
end Go.Proofs.YtkebipklcpplaaaDoor.Sha
