/- Plain: digits to the base 2^24, the least significant one first. -/
import Derived.Test.YtpblfpnldbdncaaGreatDoorG02
namespace Go.Proofs.YtpblfpnldbdncaaGreatDoor.Dg
set_option linter.unusedVariables false
abbrev BB : Nat := 16777216
def dg (n : Nat) : List Nat := if h : n = 0 then [] else n % 16777216 :: dg (n / 16777216)
termination_by n
decreasing_by exact Nat.div_lt_self (by omega) (by omega)
def dval : List Nat → Nat
  | [] => 0
  | d :: l => d + 16777216 * dval l
def Fit (l : List Nat) : Prop := ∀ d ∈ l, d < 16777216
theorem dg_zero : dg 0 = [] := by rw [dg]; rfl
theorem dg_pos {n : Nat} (h : n ≠ 0) : dg n = n % 16777216 :: dg (n / 16777216) := by rw [dg, dif_neg h]
theorem dval_dg (n : Nat) : dval (dg n) = n := by
  induction n using Nat.strongRecOn with
  | ind n ih =>
    by_cases h : n = 0
    · rw [h, dg_zero]; rfl
    · rw [dg_pos h, dval, ih _ (Nat.div_lt_self (by omega) (by omega))]
      omega
theorem fit_dg (n : Nat) : Fit (dg n) := by
  induction n using Nat.strongRecOn with
  | ind n ih =>
    by_cases h : n = 0
    · rw [h, dg_zero]; intro d hd; simp at hd
    · rw [dg_pos h]
      intro d hd
      rcases List.mem_cons.1 hd with rfl | hd
      · exact Nat.mod_lt _ (by omega)
      · exact ih _ (Nat.div_lt_self (by omega) (by omega)) d hd
theorem dg_nil {n : Nat} : dg n = [] ↔ n = 0 := by
  constructor
  · intro h
    have := dval_dg n
    rw [h] at this
    exact this.symm
  · rintro rfl; exact dg_zero
theorem dval_append (l m : List Nat) : dval (l ++ m) = dval l + 16777216 ^ l.length * dval m := by
  induction l with
  | nil => simp [dval]
  | cons d l ih => simp only [List.cons_append, dval, ih, List.length_cons, Nat.pow_succ]; rw [Nat.mul_add, Nat.mul_comm (16777216 ^ l.length) 16777216, Nat.mul_assoc]; omega
theorem dval_snoc (l : List Nat) (d : Nat) : dval (l ++ [d]) = dval l + 16777216 ^ l.length * d := by
  rw [dval_append]; simp [dval]
theorem dval_lt {l : List Nat} (h : Fit l) : dval l < 16777216 ^ l.length := by
  induction l with
  | nil => simp [dval]
  | cons d l ih =>
    have h1 := h d (by simp)
    have h2 := ih (fun x hx => h x (by simp [hx]))
    simp only [dval, List.length_cons, Nat.pow_succ]
    omega
theorem fit_append {l m : List Nat} : Fit (l ++ m) ↔ Fit l ∧ Fit m := by
  unfold Fit
  constructor
  · intro h; exact ⟨fun d hd => h d (by simp [hd]), fun d hd => h d (by simp [hd])⟩
  · rintro ⟨h1, h2⟩ d hd
    rcases List.mem_append.1 hd with hd | hd
    · exact h1 d hd
    · exact h2 d hd
theorem fit_take {l : List Nat} (h : Fit l) (k : Nat) : Fit (l.take k) := fun d hd => h d (List.mem_of_mem_take hd)
/-- without zeros at the end -/
def trimL : List Nat → List Nat
  | [] => []
  | d :: l => if trimL l = [] ∧ d = 0 then [] else d :: trimL l
theorem trim_eq {l : List Nat} (h : Fit l) : trimL l = dg (dval l) := by
  induction l with
  | nil => rw [dval, dg_zero]; rfl
  | cons d l ih =>
    have h1 := h d (by simp)
    have h2 := ih (fun x hx => h x (by simp [hx]))
    unfold trimL
    rw [h2, dval]
    by_cases hz : d + 16777216 * dval l = 0
    · have e1 : dval l = 0 := by omega
      have e2 : d = 0 := by omega
      rw [e1, e2, dg_zero, if_pos ⟨rfl, rfl⟩]
    · rw [dg_pos hz, show (d + 16777216 * dval l) % 16777216 = d by omega, show (d + 16777216 * dval l) / 16777216 = dval l by omega, if_neg]
      rintro ⟨e1, e2⟩
      rw [dg_nil] at e1
      omega
theorem trim_snoc_zero (l : List Nat) : trimL (l ++ [0]) = trimL l := by
  induction l with
  | nil => rfl
  | cons d l ih => simp only [List.cons_append, trimL, ih]
theorem trim_snoc (l : List Nat) (d : Nat) (h : d ≠ 0) : trimL (l ++ [d]) = l ++ [d] := by
  induction l with
  | nil => simp [trimL, h]
  | cons x l ih =>
    simp only [List.cons_append, trimL, ih]
    rw [if_neg (by simp)]
theorem dg_length_le (n k : Nat) : (dg n).length ≤ k ↔ n < 16777216 ^ k := by
  induction k generalizing n with
  | zero =>
    constructor
    · intro h
      have := dg_nil.1 (List.eq_nil_of_length_eq_zero (Nat.le_zero.1 h))
      rw [this]; exact Nat.one_pos
    · intro h
      have : n = 0 := by rw [Nat.pow_zero] at h; omega
      rw [this, dg_zero]; exact Nat.le_refl _
  | succ k ih =>
    by_cases h : n = 0
    · subst h
      rw [dg_zero]
      exact ⟨fun _ => Nat.pow_pos (by omega), fun _ => Nat.zero_le _⟩
    · rw [dg_pos h, List.length_cons, Nat.succ_le_succ_iff, ih, Nat.pow_succ]
      exact Nat.div_lt_iff_lt_mul (by omega)
theorem dg_get : ∀ (k n : Nat) (d : Nat), (dg n)[k]? = some d → d = n / 16777216 ^ k % 16777216
  | 0, n, d, h => by
    by_cases hn : n = 0
    · rw [hn, dg_zero] at h; simp at h
    · rw [dg_pos hn] at h
      simp only [List.getElem?_cons_zero, Option.some.injEq] at h
      rw [← h, Nat.pow_zero, Nat.div_one]
  | k + 1, n, d, h => by
    by_cases hn : n = 0
    · rw [hn, dg_zero] at h; simp at h
    · rw [dg_pos hn] at h
      have := dg_get k (n / 16777216) d (by simpa using h)
      rw [this, Nat.div_div_eq_div_mul, Nat.pow_succ, Nat.mul_comm]
theorem dval_take_dg (n k : Nat) : dval ((dg n).take k) = n % 16777216 ^ k := by
  induction k generalizing n with
  | zero => simp [dval, Nat.mod_one]
  | succ k ih =>
    by_cases h : n = 0
    · rw [h, dg_zero]; simp [dval]
    · rw [dg_pos h, List.take_succ_cons, dval, ih, Nat.pow_succ, Nat.mul_comm (16777216 ^ k) 16777216, Nat.mod_mul]
/-- the first i digits -/
def digs (n i : Nat) : List Nat := (List.range i).map fun j => n / 16777216 ^ j % 16777216
theorem digs_succ (n i : Nat) : digs n (i + 1) = digs n i ++ [n / 16777216 ^ i % 16777216] := by simp [digs, List.range_succ]
theorem digs_length (n i : Nat) : (digs n i).length = i := by simp [digs]
theorem digs_fit (n i : Nat) : Fit (digs n i) := by
  intro d hd
  obtain ⟨j, _, rfl⟩ := List.mem_map.1 hd
  exact Nat.mod_lt _ (by omega)
theorem digs_val (n i : Nat) : dval (digs n i) = n % 16777216 ^ i := by
  induction i with
  | zero => simp [digs, dval, Nat.mod_one]
  | succ i ih => rw [digs_succ, dval_snoc, ih, digs_length, Nat.pow_succ, Nat.mod_mul]
/-- all digits, and no zero at the end -/
theorem digs_eq {n i : Nat} (h1 : n < 16777216 ^ i) (h2 : i = 0 ∨ 16777216 ^ (i - 1) ≤ n) : digs n i = dg n := by
  have e : dval (digs n i) = n := by rw [digs_val, Nat.mod_eq_of_lt h1]
  have ht := trim_eq (digs_fit n i)
  rw [e] at ht
  rw [← ht]
  rcases h2 with rfl | h2
  · rfl
  · cases i with
    | zero => rfl
    | succ i =>
      rw [digs_succ]
      refine (trim_snoc _ _ ?_).symm
      have h3 : 1 ≤ n / 16777216 ^ i := (Nat.le_div_iff_mul_le (Nat.pow_pos (by omega))).2 (by simpa using h2)
      have h4 : n / 16777216 ^ i < 16777216 := (Nat.div_lt_iff_lt_mul (Nat.pow_pos (by omega))).2 (by rw [Nat.pow_succ, Nat.mul_comm] at h1; exact h1)
      rw [Nat.mod_eq_of_lt h4]
      omega
/-- comparing by the digit in which two numbers differ -/
theorem cmp_at {a b k : Nat} (h : a / 16777216 ^ (k + 1) = b / 16777216 ^ (k + 1)) : (a / 16777216 ^ k % 16777216 < b / 16777216 ^ k % 16777216 → a < b) := by
  intro hlt
  have e1 : a / 16777216 ^ (k + 1) = a / 16777216 ^ k / 16777216 := by rw [Nat.div_div_eq_div_mul, Nat.pow_succ]
  have e2 : b / 16777216 ^ (k + 1) = b / 16777216 ^ k / 16777216 := by rw [Nat.div_div_eq_div_mul, Nat.pow_succ]
  have h3 : a / 16777216 ^ k < b / 16777216 ^ k := by omega
  rcases Nat.lt_or_ge a b with h4 | h4
  · exact h4
  · have := Nat.div_le_div_right (c := 16777216 ^ k) h4
    omega
theorem cmp_same {a b k : Nat} (h : a / 16777216 ^ (k + 1) = b / 16777216 ^ (k + 1)) (e : a / 16777216 ^ k % 16777216 = b / 16777216 ^ k % 16777216) : a / 16777216 ^ k = b / 16777216 ^ k := by
  have e1 : a / 16777216 ^ (k + 1) = a / 16777216 ^ k / 16777216 := by rw [Nat.div_div_eq_div_mul, Nat.pow_succ]
  have e2 : b / 16777216 ^ (k + 1) = b / 16777216 ^ k / 16777216 := by rw [Nat.div_div_eq_div_mul, Nat.pow_succ]
  omega
end Go.Proofs.YtpblfpnldbdncaaGreatDoor.Dg
