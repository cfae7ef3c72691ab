/- Numbers as strings of bytes, the greatest first (plain). -/
import Derived.Lib.ItoaNum
namespace Go.Proofs.Ytfligfompdcddaa
set_option linter.unusedVariables false
namespace Nb
theorem snoc_rec {α : Type} {P : List α → Prop} (nil : P []) (append_singleton : ∀ l a, P l → P (l ++ [a])) (l : List α) : P l := by
  have h : ∀ m : List α, P m.reverse := by
    intro m
    induction m with
    | nil => exact nil
    | cons a m ih => rw [List.reverse_cons]; exact append_singleton _ _ ih
  have := h l.reverse
  rwa [List.reverse_reverse] at this
/-- the number of a list of bytes -/
def val (l : List UInt8) : Nat := l.foldl (fun r b => r * 256 + b.toNat) 0
/-- .. without zeros in front -/
def canon (l : List UInt8) : List UInt8 := l.dropWhile (· == 0)
/-- the bytes of a number -/
def enc (n : Nat) : List UInt8 := if h : n = 0 then [] else enc (n / 256) ++ [UInt8.ofNat (n % 256)]
termination_by n
decreasing_by omega
def str (n : Nat) : ByteArray := ⟨(enc n).toArray⟩
theorem val_snoc (l : List UInt8) (b : UInt8) : val (l ++ [b]) = val l * 256 + b.toNat := by simp [val]
theorem val_append (l m : List UInt8) : val (l ++ m) = val l * 256 ^ m.length + val m := by
  induction m using snoc_rec with
  | nil => simp [val]
  | append_singleton m b ih =>
    rw [← List.append_assoc, val_snoc, ih, val_snoc, List.length_append, List.length_singleton, Nat.pow_succ, Nat.add_mul, Nat.mul_assoc, Nat.add_assoc]
theorem enc_zero : enc 0 = [] := by rw [enc]; rfl
theorem enc_pos {n : Nat} (h : n ≠ 0) : enc n = enc (n / 256) ++ [UInt8.ofNat (n % 256)] := by
  conv => lhs; rw [enc]
  rw [dif_neg h]
theorem val_enc (n : Nat) : val (enc n) = n := by
  induction n using Nat.strongRecOn with
  | _ n ih =>
    by_cases h : n = 0
    · subst h; rw [enc_zero]; rfl
    · rw [enc_pos h, val_snoc, ih (n / 256) (by omega)]
      simp only [UInt8.toNat_ofNat']
      omega
theorem val_lt (l : List UInt8) : val l < 256 ^ l.length := by
  induction l using snoc_rec with
  | nil => simp [val]
  | append_singleton l b ih =>
    rw [val_snoc, List.length_append, List.length_singleton, Nat.pow_succ]
    have := UInt8.toNat_lt b
    omega
theorem enc_val_snoc (l : List UInt8) (b : UInt8) (h : l ≠ [] → enc (val l) = l) (hl : l = [] → b ≠ 0) (hv : l ≠ [] → val l ≠ 0) : enc (val (l ++ [b])) = l ++ [b] := by
  have hb := UInt8.toNat_lt b
  have e1 : (val l * 256 + b.toNat) / 256 = val l := by omega
  have e2 : (val l * 256 + b.toNat) % 256 = b.toNat := by omega
  have e3 : UInt8.ofNat b.toNat = b := by simp
  rw [val_snoc]
  by_cases hn : l = []
  · subst hn
    have hb0 : b.toNat ≠ 0 := fun e => hl rfl (by rw [← e3, e]; rfl)
    rw [enc_pos (by simp [val]; exact hb0), e1, e2, e3]
    rw [show val [] = 0 from rfl, enc_zero]
  · have := hv hn
    rw [enc_pos (by omega), e1, e2, e3, h hn]
/-- a list that does not begin with a zero is the bytes of its number -/
theorem enc_val_of {l : List UInt8} (h : l.head? ≠ some 0) : enc (val l) = l ∧ (l ≠ [] → val l ≠ 0) := by
  induction l using snoc_rec with
  | nil => exact ⟨by rw [show val [] = 0 from rfl, enc_zero], fun h => absurd rfl h⟩
  | append_singleton l b ih =>
    by_cases hn : l = []
    · subst hn
      have hb : b ≠ 0 := fun e => h (by rw [e]; rfl)
      refine ⟨enc_val_snoc [] b (fun h => absurd rfl h) (fun _ => hb) (fun h => absurd rfl h), fun _ e => hb ?_⟩
      have : b.toNat = 0 := by simpa [val] using e
      have e3 : UInt8.ofNat b.toNat = b := by simp
      rw [← e3, this]; rfl
    · have hh : l.head? ≠ some 0 := by
        intro e
        apply h
        cases l with
        | nil => exact absurd rfl hn
        | cons a l => simpa using e
      obtain ⟨i1, i2⟩ := ih hh
      refine ⟨enc_val_snoc l b (fun _ => i1) (fun e => absurd e hn) i2, fun _ => ?_⟩
      rw [val_snoc]
      have := i2 hn
      omega
theorem canon_head (l : List UInt8) : (canon l).head? ≠ some 0 := by
  unfold canon
  induction l with
  | nil => simp
  | cons a l ih =>
    by_cases h : a = 0
    · subst h; simpa using ih
    · have : (a == 0) = false := by simpa using h
      rw [List.dropWhile_cons, this]
      simpa using h
theorem val_canon (l : List UInt8) : val (canon l) = val l := by
  unfold canon
  induction l with
  | nil => rfl
  | cons a l ih =>
    by_cases h : a = 0
    · subst h
      rw [List.dropWhile_cons, if_pos (by simp), ih]
      simp [val]
    · have : (a == 0) = false := by simpa using h
      rw [List.dropWhile_cons, this]; rfl
theorem enc_val (l : List UInt8) : enc (val l) = canon l := by
  rw [← val_canon]
  exact (enc_val_of (canon_head l)).1
theorem enc_head (n : Nat) : (enc n).head? ≠ some 0 := by
  have := enc_val (enc n)
  rw [val_enc] at this
  rw [this]
  exact canon_head _
theorem canon_enc (n : Nat) : canon (enc n) = enc n := by rw [← enc_val, val_enc]
theorem enc_length_le (n k : Nat) : (enc n).length ≤ k ↔ n < 256 ^ k := by
  constructor
  · intro h
    have := val_lt (enc n)
    rw [val_enc] at this
    exact Nat.lt_of_lt_of_le this (Nat.pow_le_pow_right (by omega) h)
  · intro h
    induction k generalizing n with
    | zero =>
      have : n = 0 := by simpa using h
      subst this
      rw [enc_zero]; exact Nat.le_refl _
    | succ k ih =>
      by_cases h0 : n = 0
      · subst h0; rw [enc_zero]; simp
      · rw [enc_pos h0, List.length_append, List.length_singleton]
        have := ih (n / 256) (by rw [Nat.pow_succ] at h; omega)
        omega
theorem canon_drop {l : List UInt8} {k : Nat} (h0 : ∀ j, j < k → l[j]? = some 0) (hk : l[k]? ≠ some 0) : canon l = l.drop k := by
  unfold canon
  induction l generalizing k with
  | nil => simp
  | cons a l ih =>
    cases k with
    | zero =>
      have h : a ≠ 0 := fun e => hk (by rw [e]; rfl)
      have : (a == 0) = false := by simpa using h
      rw [List.dropWhile_cons, this]; rfl
    | succ k =>
      have h : a = 0 := by have := h0 0 (by omega); simpa using this
      subst h
      rw [List.dropWhile_cons, if_pos (by simp), ih (k := k) (fun j hj => by have := h0 (j + 1) (by omega); simpa using this) (by simpa using hk)]
      rfl
/-- eight bytes of a number -/
def eight (n : Nat) (j : Nat) : List UInt8 := (List.range j).map fun i => UInt8.ofNat (n / 256 ^ (7 - i) % 256)
theorem eight_succ (n j : Nat) : eight n (j + 1) = eight n j ++ [UInt8.ofNat (n / 256 ^ (7 - j) % 256)] := by
  unfold eight
  rw [List.range_succ, List.map_append]; rfl
theorem val_eight (n j : Nat) (hj : j ≤ 8) (hn : n < 256 ^ 8) : val (eight n j) = n / 256 ^ (8 - j) := by
  induction j with
  | zero =>
    rw [show eight n 0 = [] from rfl, show val [] = 0 from rfl]
    exact (Nat.div_eq_of_lt hn).symm
  | succ j ih =>
    rw [eight_succ, val_snoc, ih (by omega)]
    simp only [UInt8.toNat_ofNat']
    have e : 8 - j = (7 - j) + 1 := by omega
    have e2 : 8 - (j + 1) = 7 - j := by omega
    rw [e, e2, Nat.pow_succ, ← Nat.div_div_eq_div_mul]
    omega
theorem canon_eight (n : Nat) (hn : n < 256 ^ 8) : canon (eight n 8) = enc n := by
  rw [← enc_val, val_eight n 8 (Nat.le_refl _) hn]
  simp
theorem val_take_le (l : List UInt8) (k : Nat) : val (l.take k) ≤ val l := by
  have h := val_append (l.take k) (l.drop k)
  rw [List.take_append_drop] at h
  rw [h]
  have h1 : 1 ≤ 256 ^ (l.drop k).length := Nat.one_le_pow _ _ (by omega)
  have h2 := Nat.le_mul_of_pos_right (val (l.take k)) h1
  omega
theorem val_take_succ (l : List UInt8) (k : Nat) (hk : k < l.length) : val (l.take (k + 1)) = val (l.take k) * 256 + (l[k]).toNat := by
  rw [List.take_succ_eq_append_getElem hk, val_snoc]
theorem val_head (l : List UInt8) (h : 0 < l.length) : (l[0]).toNat * 256 ^ (l.length - 1) ≤ val l ∧ val l < ((l[0]).toNat + 1) * 256 ^ (l.length - 1) := by
  have e : l = [l[0]] ++ l.drop 1 := by
    cases l with
    | nil => simp at h
    | cons a l => simp
  have hv : val l = (l[0]).toNat * 256 ^ (l.length - 1) + val (l.drop 1) := by
    conv => lhs; rw [e]
    rw [val_append, List.length_drop]
    congr 1
    simp [val]
  have hl := val_lt (l.drop 1)
  rw [List.length_drop] at hl
  rw [hv, Nat.add_mul]
  omega
/-- when a number fits an int: by its bytes -/
theorem fits_int (n : Nat) : n < 9223372036854775808 ↔ ((enc n).length ≤ 8 ∧ ((enc n).length = 8 → ∀ b, (enc n)[0]? = some b → b.toNat ≤ 127)) := by
  constructor
  · intro h
    have h8 : (enc n).length ≤ 8 := (enc_length_le n 8).2 (by omega)
    refine ⟨h8, fun e b hb => ?_⟩
    have h0 : 0 < (enc n).length := by omega
    have hh := (val_head (enc n) h0).1
    rw [val_enc, e] at hh
    rw [List.getElem?_eq_getElem h0] at hb
    injection hb with hb
    rw [hb] at hh
    omega
  · rintro ⟨h1, h2⟩
    by_cases e : (enc n).length = 8
    · have h0 : 0 < (enc n).length := by omega
      have hh := (val_head (enc n) h0).2
      rw [val_enc, e] at hh
      have := h2 e _ (List.getElem?_eq_getElem h0)
      have h3 : ((enc n)[0].toNat + 1) * 256 ^ (8 - 1) ≤ 128 * 256 ^ 7 := Nat.mul_le_mul_right _ (by omega)
      omega
    · have := (enc_length_le n 7).1 (by omega)
      omega
end Nb
end Go.Proofs.Ytfligfompdcddaa
