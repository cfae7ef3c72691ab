/- Checking of paths and growths: plain definitions and laws. -/
import Derived.Test.YtjedhmoehepbnaaDoorTree
namespace Go.Proofs.YtjedhmoehepbnaaDoor
set_option linter.unusedVariables false
namespace Tree
def zero : H := List.replicate 32 0
/-! the reference -/
def depth : Nat → Nat → Nat → Nat
  | 0, _, _ => 0
  | f + 1, i, n => if n ≤ 1 then 0 else if i < half n then 1 + depth f i (half n) else 1 + depth f (i - half n) (n - half n)
def up : Nat → H → Nat → Nat → List H → H
  | 0, x, _, _, _ => x
  | f + 1, x, i, n, p => if n ≤ 1 then x else
    if i < half n then node (up f x i (half n) (p.take (p.length - 1))) (p.getD (p.length - 1) []) else node (p.getD (p.length - 1) []) (up f x (i - half n) (n - half n) (p.take (p.length - 1)))
/-! the program: what is left of the walk: the hash, how many are used, whether they were enough -/
structure St where
  h : H
  used : Nat
  enough : Bool
def takeH (p : List H) (s : Nat × Bool) : H × Nat × Bool := if s.1 = p.length then (zero, s.1, false) else (p.getD s.1 [], s.1 + 1, s.2)
def walk : Nat → H → List H → Nat → Nat → Nat × Bool → H × Nat × Bool
  | 0, x, _, _, _, s => (x, s.1, s.2)
  | f + 1, x, p, i, n, s => if n ≤ 1 then (x, s.1, s.2) else
    if i < half n then
      let a := walk f x p i (half n) s
      let b := takeH p a.2
      (node a.1 b.1, b.2)
    else
      let a := walk f x p (i - half n) (n - half n) s
      let b := takeH p a.2
      (node b.1 a.1, b.2)
theorem depth_le : ∀ (f i n : Nat), depth f i n ≤ f
  | 0, _, _ => by simp [depth]
  | f + 1, i, n => by
    rw [depth]
    have h1 := depth_le f i (half n)
    have h2 := depth_le f (i - half n) (n - half n)
    split
    · omega
    · split <;> omega
theorem part_take (p : List H) (u d : Nat) (h : u + (d + 1) ≤ p.length) : ((p.drop u).take (d + 1)).take (((p.drop u).take (d + 1)).length - 1) = (p.drop u).take d := by
  rw [List.length_take, List.length_drop, List.take_take]
  congr 1; omega
theorem part_last (p : List H) (u d : Nat) (h : u + (d + 1) ≤ p.length) : ((p.drop u).take (d + 1)).getD (((p.drop u).take (d + 1)).length - 1) [] = p.getD (u + d) [] := by
  rw [List.length_take, List.length_drop, show min (d + 1) (p.length - u) - 1 = d by omega]
  rw [List.getD_eq_getElem?_getD, List.getD_eq_getElem?_getD, List.getElem?_take, if_pos (by omega), List.getElem?_drop]
/-- the walk uses as many as the depth says, where there are so many; else they are not enough -/
theorem walk_yes : ∀ (f : Nat) (x : H) (p : List H) (i n u : Nat) (e : Bool), u + depth f i n ≤ p.length → walk f x p i n (u, e) = (up f x i n ((p.drop u).take (depth f i n)), u + depth f i n, e) := by
  intro f
  induction f with
  | zero => intro x p i n u e h; rfl
  | succ f ih =>
    intro x p i n u e h
    rw [depth] at h
    rw [walk, up, depth]
    by_cases hn : n ≤ 1
    · rw [if_pos hn, if_pos hn, if_pos hn]; rfl
    · rw [if_neg hn] at h ⊢
      rw [if_neg hn, if_neg hn]
      by_cases hi : i < half n
      · rw [if_pos hi] at h ⊢
        rw [if_pos hi, if_pos hi]
        rw [ih x p i (half n) u e (by omega)]
        rw [show 1 + depth f i (half n) = depth f i (half n) + 1 by omega] at h ⊢
        rw [part_take p u _ h, part_last p u _ h]
        simp only [takeH]
        rw [if_neg (by omega)]
        rfl
      · rw [if_neg hi] at h ⊢
        rw [if_neg hi, if_neg hi]
        rw [ih x p (i - half n) (n - half n) u e (by omega)]
        rw [show 1 + depth f (i - half n) (n - half n) = depth f (i - half n) (n - half n) + 1 by omega] at h ⊢
        rw [part_take p u _ h, part_last p u _ h]
        simp only [takeH]
        rw [if_neg (by omega)]
        rfl
theorem walk_no : ∀ (f : Nat) (x : H) (p : List H) (i n u : Nat) (e : Bool), u ≤ p.length → p.length < u + depth f i n → (walk f x p i n (u, e)).2 = (p.length, false) := by
  intro f
  induction f with
  | zero => intro x p i n u e h h2; simp [depth] at h2; omega
  | succ f ih =>
    intro x p i n u e h h2
    rw [depth] at h2
    rw [walk]
    by_cases hn : n ≤ 1
    · rw [if_pos hn] at h2; omega
    · rw [if_neg hn] at h2 ⊢
      by_cases hi : i < half n
      · rw [if_pos hi] at h2 ⊢
        by_cases hd : u + depth f i (half n) ≤ p.length
        · rw [walk_yes f x p i (half n) u e hd]
          simp only [takeH]
          rw [if_pos (by omega)]
          simp; omega
        · have := ih x p i (half n) u e h (by omega)
          simp only [takeH, this]
          simp
      · rw [if_neg hi] at h2 ⊢
        by_cases hd : u + depth f (i - half n) (n - half n) ≤ p.length
        · rw [walk_yes f x p (i - half n) (n - half n) u e hd]
          simp only [takeH]
          rw [if_pos (by omega)]
          simp; omega
        · have := ih x p (i - half n) (n - half n) u e h (by omega)
          simp only [takeH, this]
          simp
/-- what the reference says of a path -/
def fits (f : Nat) (size : Nat) (r : H) (n : Nat) (x : H) (p : List H) : Bool := decide (n < size) && (p.length == depth f n size) && (up f x n size p == r)
/-- .. is what the program says -/
theorem fits_walk (f size : Nat) (r : H) (n : Nat) (x : H) (p : List H) (hn : n < size) :
    ((walk f x p n size (0, true)).2.2 && ((walk f x p n size (0, true)).2.1 == p.length) && ((walk f x p n size (0, true)).1 == r)) = fits f size r n x p := by
  unfold fits
  by_cases h : depth f n size ≤ p.length
  · rw [walk_yes f x p n size 0 true (by omega)]
    by_cases e : p.length = depth f n size
    · rw [← e]; simp [hn]
    · have h1 : (0 + depth f n size == p.length) = false := by simp; omega
      have h2 : (p.length == depth f n size) = false := by simp; omega
      simp only [h1, h2]; simp
  · have := walk_no f x p n size 0 true (by omega) (by omega)
    have h2 : (p.length == depth f n size) = false := by simp; omega
    simp only [this, h2]; simp
/-! growths -/
def many : Nat → Nat → Nat → Bool → Nat
  | 0, _, _, w => if w then 0 else 1
  | f + 1, m, n, w => if m = n then (if w then 0 else 1) else if m ≤ half n then 1 + many f m (half n) w else 1 + many f (m - half n) (n - half n) false
def both : Nat → Nat → Nat → Bool → H → List H → H × H
  | 0, _, _, w, old, p => if w then (old, old) else (p.getD 0 [], p.getD 0 [])
  | f + 1, m, n, w, old, p => if m = n then (if w then (old, old) else (p.getD 0 [], p.getD 0 [])) else
    if m ≤ half n then
      let a := both f m (half n) w old (p.take (p.length - 1))
      (a.1, node a.2 (p.getD (p.length - 1) []))
    else
      let a := both f (m - half n) (n - half n) false old (p.take (p.length - 1))
      (node (p.getD (p.length - 1) []) a.1, node (p.getD (p.length - 1) []) a.2)
def gleaf (old : H) (p : List H) (w : Bool) (s : Nat × Bool) : (H × H) × Nat × Bool := if w then ((old, old), s) else (((takeH p s).1, (takeH p s).1), (takeH p s).2)
def gwalk : Nat → H → List H → Nat → Nat → Bool → Nat × Bool → (H × H) × Nat × Bool
  | 0, old, p, _, _, w, s => gleaf old p w s
  | f + 1, old, p, m, n, w, s => if m = n then gleaf old p w s else
    if m ≤ half n then
      let a := gwalk f old p m (half n) w s
      let b := takeH p a.2
      ((a.1.1, node a.1.2 b.1), b.2)
    else
      let a := gwalk f old p (m - half n) (n - half n) false s
      let b := takeH p a.2
      ((node b.1 a.1.1, node b.1 a.1.2), b.2)
theorem many_le : ∀ (f m n : Nat) (w : Bool), many f m n w ≤ f + 1
  | 0, _, _, w => by rw [many]; split <;> omega
  | f + 1, m, n, w => by
    rw [many]
    have h1 := many_le f m (half n) w
    have h2 := many_le f (m - half n) (n - half n) false
    split
    · split <;> omega
    · split <;> omega
theorem gleaf_yes (old : H) (p : List H) (w : Bool) (u : Nat) (e : Bool) (h : u + (if w then 0 else 1) ≤ p.length) :
    gleaf old p w (u, e) = (if w then (old, old) else (((p.drop u).take (if w then 0 else 1)).getD 0 [], ((p.drop u).take (if w then 0 else 1)).getD 0 []), u + (if w then 0 else 1), e) := by
  cases w with
  | true => rfl
  | false =>
    simp only [Bool.false_eq_true, if_false] at h ⊢
    have e1 : ((p.drop u).take 1).getD 0 [] = p.getD u [] := by
      rw [List.getD_eq_getElem?_getD, List.getD_eq_getElem?_getD, List.getElem?_take, if_pos (by omega), List.getElem?_drop]; rfl
    rw [e1]
    simp only [gleaf, takeH, Bool.false_eq_true, if_false]
    rw [if_neg (by omega)]
theorem gwalk_yes : ∀ (f : Nat) (old : H) (p : List H) (m n : Nat) (w : Bool) (u : Nat) (e : Bool), u + many f m n w ≤ p.length → gwalk f old p m n w (u, e) = (both f m n w old ((p.drop u).take (many f m n w)), u + many f m n w, e) := by
  intro f
  induction f with
  | zero => intro old p m n w u e h; rw [gwalk, both, many] at *; exact gleaf_yes old p w u e h
  | succ f ih =>
    intro old p m n w u e h
    rw [many] at h
    rw [gwalk, both, many]
    by_cases hn : m = n
    · rw [if_pos hn] at h ⊢
      rw [if_pos hn, if_pos hn]
      exact gleaf_yes old p w u e h
    · rw [if_neg hn] at h ⊢
      rw [if_neg hn, if_neg hn]
      by_cases hi : m ≤ half n
      · rw [if_pos hi] at h ⊢
        rw [if_pos hi, if_pos hi]
        rw [ih old p m (half n) w u e (by omega)]
        rw [show 1 + many f m (half n) w = many f m (half n) w + 1 by omega] at h ⊢
        rw [part_take p u _ h, part_last p u _ h]
        simp only [takeH]
        rw [if_neg (by omega)]
        rfl
      · rw [if_neg hi] at h ⊢
        rw [if_neg hi, if_neg hi]
        rw [ih old p (m - half n) (n - half n) false u e (by omega)]
        rw [show 1 + many f (m - half n) (n - half n) false = many f (m - half n) (n - half n) false + 1 by omega] at h ⊢
        rw [part_take p u _ h, part_last p u _ h]
        simp only [takeH]
        rw [if_neg (by omega)]
        rfl
theorem gwalk_no : ∀ (f : Nat) (old : H) (p : List H) (m n : Nat) (w : Bool) (u : Nat) (e : Bool), u ≤ p.length → p.length < u + many f m n w → (gwalk f old p m n w (u, e)).2 = (p.length, false) := by
  have leafno : ∀ (old : H) (p : List H) (w : Bool) (u : Nat) (e : Bool), u ≤ p.length → p.length < u + (if w then 0 else 1) → (gleaf old p w (u, e)).2 = (p.length, false) := by
    intro old p w u e h h2
    cases w with
    | true => simp at h2; omega
    | false =>
      simp only [Bool.false_eq_true, if_false] at h2
      simp only [gleaf, takeH, Bool.false_eq_true, if_false]
      rw [if_pos (by omega)]
      simp; omega
  intro f
  induction f with
  | zero => intro old p m n w u e h h2; rw [gwalk, many] at *; exact leafno old p w u e h h2
  | succ f ih =>
    intro old p m n w u e h h2
    rw [many] at h2
    rw [gwalk]
    by_cases hn : m = n
    · rw [if_pos hn] at h2 ⊢; exact leafno old p w u e h h2
    · rw [if_neg hn] at h2 ⊢
      by_cases hi : m ≤ half n
      · rw [if_pos hi] at h2 ⊢
        by_cases hd : u + many f m (half n) w ≤ p.length
        · rw [gwalk_yes f old p m (half n) w u e hd]
          simp only [takeH]
          rw [if_pos (by omega)]
          simp; omega
        · have := ih old p m (half n) w u e h (by omega)
          simp only [takeH, this]
          simp
      · rw [if_neg hi] at h2 ⊢
        by_cases hd : u + many f (m - half n) (n - half n) false ≤ p.length
        · rw [gwalk_yes f old p (m - half n) (n - half n) false u e hd]
          simp only [takeH]
          rw [if_pos (by omega)]
          simp; omega
        · have := ih old p (m - half n) (n - half n) false u e h (by omega)
          simp only [takeH, this]
          simp
/-- what the reference says of a proof of the right length between sizes that differ -/
def grown (f m n : Nat) (old next : H) (p : List H) : Bool := (p.length == many f m n true) && ((both f m n true old p).1 == old) && ((both f m n true old p).2 == next)
theorem grown_walk (f m n : Nat) (old next : H) (p : List H) :
    ((gwalk f old p m n true (0, true)).2.2 && ((gwalk f old p m n true (0, true)).2.1 == p.length) && ((gwalk f old p m n true (0, true)).1.1 == old) && ((gwalk f old p m n true (0, true)).1.2 == next)) = grown f m n old next p := by
  unfold grown
  by_cases h : many f m n true ≤ p.length
  · rw [gwalk_yes f old p m n true 0 true (by omega)]
    by_cases e : p.length = many f m n true
    · rw [← e]; simp
    · have h1 : (0 + many f m n true == p.length) = false := by simp; omega
      have h2 : (p.length == many f m n true) = false := by simp; omega
      simp only [h1, h2]; simp
  · have := gwalk_no f old p m n true 0 true (by omega) (by omega)
    have h2 : (p.length == many f m n true) = false := by simp; omega
    simp only [this, h2]; simp
end Tree
end Go.Proofs.YtjedhmoehepbnaaDoor
