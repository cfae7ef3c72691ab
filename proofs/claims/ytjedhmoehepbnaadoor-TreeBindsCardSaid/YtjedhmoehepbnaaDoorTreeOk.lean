/- Plain laws of trees: roots, paths, growths, what checks say, examples, collisions. -/
import Derived.Test.YtjedhmoehepbnaaDoorShaC
namespace Go.Proofs.YtjedhmoehepbnaaDoor

set_option linter.unusedVariables false
section
namespace Tree
abbrev H := List UInt8
/-- the greatest power of 2 below n -/
def half (n : Nat) : Nat := 2 ^ Nat.log2 (n - 1)
theorem half_pos (n : Nat) : 1 ≤ half n := Nat.pow_pos (by omega)
theorem half_lt (n : Nat) (h : 2 ≤ n) : half n < n := by
  have := Nat.log2_self_le (n := n - 1) (by omega)
  unfold half; omega
theorem half_le (n : Nat) (h : 2 ≤ n) : n ≤ 2 * half n := by
  have := Nat.lt_log2_self (n := n - 1)
  unfold half
  rw [Nat.pow_succ] at this
  omega
theorem half_unique (n e : Nat) (h1 : 2 ^ e < n) (h2 : n ≤ 2 * 2 ^ e) : 2 ^ e = half n := by
  have a := half_lt n (by have := Nat.pow_pos (n := e) (show 0 < 2 by omega); omega)
  have b := half_le n (by have := Nat.pow_pos (n := e) (show 0 < 2 by omega); omega)
  unfold half at *
  generalize Nat.log2 (n - 1) = g at *
  have : e = g := by
    rcases Nat.lt_trichotomy e g with h | h | h
    · have := Nat.pow_le_pow_right (show 0 < 2 by omega) (show e + 1 ≤ g from h)
      rw [Nat.pow_succ] at this; omega
    · exact h
    · have := Nat.pow_le_pow_right (show 0 < 2 by omega) (show g + 1 ≤ e from h)
      rw [Nat.pow_succ] at this; omega
  rw [this]
theorem half_pow (n f : Nat) (h : 2 ≤ n) (hf : n ≤ 2 ^ (f + 1)) : half n ≤ 2 ^ f := by
  have a := half_lt n h
  unfold half at *
  generalize Nat.log2 (n - 1) = g at *
  have : g ≤ f := by
    rcases Nat.lt_or_ge f g with h' | h'
    · have := Nat.pow_le_pow_right (show 0 < 2 by omega) (show f + 1 ≤ g from h')
      omega
    · exact h'
  exact Nat.pow_le_pow_right (by omega) this
theorem rest_pow (n f : Nat) (h : 2 ≤ n) (hf : n ≤ 2 ^ (f + 1)) : n - half n ≤ 2 ^ f := by
  have := half_pow n f h hf
  have := half_le n h
  omega
def leaf (s : ByteArray) : H := Sha.sum (0 :: s.data.toList)
def node (a b : H) : H := Sha.sum (1 :: (a ++ b))
theorem leaf_length (s : ByteArray) : (leaf s).length = 32 := Sha.sum_length _
theorem node_length (a b : H) : (node a b).length = 32 := Sha.sum_length _
/-- the root of a list of at most 2^f strings -/
def small (l : List ByteArray) : H := match l with
  | [] => Sha.sum []
  | s :: _ => leaf s
theorem small_length (l : List ByteArray) : (small l).length = 32 := by
  unfold small; split
  · exact Sha.sum_length _
  · exact leaf_length _
def root : Nat → List ByteArray → H
  | 0, l => small l
  | f + 1, l => if l.length ≤ 1 then small l else node (root f (l.take (half l.length))) (root f (l.drop (half l.length)))
theorem root_succ (f : Nat) (l : List ByteArray) : root (f + 1) l = if l.length ≤ 1 then small l else node (root f (l.take (half l.length))) (root f (l.drop (half l.length))) := rfl
theorem root_length : ∀ (f : Nat) (l : List ByteArray), (root f l).length = 32
  | 0, l => small_length l
  | f + 1, l => by
    rw [root]
    split
    · exact small_length l
    · exact node_length _ _
theorem root_more : ∀ (f : Nat) (l : List ByteArray), l.length ≤ 2 ^ f → root (f + 1) l = root f l := by
  intro f
  induction f with
  | zero => intro l h; rw [root, root, if_pos (by simpa using h)]
  | succ f ih =>
    intro l h
    rw [root_succ (f + 1) l, root_succ f l]
    by_cases h1 : l.length ≤ 1
    · rw [if_pos h1, if_pos h1]
    · have a := half_pow l.length f (by omega) h
      have b := rest_pow l.length f (by omega) h
      rw [if_neg h1, if_neg h1, ih _ (by rw [List.length_take]; omega), ih _ (by rw [List.length_drop]; omega)]
theorem root_fuel (f g : Nat) (l : List ByteArray) (h : l.length ≤ 2 ^ f) (hg : f ≤ g) : root g l = root f l := by
  induction g with
  | zero => obtain rfl : f = 0 := by omega
            rfl
  | succ g ih =>
    by_cases e : f = g + 1
    · rw [e]
    · rw [root_more g l (Nat.le_trans h (Nat.pow_le_pow_right (by omega) (by omega))), ih (by omega)]
/-- the path of string i -/
def path : Nat → List ByteArray → Nat → List H
  | 0, _, _ => []
  | f + 1, l, i => if l.length ≤ 1 then [] else
    if i < half l.length then path f (l.take (half l.length)) i ++ [root f (l.drop (half l.length))]
    else path f (l.drop (half l.length)) (i - half l.length) ++ [root f (l.take (half l.length))]
/-- the growth with a mark -/
def growth : Nat → List ByteArray → Nat → Bool → List H
  | 0, l, _, whole => if whole then [] else [root 0 l]
  | f + 1, l, m, whole => if m = l.length then (if whole then [] else [root (f + 1) l]) else
    if m ≤ half l.length then growth f (l.take (half l.length)) m whole ++ [root f (l.drop (half l.length))]
    else growth f (l.drop (half l.length)) (m - half l.length) false ++ [root f (l.take (half l.length))]
theorem path_length : ∀ (f : Nat) (l : List ByteArray) (i : Nat), (path f l i).length ≤ f
  | 0, _, _ => by simp [path]
  | f + 1, l, i => by
    rw [path]
    split
    · simp
    · split
      · have := path_length f (l.take (half l.length)) i; simp; omega
      · have := path_length f (l.drop (half l.length)) (i - half l.length); simp; omega
theorem path_each : ∀ (f : Nat) (l : List ByteArray) (i : Nat), ∀ h ∈ path f l i, h.length = 32
  | 0, _, _ => by simp [path]
  | f + 1, l, i => by
    rw [path]
    split
    · simp
    · split
      · intro h hh
        rcases List.mem_append.1 hh with hh | hh
        · exact path_each f _ _ h hh
        · rw [List.mem_singleton.1 hh]; exact root_length _ _
      · intro h hh
        rcases List.mem_append.1 hh with hh | hh
        · exact path_each f _ _ h hh
        · rw [List.mem_singleton.1 hh]; exact root_length _ _
theorem growth_length : ∀ (f : Nat) (l : List ByteArray) (m : Nat) (b : Bool), (growth f l m b).length ≤ f + 1
  | 0, _, _, b => by rw [growth]; split <;> simp
  | f + 1, l, m, b => by
    rw [growth]
    split
    · split <;> simp
    · split
      · have := growth_length f (l.take (half l.length)) m b; simp; omega
      · have := growth_length f (l.drop (half l.length)) (m - half l.length) false; simp; omega
theorem growth_each : ∀ (f : Nat) (l : List ByteArray) (m : Nat) (b : Bool), ∀ h ∈ growth f l m b, h.length = 32
  | 0, _, _, b => by
    rw [growth]; split
    · simp
    · intro h hh; rw [List.mem_singleton.1 hh]; exact root_length _ _
  | f + 1, l, m, b => by
    rw [growth]
    split
    · split
      · simp
      · intro h hh; rw [List.mem_singleton.1 hh]; exact root_length _ _
    · split
      · intro h hh
        rcases List.mem_append.1 hh with hh | hh
        · exact growth_each f _ _ _ h hh
        · rw [List.mem_singleton.1 hh]; exact root_length _ _
      · intro h hh
        rcases List.mem_append.1 hh with hh | hh
        · exact growth_each f _ _ _ h hh
        · rw [List.mem_singleton.1 hh]; exact root_length _ _
end Tree
end
section
namespace Tree
def zero : H := List.replicate 32 0
/-! the reference -/
def depth : Nat → Nat → Nat → Nat
  | 0, _, _ => 0
  | f + 1, i, n => if n ≤ 1 then 0 else if i < half n then 1 + depth f i (half n) else 1 + depth f (i - half n) (n - half n)
def up : Nat → H → Nat → Nat → List H → H
  | 0, x, _, _, _ => x
  | f + 1, x, i, n, p => if n ≤ 1 then x else
    if i < half n then node (up f x i (half n) (p.take (p.length - 1))) (p.getD (p.length - 1) []) else node (p.getD (p.length - 1) []) (up f x (i - half n) (n - half n) (p.take (p.length - 1)))
/-! the program: what is left of the walk: the hash, how many are used, whether they were enough -/
structure St where
  h : H
  used : Nat
  enough : Bool
def takeH (p : List H) (s : Nat × Bool) : H × Nat × Bool := if s.1 = p.length then (zero, s.1, false) else (p.getD s.1 [], s.1 + 1, s.2)
def walk : Nat → H → List H → Nat → Nat → Nat × Bool → H × Nat × Bool
  | 0, x, _, _, _, s => (x, s.1, s.2)
  | f + 1, x, p, i, n, s => if n ≤ 1 then (x, s.1, s.2) else
    if i < half n then
      let a := walk f x p i (half n) s
      let b := takeH p a.2
      (node a.1 b.1, b.2)
    else
      let a := walk f x p (i - half n) (n - half n) s
      let b := takeH p a.2
      (node b.1 a.1, b.2)
theorem depth_le : ∀ (f i n : Nat), depth f i n ≤ f
  | 0, _, _ => by simp [depth]
  | f + 1, i, n => by
    rw [depth]
    have h1 := depth_le f i (half n)
    have h2 := depth_le f (i - half n) (n - half n)
    split
    · omega
    · split <;> omega
theorem part_take (p : List H) (u d : Nat) (h : u + (d + 1) ≤ p.length) : ((p.drop u).take (d + 1)).take (((p.drop u).take (d + 1)).length - 1) = (p.drop u).take d := by
  rw [List.length_take, List.length_drop, List.take_take]
  congr 1; omega
theorem part_last (p : List H) (u d : Nat) (h : u + (d + 1) ≤ p.length) : ((p.drop u).take (d + 1)).getD (((p.drop u).take (d + 1)).length - 1) [] = p.getD (u + d) [] := by
  rw [List.length_take, List.length_drop, show min (d + 1) (p.length - u) - 1 = d by omega]
  rw [List.getD_eq_getElem?_getD, List.getD_eq_getElem?_getD, List.getElem?_take, if_pos (by omega), List.getElem?_drop]
/-- the walk uses as many as the depth says, where there are so many; else they are not enough -/
theorem walk_yes : ∀ (f : Nat) (x : H) (p : List H) (i n u : Nat) (e : Bool), u + depth f i n ≤ p.length → walk f x p i n (u, e) = (up f x i n ((p.drop u).take (depth f i n)), u + depth f i n, e) := by
  intro f
  induction f with
  | zero => intro x p i n u e h; rfl
  | succ f ih =>
    intro x p i n u e h
    rw [depth] at h
    rw [walk, up, depth]
    by_cases hn : n ≤ 1
    · rw [if_pos hn, if_pos hn, if_pos hn]; rfl
    · rw [if_neg hn] at h ⊢
      rw [if_neg hn, if_neg hn]
      by_cases hi : i < half n
      · rw [if_pos hi] at h ⊢
        rw [if_pos hi, if_pos hi]
        rw [ih x p i (half n) u e (by omega)]
        rw [show 1 + depth f i (half n) = depth f i (half n) + 1 by omega] at h ⊢
        rw [part_take p u _ h, part_last p u _ h]
        simp only [takeH]
        rw [if_neg (by omega)]
        rfl
      · rw [if_neg hi] at h ⊢
        rw [if_neg hi, if_neg hi]
        rw [ih x p (i - half n) (n - half n) u e (by omega)]
        rw [show 1 + depth f (i - half n) (n - half n) = depth f (i - half n) (n - half n) + 1 by omega] at h ⊢
        rw [part_take p u _ h, part_last p u _ h]
        simp only [takeH]
        rw [if_neg (by omega)]
        rfl
theorem walk_no : ∀ (f : Nat) (x : H) (p : List H) (i n u : Nat) (e : Bool), u ≤ p.length → p.length < u + depth f i n → (walk f x p i n (u, e)).2 = (p.length, false) := by
  intro f
  induction f with
  | zero => intro x p i n u e h h2; simp [depth] at h2; omega
  | succ f ih =>
    intro x p i n u e h h2
    rw [depth] at h2
    rw [walk]
    by_cases hn : n ≤ 1
    · rw [if_pos hn] at h2; omega
    · rw [if_neg hn] at h2 ⊢
      by_cases hi : i < half n
      · rw [if_pos hi] at h2 ⊢
        by_cases hd : u + depth f i (half n) ≤ p.length
        · rw [walk_yes f x p i (half n) u e hd]
          simp only [takeH]
          rw [if_pos (by omega)]
          simp; omega
        · have := ih x p i (half n) u e h (by omega)
          simp only [takeH, this]
          simp
      · rw [if_neg hi] at h2 ⊢
        by_cases hd : u + depth f (i - half n) (n - half n) ≤ p.length
        · rw [walk_yes f x p (i - half n) (n - half n) u e hd]
          simp only [takeH]
          rw [if_pos (by omega)]
          simp; omega
        · have := ih x p (i - half n) (n - half n) u e h (by omega)
          simp only [takeH, this]
          simp
/-- what the reference says of a path -/
def fits (f : Nat) (size : Nat) (r : H) (n : Nat) (x : H) (p : List H) : Bool := decide (n < size) && (p.length == depth f n size) && (up f x n size p == r)
/-- .. is what the program says -/
theorem fits_walk (f size : Nat) (r : H) (n : Nat) (x : H) (p : List H) (hn : n < size) :
    ((walk f x p n size (0, true)).2.2 && ((walk f x p n size (0, true)).2.1 == p.length) && ((walk f x p n size (0, true)).1 == r)) = fits f size r n x p := by
  unfold fits
  by_cases h : depth f n size ≤ p.length
  · rw [walk_yes f x p n size 0 true (by omega)]
    by_cases e : p.length = depth f n size
    · rw [← e]; simp [hn]
    · have h1 : (0 + depth f n size == p.length) = false := by simp; omega
      have h2 : (p.length == depth f n size) = false := by simp; omega
      simp only [h1, h2]; simp
  · have := walk_no f x p n size 0 true (by omega) (by omega)
    have h2 : (p.length == depth f n size) = false := by simp; omega
    simp only [this, h2]; simp
/-! growths -/
def many : Nat → Nat → Nat → Bool → Nat
  | 0, _, _, w => if w then 0 else 1
  | f + 1, m, n, w => if m = n then (if w then 0 else 1) else if m ≤ half n then 1 + many f m (half n) w else 1 + many f (m - half n) (n - half n) false
def both : Nat → Nat → Nat → Bool → H → List H → H × H
  | 0, _, _, w, old, p => if w then (old, old) else (p.getD 0 [], p.getD 0 [])
  | f + 1, m, n, w, old, p => if m = n then (if w then (old, old) else (p.getD 0 [], p.getD 0 [])) else
    if m ≤ half n then
      let a := both f m (half n) w old (p.take (p.length - 1))
      (a.1, node a.2 (p.getD (p.length - 1) []))
    else
      let a := both f (m - half n) (n - half n) false old (p.take (p.length - 1))
      (node (p.getD (p.length - 1) []) a.1, node (p.getD (p.length - 1) []) a.2)
def gleaf (old : H) (p : List H) (w : Bool) (s : Nat × Bool) : (H × H) × Nat × Bool := if w then ((old, old), s) else (((takeH p s).1, (takeH p s).1), (takeH p s).2)
def gwalk : Nat → H → List H → Nat → Nat → Bool → Nat × Bool → (H × H) × Nat × Bool
  | 0, old, p, _, _, w, s => gleaf old p w s
  | f + 1, old, p, m, n, w, s => if m = n then gleaf old p w s else
    if m ≤ half n then
      let a := gwalk f old p m (half n) w s
      let b := takeH p a.2
      ((a.1.1, node a.1.2 b.1), b.2)
    else
      let a := gwalk f old p (m - half n) (n - half n) false s
      let b := takeH p a.2
      ((node b.1 a.1.1, node b.1 a.1.2), b.2)
theorem many_le : ∀ (f m n : Nat) (w : Bool), many f m n w ≤ f + 1
  | 0, _, _, w => by rw [many]; split <;> omega
  | f + 1, m, n, w => by
    rw [many]
    have h1 := many_le f m (half n) w
    have h2 := many_le f (m - half n) (n - half n) false
    split
    · split <;> omega
    · split <;> omega
theorem gleaf_yes (old : H) (p : List H) (w : Bool) (u : Nat) (e : Bool) (h : u + (if w then 0 else 1) ≤ p.length) :
    gleaf old p w (u, e) = (if w then (old, old) else (((p.drop u).take (if w then 0 else 1)).getD 0 [], ((p.drop u).take (if w then 0 else 1)).getD 0 []), u + (if w then 0 else 1), e) := by
  cases w with
  | true => rfl
  | false =>
    simp only [Bool.false_eq_true, if_false] at h ⊢
    have e1 : ((p.drop u).take 1).getD 0 [] = p.getD u [] := by
      rw [List.getD_eq_getElem?_getD, List.getD_eq_getElem?_getD, List.getElem?_take, if_pos (by omega), List.getElem?_drop]; rfl
    rw [e1]
    simp only [gleaf, takeH, Bool.false_eq_true, if_false]
    rw [if_neg (by omega)]
theorem gwalk_yes : ∀ (f : Nat) (old : H) (p : List H) (m n : Nat) (w : Bool) (u : Nat) (e : Bool), u + many f m n w ≤ p.length → gwalk f old p m n w (u, e) = (both f m n w old ((p.drop u).take (many f m n w)), u + many f m n w, e) := by
  intro f
  induction f with
  | zero => intro old p m n w u e h; rw [gwalk, both, many] at *; exact gleaf_yes old p w u e h
  | succ f ih =>
    intro old p m n w u e h
    rw [many] at h
    rw [gwalk, both, many]
    by_cases hn : m = n
    · rw [if_pos hn] at h ⊢
      rw [if_pos hn, if_pos hn]
      exact gleaf_yes old p w u e h
    · rw [if_neg hn] at h ⊢
      rw [if_neg hn, if_neg hn]
      by_cases hi : m ≤ half n
      · rw [if_pos hi] at h ⊢
        rw [if_pos hi, if_pos hi]
        rw [ih old p m (half n) w u e (by omega)]
        rw [show 1 + many f m (half n) w = many f m (half n) w + 1 by omega] at h ⊢
        rw [part_take p u _ h, part_last p u _ h]
        simp only [takeH]
        rw [if_neg (by omega)]
        rfl
      · rw [if_neg hi] at h ⊢
        rw [if_neg hi, if_neg hi]
        rw [ih old p (m - half n) (n - half n) false u e (by omega)]
        rw [show 1 + many f (m - half n) (n - half n) false = many f (m - half n) (n - half n) false + 1 by omega] at h ⊢
        rw [part_take p u _ h, part_last p u _ h]
        simp only [takeH]
        rw [if_neg (by omega)]
        rfl
theorem gwalk_no : ∀ (f : Nat) (old : H) (p : List H) (m n : Nat) (w : Bool) (u : Nat) (e : Bool), u ≤ p.length → p.length < u + many f m n w → (gwalk f old p m n w (u, e)).2 = (p.length, false) := by
  have leafno : ∀ (old : H) (p : List H) (w : Bool) (u : Nat) (e : Bool), u ≤ p.length → p.length < u + (if w then 0 else 1) → (gleaf old p w (u, e)).2 = (p.length, false) := by
    intro old p w u e h h2
    cases w with
    | true => simp at h2; omega
    | false =>
      simp only [Bool.false_eq_true, if_false] at h2
      simp only [gleaf, takeH, Bool.false_eq_true, if_false]
      rw [if_pos (by omega)]
      simp; omega
  intro f
  induction f with
  | zero => intro old p m n w u e h h2; rw [gwalk, many] at *; exact leafno old p w u e h h2
  | succ f ih =>
    intro old p m n w u e h h2
    rw [many] at h2
    rw [gwalk]
    by_cases hn : m = n
    · rw [if_pos hn] at h2 ⊢; exact leafno old p w u e h h2
    · rw [if_neg hn] at h2 ⊢
      by_cases hi : m ≤ half n
      · rw [if_pos hi] at h2 ⊢
        by_cases hd : u + many f m (half n) w ≤ p.length
        · rw [gwalk_yes f old p m (half n) w u e hd]
          simp only [takeH]
          rw [if_pos (by omega)]
          simp; omega
        · have := ih old p m (half n) w u e h (by omega)
          simp only [takeH, this]
          simp
      · rw [if_neg hi] at h2 ⊢
        by_cases hd : u + many f (m - half n) (n - half n) false ≤ p.length
        · rw [gwalk_yes f old p (m - half n) (n - half n) false u e hd]
          simp only [takeH]
          rw [if_pos (by omega)]
          simp; omega
        · have := ih old p (m - half n) (n - half n) false u e h (by omega)
          simp only [takeH, this]
          simp
/-- what the reference says of a proof of the right length between sizes that differ -/
def grown (f m n : Nat) (old next : H) (p : List H) : Bool := (p.length == many f m n true) && ((both f m n true old p).1 == old) && ((both f m n true old p).2 == next)
theorem grown_walk (f m n : Nat) (old next : H) (p : List H) :
    ((gwalk f old p m n true (0, true)).2.2 && ((gwalk f old p m n true (0, true)).2.1 == p.length) && ((gwalk f old p m n true (0, true)).1.1 == old) && ((gwalk f old p m n true (0, true)).1.2 == next)) = grown f m n old next p := by
  unfold grown
  by_cases h : many f m n true ≤ p.length
  · rw [gwalk_yes f old p m n true 0 true (by omega)]
    by_cases e : p.length = many f m n true
    · rw [← e]; simp
    · have h1 : (0 + many f m n true == p.length) = false := by simp; omega
      have h2 : (p.length == many f m n true) = false := by simp; omega
      simp only [h1, h2]; simp
  · have := gwalk_no f old p m n true 0 true (by omega) (by omega)
    have h2 : (p.length == many f m n true) = false := by simp; omega
    simp only [this, h2]; simp
end Tree
end
section
namespace Tree
theorem snoc_take (P : List H) (r : H) : (P ++ [r]).take ((P ++ [r]).length - 1) = P := by simp
theorem snoc_last (P : List H) (r : H) : (P ++ [r]).getD ((P ++ [r]).length - 1) [] = r := by simp [List.getD_eq_getElem?_getD]
theorem getD_take (l : List ByteArray) (k i : Nat) (h : i < k) (d : ByteArray) : (l.take k).getD i d = l.getD i d := by
  rw [List.getD_eq_getElem?_getD, List.getD_eq_getElem?_getD, List.getElem?_take, if_pos h]
theorem getD_drop (l : List ByteArray) (k i : Nat) (h : k ≤ i) (d : ByteArray) : (l.drop k).getD (i - k) d = l.getD i d := by
  rw [List.getD_eq_getElem?_getD, List.getD_eq_getElem?_getD, List.getElem?_drop, show k + (i - k) = i by omega]
theorem small_one (l : List ByteArray) (i : Nat) (h : i < l.length) (h1 : l.length ≤ 1) : leaf (l.getD i ByteArray.empty) = small l := by
  match l, h, h1 with
  | [s], h, _ => obtain rfl : i = 0 := by simp at h; omega
                 rfl
theorem path_ok : ∀ (f : Nat) (l : List ByteArray) (i : Nat), i < l.length → l.length ≤ 2 ^ f →
    (path f l i).length = depth f i l.length ∧ up f (leaf (l.getD i ByteArray.empty)) i l.length (path f l i) = root f l := by
  intro f
  induction f with
  | zero => intro l i h1 h2; exact ⟨rfl, small_one l i h1 (by simpa using h2)⟩
  | succ f ih =>
    intro l i h1 h2
    rw [path, depth, up, root]
    by_cases hn : l.length ≤ 1
    · rw [if_pos hn, if_pos hn, if_pos hn, if_pos hn]; exact ⟨rfl, small_one l i h1 hn⟩
    · rw [if_neg hn, if_neg hn, if_neg hn, if_neg hn]
      have a := half_pow l.length f (by omega) h2
      have b := rest_pow l.length f (by omega) h2
      have c := half_lt l.length (by omega)
      have lt : (l.take (half l.length)).length = half l.length := by rw [List.length_take]; omega
      have ld : (l.drop (half l.length)).length = l.length - half l.length := List.length_drop
      by_cases hi : i < half l.length
      · rw [if_pos hi, if_pos hi, if_pos hi]
        obtain ⟨e1, e2⟩ := ih (l.take (half l.length)) i (by omega) (by omega)
        rw [lt] at e1 e2
        rw [getD_take _ _ _ hi] at e2
        rw [snoc_take, snoc_last, e2]
        exact ⟨by rw [List.length_append, e1]; simp; omega, rfl⟩
      · rw [if_neg hi, if_neg hi, if_neg hi]
        obtain ⟨e1, e2⟩ := ih (l.drop (half l.length)) (i - half l.length) (by omega) (by omega)
        rw [ld] at e1 e2
        rw [getD_drop _ _ _ (by omega)] at e2
        rw [snoc_take, snoc_last, e2]
        exact ⟨by rw [List.length_append, e1]; simp; omega, rfl⟩
/-- the path of a string is accepted -/
theorem path_fits (f : Nat) (l : List ByteArray) (i : Nat) (h1 : i < l.length) (h2 : l.length ≤ 2 ^ f) : fits f l.length (root f l) i (leaf (l.getD i ByteArray.empty)) (path f l i) = true := by
  obtain ⟨e1, e2⟩ := path_ok f l i h1 h2
  unfold fits
  rw [e2, e1]; simp [h1]
theorem half_same (m n : Nat) (h1 : half n < m) (h2 : m ≤ n) : half m = half n := by
  have b := half_le n (by have := half_pos n; omega)
  unfold half at h1 b
  exact (half_unique m _ h1 (by omega)).symm
theorem growth_ok : ∀ (f : Nat) (l : List ByteArray) (m : Nat) (w : Bool) (old : H), 1 ≤ m → m ≤ l.length → l.length ≤ 2 ^ f → (w = true → old = root f (l.take m)) →
    (growth f l m w).length = many f m l.length w ∧ both f m l.length w old (growth f l m w) = (root f (l.take m), root f l) := by
  intro f
  induction f with
  | zero =>
    intro l m w old h1 h2 h3 h4
    have e : l.take m = l := List.take_of_length_le (by simp at h3; omega)
    rw [growth, many, both, e]
    cases w with
    | true => rw [e] at h4; simp [h4 rfl]
    | false => simp
  | succ f ih =>
    intro l m w old h1 h2 h3 h4
    rw [growth, many, both]
    by_cases hm : m = l.length
    · have e : l.take m = l := List.take_of_length_le (by omega)
      rw [if_pos hm, if_pos hm, if_pos hm, e]
      cases w with
      | true => rw [e] at h4; simp [h4 rfl]
      | false => simp
    · rw [if_neg hm, if_neg hm, if_neg hm]
      have a := half_pow l.length f (by omega) h3
      have b := rest_pow l.length f (by omega) h3
      have c := half_lt l.length (by omega)
      have lt : (l.take (half l.length)).length = half l.length := by rw [List.length_take]; omega
      have ld : (l.drop (half l.length)).length = l.length - half l.length := List.length_drop
      have er : root (f + 1) l = node (root f (l.take (half l.length))) (root f (l.drop (half l.length))) := by rw [root_succ, if_neg (by omega)]
      by_cases hi : m ≤ half l.length
      · rw [if_pos hi, if_pos hi, if_pos hi]
        have et : (l.take (half l.length)).take m = l.take m := by rw [List.take_take]; congr 1; omega
        have em : root (f + 1) (l.take m) = root f (l.take m) := root_more f _ (by rw [List.length_take]; omega)
        obtain ⟨e1, e2⟩ := ih (l.take (half l.length)) m w old h1 (by omega) (by omega) (fun h => by rw [et, ← em]; exact h4 h)
        rw [lt] at e1 e2
        rw [snoc_take, snoc_last, e2, et, er, em]
        exact ⟨by rw [List.length_append, e1]; simp; omega, rfl⟩
      · rw [if_neg hi, if_neg hi, if_neg hi]
        obtain ⟨e1, e2⟩ := ih (l.drop (half l.length)) (m - half l.length) false old (by omega) (by omega) (by omega) (fun h => by cases h)
        rw [ld] at e1 e2
        have lm : (l.take m).length = m := by rw [List.length_take]; omega
        have hs := half_same m l.length (by omega) h2
        have em : root (f + 1) (l.take m) = node (root f (l.take (half l.length))) (root f ((l.drop (half l.length)).take (m - half l.length))) := by
          rw [root_succ, if_neg (by rw [lm]; have := half_pos l.length; omega), lm, hs, List.take_take, List.drop_take]
          congr 3; omega
        rw [snoc_take, snoc_last, e2, er, em]
        exact ⟨by rw [List.length_append, e1]; simp; omega, rfl⟩
/-- the growth of a list is accepted -/
theorem growth_grown (f : Nat) (l : List ByteArray) (m : Nat) (h1 : 1 ≤ m) (h2 : m ≤ l.length) (h3 : l.length ≤ 2 ^ f) : grown f m l.length (root f (l.take m)) (root f l) (growth f l m true) = true := by
  obtain ⟨e1, e2⟩ := growth_ok f l m true (root f (l.take m)) h1 h2 h3 (fun _ => rfl)
  unfold grown
  rw [e2, e1]; simp
end Tree
end
section
namespace Tree
theorem half2 : half 2 = 1 := (half_unique 2 0 (by omega) (by omega)).symm
theorem half3 : half 3 = 2 := (half_unique 3 1 (by omega) (by omega)).symm
theorem half4 : half 4 = 2 := (half_unique 4 1 (by omega) (by omega)).symm
theorem root_two (a b : ByteArray) : root 1 [a, b] = node (leaf a) (leaf b) := by simp [root, small, half2]
theorem root_one' (a : ByteArray) (f : Nat) : root f [a] = leaf a := by cases f <;> simp [root, small]
theorem san_p2 (a b c : ByteArray) : path 2 [a, b, c] 2 = [node (leaf a) (leaf b)] := by simp [path, half3, root_two]
theorem san_p0 (a b c : ByteArray) : path 2 [a, b, c] 0 = [leaf b, leaf c] := by simp [path, half3, half2, root_one']
theorem san_g2 (a b c : ByteArray) : growth 2 [a, b, c] 2 true = [leaf c] := by simp [growth, half3, root_one']
theorem san_g3 (a b c d : ByteArray) : growth 2 [a, b, c, d] 3 true = [leaf c, leaf d, node (leaf a) (leaf b)] := by simp [growth, half4, half2, root_two, root_one']
theorem san_g1 (a b c : ByteArray) : growth 2 [a, b, c] 1 true = [leaf b, leaf c] := by simp [growth, half3, half2, root_one']
theorem san_root (a b c : ByteArray) : root 2 [a, b, c] = node (node (leaf a) (leaf b)) (leaf c) := by simp [root, small, half3, half2]
theorem leaf_a : (leaf ⟨#[97]⟩ == List.replicate 32 0) = false := by
  have : Sha.sum [0, 97] ≠ List.replicate 32 0 := by decide +kernel
  rw [beq_eq_false_iff_ne]
  exact this
end Tree
end
section
namespace Tree
abbrev S := List UInt8
def smallIn (l : List ByteArray) : List S := match l with
  | [] => [[]]
  | s :: _ => [0 :: s.data.toList]
/-- the strings that are hashed for the root of a list -/
def insideL : Nat → List ByteArray → List S
  | 0, l => smallIn l
  | f + 1, l => if l.length ≤ 1 then smallIn l else insideL f (l.take (half l.length)) ++ insideL f (l.drop (half l.length)) ++ [1 :: (root f (l.take (half l.length)) ++ root f (l.drop (half l.length)))]
/-- the strings that are hashed for a path -/
def pathIn : Nat → ByteArray → Nat → Nat → List H → List S
  | 0, x, _, _, _ => [0 :: x.data.toList]
  | f + 1, x, i, n, p => if n ≤ 1 then [0 :: x.data.toList] else
    if i < half n then pathIn f x i (half n) (p.take (p.length - 1)) ++ [1 :: (up f (leaf x) i (half n) (p.take (p.length - 1)) ++ p.getD (p.length - 1) [])]
    else pathIn f x (i - half n) (n - half n) (p.take (p.length - 1)) ++ [1 :: (p.getD (p.length - 1) [] ++ up f (leaf x) (i - half n) (n - half n) (p.take (p.length - 1)))]
/-- the strings that are hashed for a growth -/
def growIn : Nat → Nat → Nat → Bool → H → List H → List S
  | 0, _, _, _, _, _ => []
  | f + 1, m, n, w, old, p => if m = n then [] else
    if m ≤ half n then growIn f m (half n) w old (p.take (p.length - 1)) ++ [1 :: ((both f m (half n) w old (p.take (p.length - 1))).2 ++ p.getD (p.length - 1) [])]
    else growIn f (m - half n) (n - half n) false old (p.take (p.length - 1)) ++ [1 :: (p.getD (p.length - 1) [] ++ (both f (m - half n) (n - half n) false old (p.take (p.length - 1))).1), 1 :: (p.getD (p.length - 1) [] ++ (both f (m - half n) (n - half n) false old (p.take (p.length - 1))).2)]
/-- two different strings with one hash -/
def Clashes (L : List S) : Prop := ∃ u ∈ L, ∃ v ∈ L, u ≠ v ∧ Sha.sum u = Sha.sum v
theorem Clashes.mono {L M : List S} (h : Clashes L) (hs : ∀ x ∈ L, x ∈ M) : Clashes M := by
  obtain ⟨u, hu, v, hv, h1, h2⟩ := h
  exact ⟨u, hs u hu, v, hs v hv, h1, h2⟩
theorem append_cut {a b c d : List UInt8} (h : a ++ b = c ++ d) (hl : a.length = c.length) : a = c ∧ b = d := List.append_inj h hl
theorem data_ne {x y : ByteArray} (h : x ≠ y) : (0 :: x.data.toList : S) ≠ 0 :: y.data.toList := by
  intro e
  injection e with _ e
  apply h
  cases x; cases y
  simp at e
  rw [ByteArray.mk.injEq]
  exact e
theorem up_len (f : Nat) (x : H) (i n : Nat) (p : List H) (hx : x.length = 32) : (up f x i n p).length = 32 := by
  cases f with
  | zero => exact hx
  | succ f =>
    rw [up]
    split
    · exact hx
    · split <;> exact node_length _ _
theorem one_clash (l : List ByteArray) (i : Nat) (x : ByteArray) (h1 : l.length ≤ 1) (hi : i < l.length) (hx : x ≠ l.getD i ByteArray.empty) (e : leaf x = small l) : Clashes (smallIn l ++ [0 :: x.data.toList]) := by
  match l, h1, hi with
  | [s], _, hi =>
    obtain rfl : i = 0 := by simpa using hi
    have hx' : x ≠ s := by simpa using hx
    exact ⟨0 :: s.data.toList, by simp [smallIn], 0 :: x.data.toList, by simp, data_ne (Ne.symm hx'), e.symm⟩
/-- whoever shows another string in a string's place shows a collision -/
theorem binds : ∀ (f : Nat) (l : List ByteArray) (i : Nat) (x : ByteArray) (p : List H), i < l.length → l.length ≤ 2 ^ f → p.length = depth f i l.length → (∀ h ∈ p, h.length = 32) → up f (leaf x) i l.length p = root f l → x ≠ l.getD i ByteArray.empty →
    Clashes (insideL f l ++ pathIn f x i l.length p) := by
  intro f
  induction f with
  | zero =>
    intro l i x p hi hf hp he hu hx
    have : (2 : Nat) ^ 0 = 1 := rfl
    exact one_clash l i x (by omega) hi hx hu
  | succ f ih =>
    intro l i x p hi hf hp he hu hx
    by_cases h1 : l.length ≤ 1
    · have e : leaf x = small l := by rw [up, if_pos h1, root, if_pos h1] at hu; exact hu
      rw [insideL, if_pos h1, pathIn, if_pos h1]
      exact one_clash l i x h1 hi hx e
    · have hk0 := half_pos l.length
      have hk1 := half_lt l.length (by omega)
      have hf1 := half_pow l.length f (by omega) hf
      have hf2 := rest_pow l.length f (by omega) hf
      rw [up, if_neg h1, root, if_neg h1] at hu
      rw [depth, if_neg h1] at hp
      rw [insideL, if_neg h1, pathIn, if_neg h1]
      have lt1 : (l.take (half l.length)).length = half l.length := by rw [List.length_take]; omega
      have lt2 : (l.drop (half l.length)).length = l.length - half l.length := by rw [List.length_drop]
      have heT : ∀ h ∈ p.take (p.length - 1), h.length = 32 := fun h hh => he h (List.mem_of_mem_take hh)
      by_cases hik : i < half l.length
      · rw [if_pos hik] at hu hp ⊢
        by_cases hs : (1 :: (root f (l.take (half l.length)) ++ root f (l.drop (half l.length))) : S) = 1 :: (up f (leaf x) i (half l.length) (p.take (p.length - 1)) ++ p.getD (p.length - 1) [])
        · injection hs with _ hs
          have hc := append_cut hs (by rw [root_length, up_len f _ _ _ _ (leaf_length x)])
          have := ih (l.take (half l.length)) i x (p.take (p.length - 1)) (by omega) (by omega) (by rw [lt1, List.length_take]; omega) heT (by rw [lt1]; exact hc.1.symm) (by rw [getD_take _ _ _ hik]; exact hx)
          rw [lt1] at this
          exact this.mono (fun y hy => by
            rcases List.mem_append.1 hy with hy | hy
            · simp [hy]
            · simp [hy])
        · exact ⟨_, by simp, _, by simp, hs, hu.symm⟩
      · rw [if_neg hik] at hu hp ⊢
        by_cases hs : (1 :: (root f (l.take (half l.length)) ++ root f (l.drop (half l.length))) : S) = 1 :: (p.getD (p.length - 1) [] ++ up f (leaf x) (i - half l.length) (l.length - half l.length) (p.take (p.length - 1)))
        · injection hs with _ hs
          have hlast : (p.getD (p.length - 1) []).length = 32 := by
            rw [List.getD_eq_getElem?_getD, List.getElem?_eq_getElem (by omega)]
            exact he _ (List.getElem_mem (by omega))
          have hc := append_cut hs (by rw [root_length, hlast])
          have := ih (l.drop (half l.length)) (i - half l.length) x (p.take (p.length - 1)) (by omega) (by omega) (by rw [lt2, List.length_take]; omega) heT (by rw [lt2]; exact hc.2.symm) (by rw [getD_drop _ _ _ (by omega)]; exact hx)
          rw [lt2] at this
          exact this.mono (fun y hy => by
            rcases List.mem_append.1 hy with hy | hy
            · simp [hy]
            · simp [hy])
        · exact ⟨_, by simp, _, by simp, hs, hu.symm⟩
/-- two lists of one length with one root are one list, or show a collision -/
theorem roots_bind : ∀ (f : Nat) (s t : List ByteArray), s.length = t.length → t.length ≤ 2 ^ f → root f s = root f t → s = t ∨ Clashes (insideL f s ++ insideL f t) := by
  have small_bind : ∀ (s t : List ByteArray), s.length = t.length → t.length ≤ 1 → small s = small t → s = t ∨ Clashes (smallIn s ++ smallIn t) := by
    intro s t hl h1 e
    match s, t, hl, h1 with
    | [], [], _, _ => exact .inl rfl
    | [a], [b], _, _ =>
      by_cases hab : a = b
      · exact .inl (by rw [hab])
      · exact .inr ⟨0 :: a.data.toList, by simp [smallIn], 0 :: b.data.toList, by simp [smallIn], data_ne hab, e⟩
    | _, _ :: _ :: _, _, h1 => simp at h1
    | _ :: _ :: _, [_], hl, _ => simp at hl
    | _ :: _, [], hl, _ => simp at hl
    | [], _ :: _, hl, _ => simp at hl
  intro f
  induction f with
  | zero =>
    intro s t hl hf e
    have : (2 : Nat) ^ 0 = 1 := rfl
    exact small_bind s t hl (by omega) e
  | succ f ih =>
    intro s t hl hf e
    rw [root, root, hl] at e
    rw [insideL, insideL, hl]
    by_cases h1 : t.length ≤ 1
    · rw [if_pos h1, if_pos h1] at e ⊢
      exact small_bind s t hl h1 e
    · rw [if_neg h1, if_neg h1] at e ⊢
      have hk1 := half_lt t.length (by omega)
      have hf1 := half_pow t.length f (by omega) hf
      have hf2 := rest_pow t.length f (by omega) hf
      by_cases hs : (1 :: (root f (s.take (half t.length)) ++ root f (s.drop (half t.length))) : S) = 1 :: (root f (t.take (half t.length)) ++ root f (t.drop (half t.length)))
      · injection hs with _ hs
        have hc := append_cut hs (by rw [root_length, root_length])
        rcases ih (s.take (half t.length)) (t.take (half t.length)) (by simp [hl]) (by rw [List.length_take]; omega) hc.1 with h | h
        · rcases ih (s.drop (half t.length)) (t.drop (half t.length)) (by simp [hl]) (by rw [List.length_drop]; omega) hc.2 with g | g
          · left
            rw [← List.take_append_drop (half t.length) s, h, g, List.take_append_drop]
          · right
            exact g.mono (fun y hy => by rcases List.mem_append.1 hy with hy | hy <;> simp [hy])
        · right
          exact h.mono (fun y hy => by rcases List.mem_append.1 hy with hy | hy <;> simp [hy])
      · right
        exact ⟨_, by simp, _, by simp, hs, e⟩
theorem inside_succ (f : Nat) (l : List ByteArray) : insideL (f + 1) l = if l.length ≤ 1 then smallIn l else insideL f (l.take (half l.length)) ++ insideL f (l.drop (half l.length)) ++ [1 :: (root f (l.take (half l.length)) ++ root f (l.drop (half l.length)))] := rfl
theorem inside_more : ∀ (f : Nat) (l : List ByteArray), l.length ≤ 2 ^ f → insideL (f + 1) l = insideL f l := by
  intro f
  induction f with
  | zero =>
    intro l hf
    have : (2 : Nat) ^ 0 = 1 := rfl
    rw [inside_succ 0 l, if_pos (by omega)]; rfl
  | succ f ih =>
    intro l hf
    rw [inside_succ (f + 1) l, inside_succ f l]
    by_cases h1 : l.length ≤ 1
    · rw [if_pos h1, if_pos h1]
    · rw [if_neg h1, if_neg h1]
      have hk1 := half_lt l.length (by omega)
      have hf1 := half_pow l.length f (by omega) hf
      have hf2 := rest_pow l.length f (by omega) hf
      rw [ih _ (by rw [List.length_take]; omega), ih _ (by rw [List.length_drop]; omega), root_more f _ (by rw [List.length_take]; omega), root_more f _ (by rw [List.length_drop]; omega)]
theorem last_len (p : List H) (he : ∀ h ∈ p, h.length = 32) (h1 : 1 ≤ p.length) : (p.getD (p.length - 1) []).length = 32 := by
  rw [List.getD_eq_getElem?_getD, List.getElem?_eq_getElem (by omega)]
  exact he _ (List.getElem_mem (by omega))
theorem first_len (p : List H) (he : ∀ h ∈ p, h.length = 32) (h1 : 1 ≤ p.length) : (p.getD 0 []).length = 32 := by
  rw [List.getD_eq_getElem?_getD, List.getElem?_eq_getElem (by omega)]
  exact he _ (List.getElem_mem (by omega))
theorem both_len : ∀ (f m n : Nat) (b : Bool) (old : H) (p : List H), (∀ h ∈ p, h.length = 32) → old.length = 32 → 1 ≤ m → m ≤ n → n ≤ 2 ^ f → p.length = many f m n b → (both f m n b old p).1.length = 32 ∧ (both f m n b old p).2.length = 32 := by
  intro f
  induction f with
  | zero =>
    intro m n b old p he ho h1 hmn hf hl
    rw [both]
    cases b with
    | true => exact ⟨ho, ho⟩
    | false =>
      have : p.length = 1 := hl
      exact ⟨first_len p he (by omega), first_len p he (by omega)⟩
  | succ f ih =>
    intro m n b old p he ho h1 hmn hf hl
    rw [many] at hl
    rw [both]
    by_cases hq : m = n
    · rw [if_pos hq] at hl ⊢
      cases b with
      | true => exact ⟨ho, ho⟩
      | false =>
        have : p.length = 1 := hl
        exact ⟨first_len p he (by omega), first_len p he (by omega)⟩
    · rw [if_neg hq] at hl ⊢
      have hk1 := half_lt n (by omega)
      have hf1 := half_pow n f (by omega) hf
      have ht : ∀ h ∈ p.take (p.length - 1), h.length = 32 := fun x hx => he x (List.mem_of_mem_take hx)
      by_cases hik : m ≤ half n
      · rw [if_pos hik] at hl ⊢
        exact ⟨(ih m (half n) b old _ ht ho h1 hik hf1 (by rw [List.length_take]; omega)).1, node_length _ _⟩
      · rw [if_neg hik]
        exact ⟨node_length _ _, node_length _ _⟩
theorem both_same (w : Bool) (old : H) (p : List H) : (if w then (old, old) else (p.getD 0 [], p.getD 0 [])).1 = (if w then (old, old) else (p.getD 0 [], p.getD 0 [])).2 := by cases w <;> rfl
/-- whoever shows a growth from a list that is no beginning shows a collision -/
theorem extends_ : ∀ (f : Nat) (s t : List ByteArray) (w : Bool) (old : H) (p : List H), 1 ≤ s.length → s.length ≤ t.length → t.length ≤ 2 ^ f → p.length = many f s.length t.length w → (∀ h ∈ p, h.length = 32) → old.length = 32 →
    (both f s.length t.length w old p).1 = root f s → (both f s.length t.length w old p).2 = root f t → s = t.take s.length ∨ Clashes (insideL f s ++ insideL f t ++ growIn f s.length t.length w old p) := by
  intro f
  induction f with
  | zero =>
    intro s t w old p h1 hst hf hp he ho ha hb
    have : (2 : Nat) ^ 0 = 1 := rfl
    have hl : s.length = t.length := by omega
    rw [both] at ha hb
    have hr : root 0 s = root 0 t := by rw [← ha, ← hb]; exact both_same w old p
    rcases roots_bind 0 s t hl hf hr with h | h
    · left; rw [h, List.take_length]
    · right; exact h.mono (fun y hy => by rcases List.mem_append.1 hy with hy | hy <;> simp [hy])
  | succ f ih =>
    intro s t w old p h1 hst hf hp he ho ha hb
    by_cases hl : s.length = t.length
    · rw [both, if_pos hl] at ha hb
      have hr : root (f + 1) s = root (f + 1) t := by rw [← ha, ← hb]; exact both_same w old p
      rcases roots_bind (f + 1) s t hl hf hr with h | h
      · left; rw [h, List.take_length]
      · right; exact h.mono (fun y hy => by rcases List.mem_append.1 hy with hy | hy <;> simp [hy])
    · have hk0 := half_pos t.length
      have hk1 := half_lt t.length (by omega)
      have hf1 := half_pow t.length f (by omega) hf
      have hf2 := rest_pow t.length f (by omega) hf
      have heT : ∀ h ∈ p.take (p.length - 1), h.length = 32 := fun h hh => he h (List.mem_of_mem_take hh)
      have lt1 : (t.take (half t.length)).length = half t.length := by rw [List.length_take]; omega
      have lt2 : (t.drop (half t.length)).length = t.length - half t.length := by rw [List.length_drop]
      have ht1 : ¬ t.length ≤ 1 := by omega
      rw [both, if_neg hl] at ha hb
      rw [many, if_neg hl] at hp
      rw [growIn, if_neg hl]
      by_cases hik : s.length ≤ half t.length
      · rw [if_pos hik] at ha hb hp ⊢
        rw [root_more f s (by omega)] at ha
        rw [inside_more f s (by omega)]
        have ht : root (f + 1) t = node (root f (t.take (half t.length))) (root f (t.drop (half t.length))) := by rw [root, if_neg ht1]
        have hi : insideL (f + 1) t = insideL f (t.take (half t.length)) ++ insideL f (t.drop (half t.length)) ++ [1 :: (root f (t.take (half t.length)) ++ root f (t.drop (half t.length)))] := by rw [insideL, if_neg ht1]
        rw [hi]
        rw [ht] at hb
        have lb := both_len f s.length (half t.length) w old (p.take (p.length - 1)) heT ho h1 hik hf1 (by rw [List.length_take]; omega)
        by_cases hs : (1 :: (root f (t.take (half t.length)) ++ root f (t.drop (half t.length))) : S) = 1 :: ((both f s.length (half t.length) w old (p.take (p.length - 1))).2 ++ p.getD (p.length - 1) [])
        · injection hs with _ hs
          have hc := append_cut hs (by rw [root_length, lb.2])
          have := ih s (t.take (half t.length)) w old (p.take (p.length - 1)) h1 (by omega) (by omega) (by rw [lt1, List.length_take]; omega) heT ho (by rw [lt1]; exact ha) (by rw [lt1]; exact hc.1.symm)
          rw [lt1] at this
          rcases this with h | h
          · left
            rw [List.take_take, show min s.length (half t.length) = s.length by omega] at h
            exact h
          · right
            exact h.mono (fun y hy => by
              rcases List.mem_append.1 hy with hy | hy
              · rcases List.mem_append.1 hy with hy | hy <;> simp [hy]
              · simp [hy])
        · right
          exact ⟨_, by simp, _, by simp, hs, hb.symm⟩
      · rw [if_neg hik] at ha hb hp ⊢
        have hh : half s.length = half t.length := half_same s.length t.length (by omega) hst
        have hs1 : ¬ s.length ≤ 1 := by omega
        have hts : root (f + 1) s = node (root f (s.take (half t.length))) (root f (s.drop (half t.length))) := by rw [root, if_neg hs1, hh]
        have his : insideL (f + 1) s = insideL f (s.take (half t.length)) ++ insideL f (s.drop (half t.length)) ++ [1 :: (root f (s.take (half t.length)) ++ root f (s.drop (half t.length)))] := by rw [insideL, if_neg hs1, hh]
        have ht : root (f + 1) t = node (root f (t.take (half t.length))) (root f (t.drop (half t.length))) := by rw [root, if_neg ht1]
        have hi : insideL (f + 1) t = insideL f (t.take (half t.length)) ++ insideL f (t.drop (half t.length)) ++ [1 :: (root f (t.take (half t.length)) ++ root f (t.drop (half t.length)))] := by rw [insideL, if_neg ht1]
        rw [hts] at ha
        rw [ht] at hb
        rw [his, hi]
        have hlast := last_len p he (by omega)
        have ls1 : (s.take (half t.length)).length = half t.length := by rw [List.length_take]; omega
        have ls2 : (s.drop (half t.length)).length = s.length - half t.length := by rw [List.length_drop]
        by_cases hs : (1 :: (root f (s.take (half t.length)) ++ root f (s.drop (half t.length))) : S) = 1 :: (p.getD (p.length - 1) [] ++ (both f (s.length - half t.length) (t.length - half t.length) false old (p.take (p.length - 1))).1)
        · by_cases hs' : (1 :: (root f (t.take (half t.length)) ++ root f (t.drop (half t.length))) : S) = 1 :: (p.getD (p.length - 1) [] ++ (both f (s.length - half t.length) (t.length - half t.length) false old (p.take (p.length - 1))).2)
          · injection hs with _ hs
            injection hs' with _ hs'
            have hc := append_cut hs (by rw [root_length, hlast])
            have hc' := append_cut hs' (by rw [root_length, hlast])
            rcases roots_bind f (s.take (half t.length)) (t.take (half t.length)) (by omega) (by omega) (hc.1.trans hc'.1.symm) with h | h
            · have := ih (s.drop (half t.length)) (t.drop (half t.length)) false old (p.take (p.length - 1)) (by omega) (by omega) (by omega) (by rw [ls2, lt2, List.length_take]; omega) heT ho (by rw [ls2, lt2]; exact hc.2.symm) (by rw [ls2, lt2]; exact hc'.2.symm)
              rw [ls2, lt2] at this
              rcases this with g | g
              · left
                have e1 : s = s.take (half t.length) ++ s.drop (half t.length) := (List.take_append_drop _ _).symm
                have e2 : t.take s.length = t.take (half t.length) ++ (t.drop (half t.length)).take (s.length - half t.length) := by
                  rw [← List.take_add]; congr 1; omega
                rw [e2, ← h, ← g]; exact e1
              · right
                exact g.mono (fun y hy => by
                  rcases List.mem_append.1 hy with hy | hy
                  · rcases List.mem_append.1 hy with hy | hy <;> simp [hy]
                  · simp [hy])
            · right
              exact h.mono (fun y hy => by rcases List.mem_append.1 hy with hy | hy <;> simp [hy])
          · right
            exact ⟨_, by simp, _, by simp, hs', hb.symm⟩
        · right
          exact ⟨_, by simp, _, by simp, hs, ha.symm⟩
end Tree
end
end Go.Proofs.YtjedhmoehepbnaaDoor
