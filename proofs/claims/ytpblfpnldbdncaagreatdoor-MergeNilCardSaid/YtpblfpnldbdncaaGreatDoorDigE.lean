/- A block of digits that is known whole, and the plain law of long multiplication. -/
import Derived.Test.YtpblfpnldbdncaaGreatDoorDigD
import Derived.OwnWalk
import Derived.Laws.MakeOwn
import Derived.Sort.Row
import Derived.Sort.Grow
namespace Go.Proofs.YtpblfpnldbdncaaGreatDoor
open Go.RowKit Go.Sort
set_option linter.unusedVariables false
def DigFull (w : World) (g : Nat) (xs : List Nat) : Prop := w.heap[g]? = some (.cells (dvals xs).toArray 3 (0, 0))
theorem DigFull.lt {w : World} {g : Nat} {xs : List Nat} (h : DigFull w g xs) : g < w.heap.size := (Array.getElem?_eq_some_iff.1 h).1
theorem DigFull.cell {w : World} {g : Nat} {xs : List Nat} (h : DigFull w g xs) {i d : Nat} (hi : xs[i]? = some d) : w.cell? ⟨g, i, none⟩ = some (.int .i64 (d : Int)) := by
  rw [cell_of_row _ _ _ _ _ _ h]
  simp [dvals, hi]
theorem DigFull.frozen {w : World} {g : Nat} {xs : List Nat} (h : DigFull w g xs) (i : Nat) : w.frozen? ⟨g, i, none⟩ = false := frozen_of_row _ _ _ _ _ h
theorem DigFull.set {w : World} {g : Nat} {xs : List Nat} (h : DigFull w g xs) (i : Nat) (v : Nat) : DigFull (w.setCell ⟨g, i, none⟩ (.int .i64 (v : Int))) g (xs.set i v) := by
  unfold DigFull
  rw [heap_setCell_same _ _ _ _ _ _ h]
  simp [dvals, List.map_set]
theorem DigFull.below {w w' : World} {g : Nat} {xs : List Nat} (h : DigFull w g xs) (hb : Below w.heap.size w w') : DigFull w' g xs := (hb.block g h.lt).trans h
theorem made_digs (n : Nat) : (madeCells (Value.int .i64 0).cells (n * 1)).toList = dvals (List.replicate n 0) := by
  apply List.ext_getElem
  · simp [madeCells, dvals]
  · intro i h1 h2
    simp [madeCells, Value.cells, Nat.mod_one, dvals]
theorem DigFull.made {w : World} {base g n : Nat} (h : w.ownsRow base 3 1 (.slice (some ⟨g, 0, none⟩) n n) n (madeCells (Value.int .i64 0).cells (n * 1)).toList) : DigFull w g (List.replicate n 0) := by
  rcases h.2 with ⟨h1, _⟩ | ⟨g', cap, cur, h1, _, h2, _, _, h3, h4⟩
  · cases h1
  · injection h1 with h1 _ h5
    injection h1 with h1
    injection h1 with h1
    subst h1 h5
    rw [List.take_of_length_le (by rw [Array.length_toList, h3]; exact Nat.le_refl _), made_digs] at h4
    unfold DigFull
    rw [h2, ← h4]
theorem DigFull.at {w : World} {g n : Nat} {xs : List Nat} (h : DigFull w g xs) (hn : xs.length = n) : DigAt w (.slice (some ⟨g, 0, none⟩) n n) xs := by
  subst hn
  exact ⟨_, _, rfl, Nat.le_refl _, .inr ⟨g, rfl, fun j d hd => h.cell hd⟩⟩
namespace Dg
theorem dval_set {l : List Nat} {p x y : Nat} (h : l[p]? = some y) : dval (l.set p x) + 16777216 ^ p * y = dval l + 16777216 ^ p * x := by
  induction l generalizing p with
  | nil => simp at h
  | cons d l ih =>
    cases p with
    | zero =>
      simp only [List.getElem?_cons_zero, Option.some.injEq] at h
      subst h
      simp only [List.set_cons_zero, dval, Nat.pow_zero]
      omega
    | succ p =>
      have := ih (p := p) (by simpa using h)
      simp only [List.set_cons_succ, dval, Nat.pow_succ]
      rw [Nat.mul_comm (16777216 ^ p) 16777216, Nat.mul_assoc, Nat.mul_assoc]
      omega
theorem fit_set {l : List Nat} (h : Fit l) {x : Nat} (hx : x < 16777216) (p : Nat) : Fit (l.set p x) := by
  intro d hd
  rcases List.mem_or_eq_of_mem_set hd with h1 | rfl
  · exact h d h1
  · exact hx
/-- the outer loop of a long multiplication -/
structure MulOut (u v : List Nat) (i : Nat) (o : List Nat) : Prop where
  len : o.length = u.length + v.length
  fit : Fit o
  zero : ∀ t, i + v.length ≤ t → t < u.length + v.length → o[t]? = some 0
  val : dval o = dval (u.take i) * dval v
/-- the inner loop -/
structure MulIn (u v : List Nat) (i x j c : Nat) (o : List Nat) : Prop where
  len : o.length = u.length + v.length
  fit : Fit o
  car : c < 16777216
  zero : ∀ t, i + v.length ≤ t → t < u.length + v.length → o[t]? = some 0
  val : dval o + 16777216 ^ (i + j) * c = dval (u.take i) * dval v + 16777216 ^ i * (x * dval (v.take j))
theorem dval_zeros (n : Nat) : dval (List.replicate n 0) = 0 := by
  induction n with
  | zero => rfl
  | succ n ih => rw [List.replicate_succ, dval, ih]
theorem MulOut.start (u v : List Nat) : MulOut u v 0 (List.replicate (u.length + v.length) 0) := by
  refine ⟨by simp, ?_, ?_, ?_⟩
  · intro d hd
    rw [List.eq_of_mem_replicate hd]
    omega
  · intro t _ ht
    simp [ht]
  · rw [dval_zeros, List.take_zero]
    simp [dval]
theorem MulOut.begin {u v o : List Nat} {i : Nat} (h : MulOut u v i o) (x : Nat) : MulIn u v i x 0 0 o :=
  ⟨h.len, h.fit, by omega, h.zero, by rw [h.val, List.take_zero, dval]; omega⟩
theorem MulIn.at {u v o : List Nat} {i x j c : Nat} (h : MulIn u v i x j c o) (hi : i < u.length) (hj : j < v.length) : ∃ z, o[i + j]? = some z ∧ z < 16777216 := by
  have hl : i + j < o.length := by rw [h.len]; omega
  exact ⟨o[i + j], List.getElem?_eq_getElem hl, h.fit _ (List.getElem_mem hl)⟩
theorem MulIn.step {u v o : List Nat} {i x j c y z : Nat} (h : MulIn u v i x j c o) (hx : x < 16777216) (hy : v[j]? = some y) (hyb : y < 16777216) (hz : o[i + j]? = some z) (hzb : z < 16777216) :
    MulIn u v i x (j + 1) ((z + x * y + c) / 16777216) (o.set (i + j) ((z + x * y + c) % 16777216)) := by
  have hj : j < v.length := (List.getElem?_eq_some_iff.1 hy).1
  have hm : x * y ≤ 16777215 * 16777215 := Nat.mul_le_mul (by omega) (by omega)
  have hc := h.car
  refine ⟨by rw [List.length_set, h.len], fit_set h.fit (by omega) _, by omega, ?_, ?_⟩
  · intro t h1 h2
    rw [List.getElem?_set_ne (by omega)]
    exact h.zero t h1 h2
  · have e1 := dval_set (x := (z + x * y + c) % 16777216) hz
    have e2 := h.val
    have e3 : dval (v.take (j + 1)) = dval (v.take j) + 16777216 ^ j * y := by
      rw [List.take_add_one, hy]
      show dval (_ ++ [y]) = _
      rw [dval_snoc, List.length_take, Nat.min_eq_left (by omega)]
    rw [e3]
    have e4 : 16777216 ^ (i + (j + 1)) * ((z + x * y + c) / 16777216) + 16777216 ^ (i + j) * ((z + x * y + c) % 16777216) = 16777216 ^ (i + j) * z + 16777216 ^ (i + j) * (x * y) + 16777216 ^ (i + j) * c := by
      rw [← Nat.add_assoc i j 1, Nat.pow_succ, Nat.mul_assoc, ← Nat.mul_add, ← Nat.mul_add, ← Nat.mul_add]
      congr 1
      omega
    have e5 : 16777216 ^ i * (x * (dval (v.take j) + 16777216 ^ j * y)) = 16777216 ^ i * (x * dval (v.take j)) + 16777216 ^ (i + j) * (x * y) := by
      rw [Nat.mul_add, Nat.mul_add, Nat.pow_add]
      congr 1
      rw [Nat.mul_assoc, Nat.mul_left_comm x]
    rw [e5]
    omega
theorem MulIn.done {u v o : List Nat} {i x c : Nat} (h : MulIn u v i x v.length c o) (hx : u[i]? = some x) : MulOut u v (i + 1) (o.set (i + v.length) c) := by
  have hi : i < u.length := (List.getElem?_eq_some_iff.1 hx).1
  have e1 := dval_set (x := c) (h.zero (i + v.length) (Nat.le_refl _) (by omega))
  have e2 := h.val
  refine ⟨by rw [List.length_set, h.len], fit_set h.fit h.car _, ?_, ?_⟩
  · intro t h1 h2
    rw [List.getElem?_set_ne (by omega)]
    exact h.zero t (by omega) h2
  · have e3 : dval (u.take (i + 1)) = dval (u.take i) + 16777216 ^ i * x := by
      rw [List.take_add_one, hx]
      show dval (_ ++ [x]) = _
      rw [dval_snoc, List.length_take, Nat.min_eq_left (by omega)]
    rw [List.take_length] at e2
    rw [e3, Nat.add_mul, Nat.mul_assoc]
    omega
theorem MulOut.whole {u v o : List Nat} (h : MulOut u v u.length o) : dval o = dval u * dval v := by
  rw [h.val, List.take_length]
end Dg
/-- small, whatever it answers -/
theorem small_all (a k : Nat) (ha : a < 256 ^ 100) (hk : k ≤ 7) : ∃ (X : Int) (P : Bool), (∀ W, Calls Tryz.prog 123 #[.string (bstr (Nb.enc a)), .int .i64 k] W fun e w' => e = .returned (.tuple #[.int .i64 X, .bool P]) ∧ w' = W) ∧ (P = true → X = (a : Int) ∧ a < 256 ^ k) := by
  have sa := str_size a 100 ha
  by_cases h : a < 256 ^ k
  · exact ⟨a, true, fun W => small_yes _ a k W (by unfold maxLen; omega) (val_str a) hk h, fun _ => ⟨rfl, h⟩⟩
  · exact ⟨0, false, fun W => small_no _ a k W (by unfold maxLen; omega) (val_str a) hk (by omega), fun h => by cases h⟩
theorem of_dg (a : Nat) (ha : a < 256 ^ 100) (W : World) : Calls Tryz.prog 124 #[.string (bstr (Nb.enc a))] W fun e w' => ∃ v, e = .returned v ∧ DigAt w' v (Dg.dg a) ∧ Below W.heap.size W w' :=
  ofDigs_any _ a W (by have := str_size a 100 ha; omega) (val_str a)
theorem dg_len {a k : Nat} (h : a < 256 ^ (3 * k)) : (Dg.dg a).length ≤ k := (Dg.dg_length_le a k).2 (by rw [pow24]; exact h)
end Go.Proofs.YtpblfpnldbdncaaGreatDoor
