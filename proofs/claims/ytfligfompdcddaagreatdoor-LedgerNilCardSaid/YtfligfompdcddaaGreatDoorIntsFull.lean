/- A block of integers that is known whole. -/
import Derived.Test.YtfligfompdcddaaGreatDoorQuiet
import Derived.OwnWalk
import Derived.Laws.MakeOwn
import Derived.Sort.Row
import Derived.Sort.Grow
namespace Go.Proofs.YtfligfompdcddaaGreatDoor
open Go.RowKit Go.Sort
set_option linter.unusedVariables false
def IntsFull (w : World) (g : Nat) (xs : List Int) : Prop := w.heap[g]? = some (.cells (xs.map (Value.int .i64)).toArray 3 (0, 0))
theorem IntsFull.lt {w : World} {g : Nat} {xs : List Int} (h : IntsFull w g xs) : g < w.heap.size := (Array.getElem?_eq_some_iff.1 h).1
theorem IntsFull.cell {w : World} {g : Nat} {xs : List Int} (h : IntsFull w g xs) (i : Nat) (hi : i < xs.length) : w.cell? ⟨g, i, none⟩ = some (.int .i64 (xs.getD i 0)) := by
  rw [cell_of_row _ _ _ _ _ _ h]
  simp [hi]
theorem IntsFull.frozen {w : World} {g : Nat} {xs : List Int} (h : IntsFull w g xs) (i : Nat) : w.frozen? ⟨g, i, none⟩ = false := frozen_of_row _ _ _ _ _ h
theorem IntsFull.set {w : World} {g : Nat} {xs : List Int} (h : IntsFull w g xs) (i : Nat) (v : Int) : IntsFull (w.setCell ⟨g, i, none⟩ (.int .i64 v)) g (xs.set i v) := by
  unfold IntsFull
  rw [heap_setCell_same _ _ _ _ _ _ h]
  simp [List.map_set]
theorem IntsFull.set_other {w : World} {g k : Nat} {xs : List Int} (h : IntsFull w g xs) (i : Nat) (v : Value) (hne : g ≠ k) : IntsFull (w.setCell ⟨k, i, none⟩ v) g xs := by
  unfold IntsFull
  rw [heap_setCell_other _ _ _ _ hne]
  exact h
theorem IntsFull.below {w w' : World} {g : Nat} {xs : List Int} (h : IntsFull w g xs) (hb : Below w.heap.size w w') : IntsFull w' g xs := (hb.block g h.lt).trans h
theorem IntsFull.grown {w w' : World} {g : Nat} {xs : List Int} {row : Option Nat} (h : IntsFull w g xs) (hg : w.grownBy w' row) (hne : some g ≠ row) : IntsFull w' g xs := (hg.block g h.lt hne).trans h
theorem IntsFull.owns {w : World} {g : Nat} {xs : List Int} (h : IntsFull w g xs) (base : Nat) (hb : base ≤ g) (hl : xs.length ≤ maxLen) : w.ownsRow base 3 1 (.slice (some ⟨g, 0, none⟩) xs.length xs.length) xs.length (xs.map (Value.int .i64)) :=
  ⟨by simp, .inr ⟨g, xs.length, _, rfl, hb, h, Nat.le_refl _, hl, by simp, by simp [List.take_of_length_le]⟩⟩
theorem made_ints (n : Nat) : (madeCells (Value.int .i64 0).cells (n * 1)).toList = (List.replicate n (0 : Int)).map (Value.int .i64) := by
  apply List.ext_getElem
  · simp [madeCells]
  · intro i h1 h2
    simp [madeCells, Value.cells, Nat.mod_one]
theorem IntsFull.made {w : World} {base g n : Nat} (h : w.ownsRow base 3 1 (.slice (some ⟨g, 0, none⟩) n n) n (madeCells (Value.int .i64 0).cells (n * 1)).toList) : IntsFull w g (List.replicate n 0) := by
  rcases h.2 with ⟨h1, _⟩ | ⟨g', cap, cur, h1, _, h2, _, _, h3, h4⟩
  · cases h1
  · injection h1 with h1 _ h5
    injection h1 with h1
    injection h1 with h1
    subst h1 h5
    rw [List.take_of_length_le (by rw [Array.length_toList, h3]; exact Nat.le_refl _), made_ints] at h4
    unfold IntsFull
    rw [h2, ← h4]
theorem getD_set_i (xs : List Int) (i : Nat) (v : Int) (hi : i < xs.length) (j : Nat) : (xs.set i v).getD j 0 = if j = i then v else xs.getD j 0 := by
  by_cases e : j = i
  · subst e; simp [hi]
  · simp [e, Ne.symm e]
theorem list_ext_getD {xs ys : List Int} (hl : xs.length = ys.length) (h : ∀ i, i < xs.length → xs.getD i 0 = ys.getD i 0) : xs = ys := by
  apply List.ext_getElem hl
  intro i h1 h2
  have := h i h1
  simpa [h1, h2] using this
/-- what a sort leaves behind -/
theorem below_putRow {α : Type} [Inhabited α] (enc : α → Value) {B : Nat} {w W : World} (h : Below B w W) {g : Nat} (hg : B ≤ g) (d : Array α) (q : Nat) : Below B w ((putRow enc W g 0 d).drewN q) := by
  refine ⟨h.os, h.tape, h.output, ?_, fun k hk => ?_⟩
  · show _ ≤ (putRow enc W g 0 d).heap.size
    rw [size_putRow]; exact h.size
  · show (putRow enc W g 0 d).heap[k]? = _
    rw [← h.block k hk]
    simp only [putRow, mapBlock, Array.getElem?_modify]
    rw [if_neg (by omega)]
theorem full_putRow {α : Type} [Inhabited α] (val : α → Int) {W : World} {g : Nat} {xs : List Int} (h : IntsFull W g xs) (d : Array α) (hd : d.size = xs.length) (q : Nat) : IntsFull ((putRow (fun x => Value.int .i64 (val x)) W g 0 d).drewN q) g (d.toList.map val) := by
  show (putRow _ W g 0 d).heap[g]? = _
  simp only [putRow, mapBlock, Array.getElem?_modify, if_true]
  rw [h]
  simp only [Option.map_some, onCells]
  congr 2
  apply Array.ext_getElem?
  intro i
  unfold putCells
  rw [Array.getElem?_mapIdx]
  by_cases hi : i < d.size
  · have hi2 : i < xs.length := by omega
    simp [hi, hi2]
  · have hi2 : ¬ i < xs.length := by omega
    simp [hi, hi2]
end Go.Proofs.YtfligfompdcddaaGreatDoor
