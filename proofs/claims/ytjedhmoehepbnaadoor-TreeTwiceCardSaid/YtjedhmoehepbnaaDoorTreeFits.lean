/- The contract of the law's 'fits'. -/
import Derived.Test.YtjedhmoehepbnaaDoorTreeCheckPath
import Derived.Deep.MidRow
namespace Go.Proofs.YtjedhmoehepbnaaDoor
open Go.RowKit Go.Sort
set_option linter.unusedVariables false
theorem headArr_zero (n : Int) (h : Tree.H) : (headArr n h)[0]? = some (.int .i64 n) := by rw [headArr_eq, Array.getElem?_append]; rfl
theorem headArr_succ (n : Int) (h : Tree.H) (k : Nat) : (headArr n h)[1 + k]? = (hashArr h)[k]? := by
  rw [headArr_eq, Array.getElem?_append, if_neg (by simp), show 1 + k - (#[Value.int IntKind.i64 n]).size = k by simp]
theorem head_int {w : World} {g : Nat} {n : Int} {h : Tree.H} (hg : w.heap[g]? = some (.cells (headArr n h) 36 (0, 0))) : w.cell? ⟨g, 0, none⟩ = some (.int .i64 n) :=
  (cell_of_row _ _ 0 _ _ _ hg).trans (headArr_zero n h)
theorem head_hash {w : World} {g : Nat} {n : Int} {h : Tree.H} (hg : w.heap[g]? = some (.cells (headArr n h) 36 (0, 0))) : w.rangeAt g 1 (hashArr h).toList := by
  intro j v hv
  rw [Array.getElem?_toList] at hv
  exact (cell_of_row _ _ (1 + j) _ _ _ hg).trans ((headArr_succ n h j).trans hv)
theorem hash_infoL (h : Tree.H) (hl : h.length = 32) : (Tryd.prog.info? 24).map (·.size) = some (hashArr h).toList.length := by
  have := hash_info h hl; rw [Array.length_toList]; exact this
set_option maxHeartbeats 1000000 in
set_option maxRecDepth 100000 in
theorem fits_any (size n : Int) (r : Tree.H) (s : ByteArray) (v : Value) (b : Bool) (w : World) (hr : r.length = 32)
    (C : ∀ W, Below w.heap.size w W → Calls Tryd.prog 41 #[.int .i64 size, .agg (hashArr r), .int .i64 n, .string s, v] W fun e w' => e = .returned (.bool b) ∧ Below W.heap.size W w') :
    Calls Tryd.prog 21 #[.agg (headArr size r), .int .i64 n, .string s, v] w fun e w' => e = .returned (.bool b) ∧ Below w.heap.size w w' := by
  have b0 : Below w.heap.size w (w.alloc (.cells (headArr size r) 36)) := (Below.refl _ _).alloc (Nat.le_refl _) _
  have h0 := heap_alloc_new w (.cells (headArr size r) 36)
  have hI := head_int h0
  have HH := Lib.hid (head_hash h0)
  have CC := Lib.hid (C _ b0)
  have B0 := Lib.hid b0
  have LI := Lib.hid (hash_infoL r hr)
  clear C b0 h0 hr
  go_enter Tryd.func21, Tryd.ntmps21
  go_wp2_with ((with_reducible refine op_is ⟨some 12, .load 24 (.tmp 11), _, _, _, _⟩ ?_); refine wpList_load_mid rfl 24 (.tmp 11) rfl w.heap.size 1 rfl (hashArr r).toList _ HH.out Tryd.underlying24 rfl LI.out ?_; rw [Array.toArray_toList])
  refine CC.out.mono ?_
  rintro ed w1 ⟨rfl, hb1⟩
  go_wp2_with fail
  go_ret
  exact ⟨rfl, below_join B0.out hb1⟩
end Go.Proofs.YtjedhmoehepbnaaDoor
