/- The contract of sortesref03.rounds. -/
import Derived.Test.YtkebipklcpplaaaDoorMix
import Derived.Deep.WholeRow
import Derived.Laws.CopyOwn
namespace Go.Proofs.YtkebipklcpplaaaDoor
open Go.RowKit
set_option linter.unusedVariables false

def ksArr : Array Value := (Sha.ks.map fun (k : Nat) => Value.int .u32 (k : Int)).toArray

set_option maxHeartbeats 1000000 in
set_option maxRecDepth 100000 in
theorem rounds_any (w : World) : Calls Tryd.prog 61 #[] w fun e w' => e = .returned (.agg ksArr) ∧ Below w.heap.size w w' := by
  go_enter Tryd.func61, Tryd.ntmps61
  go_wp2_with (refine wpList_store_row rfl 66 (.tmp 0) (.tmp 1) rfl w.heap.size ksArr rfl (by kernel_rfl) 66 _ (heap_alloc_new _ _) (by kernel_rfl) rfl (by kernel_rfl) ?_)
  refine bodyPost_ret (v := .agg ksArr) (results_cell_row Tryd.results61 _ _ w.heap.size 66 ksArr (0, 0) _ rfl (setRow_heap _ _ _ _ _ _ (heap_alloc_new _ _)) Tryd.underlying66 rfl (by kernel_rfl)) rfl ⟨rfl, ?_⟩
  exact below_setRow ((Below.refl _ _).alloc (Nat.le_refl _) _) (Nat.le_refl _) _
end Go.Proofs.YtkebipklcpplaaaDoor
