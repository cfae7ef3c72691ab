/- The contract of the sanity of the laws of layer 3. -/
import Derived.Test.YtkebipklcpplaaaDoorSum
import Derived.Test.YtkebipklcpplaaaDoorText
import Derived.Test.YtkebipklcpplaaaDoorShaEval
namespace Go.Proofs.YtkebipklcpplaaaDoor
open Go.RowKit
set_option linter.unusedVariables false
theorem sum_is (s : ByteArray) (h : List UInt8) (w : World) (hs : s.size ≤ 140737488355000) (hT : Tabs w) (hh : Sha.sum s.data.toList = h) :
    Calls Tryd.prog 16 #[.string s] w fun e w' => e = .returned (.agg (hashArr h)) ∧ Below w.heap.size w w' := by
  rw [← hh]; exact sum_any s w hs hT

set_option maxHeartbeats 1000000 in
set_option maxRecDepth 100000 in
theorem sanity3_any (w : World) (hT : Tabs w) : Calls Tryd.prog 15 #[] w fun e w' => e = .returned (.bool true) ∧ Below w.heap.size w w' := by
  have HT := Lib.hid hT
  clear hT
  obtain ⟨h0, e0, l0, t0⟩ := Sha.some_empty
  obtain ⟨h1, e1, l1, t1⟩ := Sha.some_abc
  have E0 := Lib.hid e0
  have E1 := Lib.hid e1
  have L0 := Lib.hid l0
  have L1 := Lib.hid l1
  have T0 := Lib.hid t0
  have T1 := Lib.hid t1
  clear e0 e1 l0 l1 t0 t1
  go_enter Tryd.func15, Tryd.ntmps15
  go_wp2_with fail
  refine (sum_is _ h0 _ (by show 0 ≤ _; omega) HT.out E0.out).mono ?_
  rintro e w1 ⟨rfl, hb1⟩
  have HT1 := Lib.hid (HT.out.below hb1)
  go_wp2_with fail
  refine (text_any h0 L0.out _).mono ?_
  rintro e w2 ⟨rfl, hb2⟩
  have HT2 := Lib.hid (HT1.out.below hb2)
  rw [T0.out]
  go_wp2_with fail
  refine (sum_is _ h1 _ (by show 3 ≤ _; omega) HT2.out E1.out).mono ?_
  rintro e w3 ⟨rfl, hb3⟩
  go_wp2_with fail
  refine (text_any h1 L1.out _).mono ?_
  rintro e w4 ⟨rfl, hb4⟩
  rw [T1.out]
  go_wp2_with fail
  go_ret
  exact ⟨rfl, below_join (below_join (below_join hb1 hb2) hb3) hb4⟩
end Go.Proofs.YtkebipklcpplaaaDoor
