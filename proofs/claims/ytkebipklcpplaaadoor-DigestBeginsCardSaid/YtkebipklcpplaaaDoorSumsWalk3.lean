/- The walk of the law DigestSums. -/
import Derived.Test.YtkebipklcpplaaaDoorSanity3
import Derived.Test.YtkebipklcpplaaaDoorRefSum
namespace Go.Proofs.YtkebipklcpplaaaDoor
open Go.RowKit
set_option linter.unusedVariables false
theorem rsum_is (s : ByteArray) (h : List UInt8) (w : World) (hs : s.size ≤ 140737488355000) (hh : Sha.sum s.data.toList = h) :
    Calls Tryd.prog 17 #[.string s] w fun e w' => e = .returned (.agg (hashArr h)) ∧ Below w.heap.size w w' := by
  rw [← hh]; exact rsum_any s w hs
/-- a hash, its length and that it is equal to itself -/
theorem some_sum (s : ByteArray) : ∃ h : List UInt8, Sha.sum s.data.toList = h ∧ h.length = 32 := ⟨_, rfl, Sha.sum_length _⟩

set_option maxHeartbeats 1000000 in
set_option maxRecDepth 100000 in
theorem walk_DigestSums (s : ByteArray) (hs : s.size ≤ maxLen) (w : World) (hT : Tabs w) :
    Calls Tryd.prog 3 #[.string s] w fun e w' => e = .returned (.bool true) ∧ Below w.heap.size w w' := by
  unfold maxLen at hs
  have HT := Lib.hid hT
  clear hT
  go_enter Tryd.func3, Tryd.ntmps3
  go_wp2_with fail
  refine (sanity3_any _ HT.out).mono ?_
  rintro e w1 ⟨rfl, hb1⟩
  have HT1 := Lib.hid (HT.out.below hb1)
  go_wp2_with fail
  have hx : (s.extract 0 (min (s.size : Int) 500).toNat).size ≤ 500 := by simp; omega
  generalize s.extract 0 (min (s.size : Int) 500).toNat = x at *
  obtain ⟨h, eh, lh⟩ := some_sum x
  have EH := Lib.hid eh
  have heq := fun W => hash_eql h h lh lh W
  clear eh lh
  refine (sum_is x h _ (by omega) HT1.out EH.out).mono ?_
  rintro e w2 ⟨rfl, hb2⟩
  go_wp2_with fail
  refine (rsum_is x h _ (by omega) EH.out).mono ?_
  rintro e w3 ⟨rfl, hb3⟩
  go_wp2_with fail
  go_ret
  exact ⟨ret_bool (by simp), below_join (below_join hb1 hb2) hb3⟩
end Go.Proofs.YtkebipklcpplaaaDoor
