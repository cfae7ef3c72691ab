/- The walk of the law DigestChains. -/
import Derived.Test.YtkebipklcpplaaaDoorLengthsWalk
import Derived.Test.YtkebipklcpplaaaDoorRefText
namespace Go.Proofs.YtkebipklcpplaaaDoor
open Go.RowKit
set_option linter.unusedVariables false

set_option maxHeartbeats 1000000 in
set_option maxRecDepth 100000 in
theorem walk_DigestChains (s : ByteArray) (many : Int) (hs : s.size ≤ maxLen) (hm : (Lit.int .i64 many).wf = true) (w : World) (hT : Tabs w) :
    Calls Tryd.prog 5 #[.string s, .int .i64 many] w fun e w' => e = .returned (.bool true) ∧ Below w.heap.size w w' := by
  have hn1 : -9223372036854775808 ≤ many ∧ many ≤ 9223372036854775807 := by simpa [Lit.wf, IntKind.min, IntKind.max, IntKind.signed, IntKind.bits] using hm
  clear hm
  unfold maxLen at hs
  have HT := Lib.hid hT
  clear hT
  go_enter Tryd.func5, Tryd.ntmps5
  go_wp2_with fail
  refine (sanity3_any _ HT.out).mono ?_
  rintro e w1 ⟨rfl, hb1⟩
  have HT1 := Lib.hid (HT.out.below hb1)
  go_wp2_with fail
  have hx : (s.extract 0 (min (s.size : Int) 100).toNat).size ≤ 100 := by simp; omega
  generalize s.extract 0 (min (s.size : Int) 100).toNat = x at *
  go_loopw [6, 7, 8] (fun t u i wr => ∃ (k : Nat) (y : ByteArray), k ≤ 20 ∧ y.size ≤ 100 ∧ i = .int .i64 k ∧ t = .string y ∧ u = .string y ∧ Below w1.heap.size w1 wr) (fun _ _ i _ => 20 - (intOf i).toNat)
  case atStart => exact ⟨0, x, by omega, hx, rfl, rfl, rfl, Below.refl _ _⟩
  case round =>
    obtain ⟨k, y, hk, hy, rfl, rfl, rfl, hbr⟩ := hrel
    have HTr := Lib.hid (HT1.out.below hbr)
    by_cases hlt : (k : Int) < many % 20
    · obtain ⟨h, eh, lh⟩ := some_sum y
      have EH := Lib.hid eh
      have LH := Lib.hid lh
      clear eh lh
      obtain ⟨t, et⟩ : ∃ t : ByteArray, (⟨(Sha.text h).toArray⟩ : ByteArray) = t := ⟨_, rfl⟩
      have ht : t.size ≤ 100 := by
        rw [← et]; show (Sha.text h).toArray.size ≤ 100
        simp [text_length, LH.out]
      go_wp2_with fail
      refine (mod_any _ _ _ (by omega) (by omega) (by omega) (by omega)).mono ?_
      rintro e w' ⟨rfl, rfl⟩
      go_wp2_with fail
      refine (sum_is y h _ (by omega) HTr.out EH.out).mono ?_
      rintro e w2 ⟨rfl, hb2⟩
      go_wp2_with fail
      refine (text_any h LH.out _).mono ?_
      rintro e w3 ⟨rfl, hb3⟩
      rw [et]
      go_wp2_with fail
      refine (rsum_is y h _ (by omega) EH.out).mono ?_
      rintro e w4 ⟨rfl, hb4⟩
      go_wp2_with fail
      refine (rtext_any h LH.out _).mono ?_
      rintro e w5 ⟨rfl, hb5⟩
      rw [et]
      go_wp2_with fail
      go_roundw
      case rel => exact ⟨k + 1, t, by omega, ht, by go_num, rfl, rfl, below_join hbr (below_join (below_join (below_join hb2 hb3) hb4) hb5)⟩
      case measure => simp [intOf]; omega
    · go_wp2_with fail
      refine (mod_any _ _ _ (by omega) (by omega) (by omega) (by omega)).mono ?_
      rintro e w' ⟨rfl, rfl⟩
      go_wp2_with fail
      go_ret
      exact ⟨by first | rfl | exact ret_bool (by simp), below_join hb1 hbr⟩
end Go.Proofs.YtkebipklcpplaaaDoor
