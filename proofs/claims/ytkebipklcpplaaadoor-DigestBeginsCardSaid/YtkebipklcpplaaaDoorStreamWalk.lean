/- The walk of the law DigestStream. -/
import Derived.Test.YtkebipklcpplaaaDoorRefStream
namespace Go.Proofs.YtkebipklcpplaaaDoor
open Go.RowKit Go.Sort
set_option linter.unusedVariables false
set_option maxHeartbeats 1000000 in
theorem stream_no (x : ByteArray) (n : Int) (w : World) (h : n < 1 ∨ 1048576 < n) :
    Calls Tryd.prog 26 #[.string x, .int .i64 n] w fun e w' => e = .returned (.string ⟨#[]⟩) ∧ Below w.heap.size w w' := by
  by_cases h1 : n < 1
  · have d1 : decide (n < 1) = true := by simp; omega
    go_enter Tryd.func26, Tryd.ntmps26
    go_wp2_with fail
    go_ret
    exact ⟨rfl, Below.refl _ _⟩
  · have d1 : decide (n < 1) = false := by simp; omega
    have d2 : decide (1048576 < n) = true := by simp; omega
    go_enter Tryd.func26, Tryd.ntmps26
    go_wp2_with fail
    go_ret
    exact ⟨rfl, Below.refl _ _⟩
set_option maxHeartbeats 1000000 in
theorem rstream_no (x : ByteArray) (w : World) :
    Calls Tryd.prog 27 #[.string x, .int .i64 0] w fun e w' => e = .returned (.string ⟨#[]⟩) ∧ Below w.heap.size w w' := by
  go_enter Tryd.func27, Tryd.ntmps27
  go_wp2_with fail
  go_ret
  exact ⟨rfl, Below.refl _ _⟩
theorem streams_agree (x : ByteArray) (a : Nat) (hx : x.size ≤ 1000) (ha : a ≤ 400) : ∃ s : ByteArray, (∀ W, Tabs W → Calls Tryd.prog 26 #[.string x, .int .i64 (a : Int)] W fun e w' => e = .returned (.string s) ∧ Below W.heap.size W w') ∧
    (∀ W, Calls Tryd.prog 27 #[.string x, .int .i64 (a : Int)] W fun e w' => e = .returned (.string s) ∧ Below W.heap.size W w') ∧ s = ⟨(Sha.stream x.data.toList a).toArray⟩ := by
  by_cases h : a = 0
  · subst h
    exact ⟨⟨#[]⟩, fun W _ => stream_no x 0 W (.inl (by omega)), fun W => rstream_no x W, rfl⟩
  · exact ⟨_, fun W hT => stream_any x a W hx (by omega) ha hT, fun W => rstream_any x a W hx (by omega) ha, rfl⟩
set_option maxHeartbeats 1000000 in
set_option maxRecDepth 100000 in
theorem walk_DigestStream (s : ByteArray) (n : Int) (hn : (Lit.int .i64 n).wf = true) (w : World) (hT : Tabs w) :
    Calls Tryd.prog 11 #[.string s, .int .i64 n] w fun e w' => e = .returned (.bool true) ∧ Below w.heap.size w w' := by
  have hn1 : -9223372036854775808 ≤ n ∧ n ≤ 9223372036854775807 := by simpa [Lit.wf, IntKind.min, IntKind.max, IntKind.signed, IntKind.bits] using hn
  clear hn
  have HT := Lib.hid hT
  clear hT
  go_enter Tryd.func11, Tryd.ntmps11
  go_wp2_with fail
  refine (sanity3_any _ HT.out).mono ?_
  rintro e w1 ⟨rfl, hb1⟩
  have HT1 := Lib.hid (HT.out.below hb1)
  have B1 := Lib.hid hb1
  clear hb1 HT
  have hx : (s.extract 0 (min (s.size : Int) 100).toNat).size ≤ 100 := by simp; omega
  go_wp2_with fail
  generalize s.extract 0 (min (s.size : Int) 100).toNat = x at *
  refine (mod_any _ _ _ (by omega) (by omega) (by omega) (by omega)).mono ?_
  rintro e w' ⟨rfl, rfl⟩
  obtain ⟨a, ha⟩ := Int.eq_ofNat_of_zero_le (show 0 ≤ n % 300 by omega)
  have ha2 : a < 300 := by omega
  rw [ha]
  clear ha
  obtain ⟨str, CA, CB, _⟩ := streams_agree x a (by omega) (by omega)
  have eqs : (str.toList == str.toList) = true := by simp
  have HA := Lib.hid CA
  have HB := Lib.hid CB
  clear CA CB
  have fin : ∀ (raw : Bool), (raw = true → n < 1 ∨ 1048576 < n) → True := fun _ _ => trivial
  clear fin
  by_cases h1 : n < 1
  · have d1 : decide (n < 1) = true := by simp; omega
    have CN := Lib.hid (fun W => stream_no x n W (.inl h1))
    clear h1
    go_wp2_with fail
    refine (HA.out _ HT1.out).mono ?_
    rintro e w2 ⟨rfl, hb2⟩
    have B2 := Lib.hid (below_join B1.out hb2)
    clear hb2 B1
    go_wp2_with fail
    refine (HB.out _).mono ?_
    rintro e w3 ⟨rfl, hb3⟩
    have B3 := Lib.hid (below_join B2.out hb3)
    clear hb3 B2
    go_wp2_with fail
    refine (CN.out _).mono ?_
    rintro e w4 ⟨rfl, hb4⟩
    have B4 := Lib.hid (below_join B3.out hb4)
    clear hb4 B3
    go_wp2_with fail
    go_ret
    exact ⟨rfl, B4.out⟩
  · have d1 : decide (n < 1) = false := by simp; omega
    by_cases h2 : 1048576 < n
    · have d2 : decide (1048576 < n) = true := by simp; omega
      have CN := Lib.hid (fun W => stream_no x n W (.inr h2))
      clear h1 h2
      go_wp2_with fail
      refine (HA.out _ HT1.out).mono ?_
      rintro e w2 ⟨rfl, hb2⟩
      have B2 := Lib.hid (below_join B1.out hb2)
      clear hb2 B1
      go_wp2_with fail
      refine (HB.out _).mono ?_
      rintro e w3 ⟨rfl, hb3⟩
      have B3 := Lib.hid (below_join B2.out hb3)
      clear hb3 B2
      go_wp2_with fail
      refine (CN.out _).mono ?_
      rintro e w4 ⟨rfl, hb4⟩
      have B4 := Lib.hid (below_join B3.out hb4)
      clear hb4 B3
      go_wp2_with fail
      go_ret
      exact ⟨rfl, B4.out⟩
    · have d2 : decide (1048576 < n) = false := by simp; omega
      clear h1 h2
      go_wp2_with fail
      refine (HA.out _ HT1.out).mono ?_
      rintro e w2 ⟨rfl, hb2⟩
      have B2 := Lib.hid (below_join B1.out hb2)
      clear hb2 B1
      go_wp2_with fail
      refine (HB.out _).mono ?_
      rintro e w3 ⟨rfl, hb3⟩
      have B3 := Lib.hid (below_join B2.out hb3)
      clear hb3 B2
      go_wp2_with fail
      go_ret
      exact ⟨rfl, B3.out⟩
end Go.Proofs.YtkebipklcpplaaaDoor
