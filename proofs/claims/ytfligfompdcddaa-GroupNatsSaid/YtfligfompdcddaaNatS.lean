/- Contracts of the reference's numbers: small, and Quo in its small way. -/
import Derived.Test.YtfligfompdcddaaNatC
namespace Go.Proofs.Ytfligfompdcddaa
open Go.RowKit Go.Sort
set_option linter.unusedVariables false
set_option maxHeartbeats 1000000 in
theorem small_yes (s : ByteArray) (n k : Nat) (w : World) (hs : s.size ≤ maxLen) (h : Nb.val s.data.toList = n) (hk : k ≤ 7) (hn : n < 256 ^ k) :
    Calls Try.prog 17 #[.string s, .int .i64 k] w fun e w' => e = .returned (.tuple #[.int .i64 n, .bool true]) ∧ w' = w := by
  have hn7 : n < 256 ^ 7 := Nat.lt_of_lt_of_le hn (Nat.pow_le_pow_right (by omega) hk)
  have CC := Lib.hid (canon_num s n w hs h)
  have CI := Lib.hid (int_yes s n w hs h (by omega))
  have hl := (Nb.enc_length_le n k).2 hn
  obtain ⟨b, hb⟩ : ∃ b, bstr (Nb.enc n) = b := ⟨_, rfl⟩
  have hbs : b.size = (Nb.enc n).length := by rw [← hb, bstr_size]
  rw [hb] at CC
  have d1 : decide ((k : Int) < (b.size : Int)) = false := by simp; omega
  have d1' : decide (k < b.size) = false := by simp; omega
  have b8 : b.size ≤ 9223372036854775807 := by omega
  clear hl hb hbs h hn hn7 hk
  go_enter Try.func17, Try.ntmps17
  go_wp2_with fail
  refine CC.out.mono ?_
  rintro e w' ⟨rfl, rfl⟩
  go_wp2_with fail
  refine CI.out.mono ?_
  rintro e w' ⟨rfl, rfl⟩
  go_wp2_with fail
  go_ret2
  exact ⟨rfl, rfl⟩
set_option maxHeartbeats 1000000 in
theorem small_no (s : ByteArray) (n k : Nat) (w : World) (hs : s.size ≤ maxLen) (h : Nb.val s.data.toList = n) (hk : k ≤ 7) (hn : 256 ^ k ≤ n) :
    Calls Try.prog 17 #[.string s, .int .i64 k] w fun e w' => e = .returned (.tuple #[.int .i64 0, .bool false]) ∧ w' = w := by
  have CC := Lib.hid (canon_num s n w hs h)
  have hl : ¬ (Nb.enc n).length ≤ k := fun e => by have := (Nb.enc_length_le n k).1 e; omega
  obtain ⟨b, hb⟩ : ∃ b, bstr (Nb.enc n) = b := ⟨_, rfl⟩
  have hbs : b.size = (Nb.enc n).length := by rw [← hb, bstr_size]
  rw [hb] at CC
  have d1 : decide ((k : Int) < (b.size : Int)) = true := by simp; omega
  have d1' : decide (k < b.size) = true := by simp; omega
  clear hl hb hbs h hn hk
  go_enter Try.func17, Try.ntmps17
  go_wp2_with fail
  refine CC.out.mono ?_
  rintro e w' ⟨rfl, rfl⟩
  go_wp2_with fail
  go_ret2
  exact ⟨rfl, rfl⟩
theorem of_int (z : Int) (n : Nat) (w : World) (hz : z = n) (hn : n < 9223372036854775808) : Calls Try.prog 5 #[.int .i64 z] w fun e w' => e = .returned (.string (bstr (Nb.enc n))) ∧ Below w.heap.size w w' := by
  rw [hz]; exact of_any n w hn
theorem str_size (n k : Nat) (hn : n < 256 ^ k) : (bstr (Nb.enc n)).size ≤ k := by rw [bstr_size]; exact (Nb.enc_length_le n k).2 hn
/-- a division goes as it should -/
def QuoOk (a b : Nat) : Prop := ∀ w, Calls Try.prog 6 #[.string (bstr (Nb.enc a)), .string (bstr (Nb.enc b))] w fun e w' => e = .returned (.tuple #[.string (bstr (Nb.enc (a / b))), .string (bstr (Nb.enc (a % b))), .bool true]) ∧ Below w.heap.size w w'
set_option maxHeartbeats 2000000 in
theorem quo_small (a b : Nat) (ha : a < 256 ^ 7) (hb : b < 256 ^ 7) (h0 : b ≠ 0) : QuoOk a b := by
  intro w
  have sa := str_size a 7 ha
  have sb := str_size b 7 hb
  have C0 := Lib.hid (canon_num _ b w (by unfold maxLen; omega) (val_str b))
  have C1 := Lib.hid (small_yes _ a 7 w (by unfold maxLen; omega) (val_str a) (Nat.le_refl _) ha)
  have C2 := Lib.hid (small_yes _ b 7 w (by unfold maxLen; omega) (val_str b) (Nat.le_refl _) hb)
  have hd : a / b < 9223372036854775808 := Nat.lt_of_le_of_lt (Nat.div_le_self _ _) (by omega)
  have hm : a % b < 9223372036854775808 := Nat.lt_of_le_of_lt (Nat.mod_le _ _) (by omega)
  have C3 : Hid (∀ V, Calls Try.prog 5 #[.int .i64 ((a : Int) / (b : Int))] V fun e w' => e = .returned (.string (bstr (Nb.enc (a / b)))) ∧ Below V.heap.size V w') := fun V => of_int _ (a / b) V (by simp) hd
  have C4 : Hid (∀ V, Calls Try.prog 5 #[.int .i64 ((a : Int) % (b : Int))] V fun e w' => e = .returned (.string (bstr (Nb.enc (a % b)))) ∧ Below V.heap.size V w') := fun V => of_int _ (a % b) V (by simp) hm
  have nb : (bstr (Nb.enc b)).size ≠ 0 := by
    rw [bstr_size]
    intro e
    have : Nb.enc b = [] := List.eq_nil_of_length_eq_zero e
    have h1 := Nb.val_enc b
    rw [this] at h1
    exact h0 h1.symm
  generalize bstr (Nb.enc a) = A at *
  generalize bstr (Nb.enc b) = B at *
  generalize bstr (Nb.enc (a / b)) = R1 at *
  generalize bstr (Nb.enc (a % b)) = R2 at *
  have e0 : (B.size == 0) = false := beq_eq_false_iff_ne.2 nb
  have e1 : ((B.size : Int) == 0) = false := beq_eq_false_iff_ne.2 (by omega)
  have q0 : 0 ≤ (a : Int) / (b : Int) := Int.ediv_nonneg (by omega) (by omega)
  have q1 : (a : Int) / (b : Int) ≤ 72057594037927936 := by have := Int.ediv_le_self (b : Int) (show 0 ≤ (a : Int) by omega); omega
  have m0 : 0 ≤ (a : Int) % (b : Int) := Int.emod_nonneg _ (by omega)
  have m1 : (a : Int) % (b : Int) ≤ 72057594037927936 := by have := Int.emod_lt_of_pos (a : Int) (show 0 < (b : Int) by omega); omega
  have bz : ¬ (b : Int) = 0 := by omega
  have b1 : (1 : Int) ≤ (b : Int) := by omega
  have a0 : (0 : Int) ≤ (a : Int) := by omega
  clear sa sb ha hb nb hd hm h0
  go_enter Try.func6, Try.ntmps6
  go_wp2_with fail
  refine C0.out.mono ?_
  rintro e w' ⟨rfl, rfl⟩
  go_wp2_with fail
  refine C1.out.mono ?_
  rintro e w' ⟨rfl, rfl⟩
  go_wp2_with fail
  refine C2.out.mono ?_
  rintro e w' ⟨rfl, rfl⟩
  go_wp2_with fail
  refine wp_region_quiet_below (by kernel_rfl) (by kernel_rfl) ?_
  repeat (go_big_quiet_step (first | (with_reducible exact Calls.regrown_of (C3.out _)) | (with_reducible exact Calls.regrown_of (C4.out _))))
  refine wpQuiet_nil ?_
  intro _ hw'
  obtain ⟨⟨dq, osq⟩, hw''⟩ := hw'
  subst hw''
  have HB := Lib.hid (below_regrown w' dq osq)
  go_wp2_with fail
  go_ret3
  exact ⟨rfl, HB.out⟩
end Go.Proofs.Ytfligfompdcddaa
