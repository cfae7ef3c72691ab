/- Contracts of the reference's numbers: small, Add and Quo in their small ways, Text and Decimal. -/
import Derived.Test.YtfligfompdcddaaGreatDoorNatC
namespace Go.Proofs.YtfligfompdcddaaGreatDoor
open Go.RowKit Go.Sort
set_option linter.unusedVariables false
set_option maxHeartbeats 1000000 in
theorem small_yes (s : ByteArray) (n k : Nat) (w : World) (hs : s.size ≤ maxLen) (h : Nb.val s.data.toList = n) (hk : k ≤ 7) (hn : n < 256 ^ k) :
    Calls Tryz.prog 72 #[.string s, .int .i64 k] w fun e w' => e = .returned (.tuple #[.int .i64 n, .bool true]) ∧ w' = w := by
  have hn7 : n < 256 ^ 7 := Nat.lt_of_lt_of_le hn (Nat.pow_le_pow_right (by omega) hk)
  have CC := Lib.hid (canon_num s n w hs h)
  have CI := Lib.hid (int_yes s n w hs h (by omega))
  have hl := (Nb.enc_length_le n k).2 hn
  obtain ⟨b, hb⟩ : ∃ b, bstr (Nb.enc n) = b := ⟨_, rfl⟩
  have hbs : b.size = (Nb.enc n).length := by rw [← hb, bstr_size]
  rw [hb] at CC
  have d1 : decide ((k : Int) < (b.size : Int)) = false := by simp; omega
  have d1' : decide (k < b.size) = false := by simp; omega
  have b8 : b.size ≤ 9223372036854775807 := by omega
  clear hl hb hbs h hn hn7 hk
  go_enter Tryz.func72, Tryz.ntmps72
  go_wp2_with fail
  refine CC.out.mono ?_
  rintro e w' ⟨rfl, rfl⟩
  go_wp2_with fail
  refine CI.out.mono ?_
  rintro e w' ⟨rfl, rfl⟩
  go_wp2_with fail
  go_ret2
  exact ⟨rfl, rfl⟩
set_option maxHeartbeats 1000000 in
theorem small_no (s : ByteArray) (n k : Nat) (w : World) (hs : s.size ≤ maxLen) (h : Nb.val s.data.toList = n) (hk : k ≤ 7) (hn : 256 ^ k ≤ n) :
    Calls Tryz.prog 72 #[.string s, .int .i64 k] w fun e w' => e = .returned (.tuple #[.int .i64 0, .bool false]) ∧ w' = w := by
  have CC := Lib.hid (canon_num s n w hs h)
  have hl : ¬ (Nb.enc n).length ≤ k := fun e => by have := (Nb.enc_length_le n k).1 e; omega
  obtain ⟨b, hb⟩ : ∃ b, bstr (Nb.enc n) = b := ⟨_, rfl⟩
  have hbs : b.size = (Nb.enc n).length := by rw [← hb, bstr_size]
  rw [hb] at CC
  have d1 : decide ((k : Int) < (b.size : Int)) = true := by simp; omega
  have d1' : decide (k < b.size) = true := by simp; omega
  clear hl hb hbs h hn hk
  go_enter Tryz.func72, Tryz.ntmps72
  go_wp2_with fail
  refine CC.out.mono ?_
  rintro e w' ⟨rfl, rfl⟩
  go_wp2_with fail
  go_ret2
  exact ⟨rfl, rfl⟩
theorem of_int (z : Int) (n : Nat) (w : World) (hz : z = n) (hn : n < 9223372036854775808) : Calls Tryz.prog 58 #[.int .i64 z] w fun e w' => e = .returned (.string (bstr (Nb.enc n))) ∧ Below w.heap.size w w' := by
  rw [hz]; exact of_any n w hn
theorem str_size (n k : Nat) (hn : n < 256 ^ k) : (bstr (Nb.enc n)).size ≤ k := by rw [bstr_size]; exact (Nb.enc_length_le n k).2 hn
set_option maxHeartbeats 1000000 in
theorem add_small (a b : Nat) (w : World) (ha : a < 256 ^ 7) (hb : b < 256 ^ 7) : Calls Tryz.prog 59 #[.string (bstr (Nb.enc a)), .string (bstr (Nb.enc b))] w fun e w' => e = .returned (.string (bstr (Nb.enc (a + b)))) ∧ Below w.heap.size w w' := by
  have sa := str_size a 7 ha
  have sb := str_size b 7 hb
  have C1 := Lib.hid (small_yes _ a 7 w (by unfold maxLen; omega) (val_str a) (Nat.le_refl _) ha)
  have C2 := Lib.hid (small_yes _ b 7 w (by unfold maxLen; omega) (val_str b) (Nat.le_refl _) hb)
  have C3 := Lib.hid (of_int ((a : Int) + (b : Int)) (a + b) w (by simp) (by omega))
  generalize bstr (Nb.enc a) = A at *
  generalize bstr (Nb.enc b) = B at *
  generalize bstr (Nb.enc (a + b)) = R at *
  have a1 : (a : Int) ≤ 72057594037927936 := by omega
  have b1 : (b : Int) ≤ 72057594037927936 := by omega
  clear sa sb ha hb
  go_enter Tryz.func59, Tryz.ntmps59
  go_wp2_with fail
  refine C1.out.mono ?_
  rintro e w' ⟨rfl, rfl⟩
  go_wp2_with fail
  refine C2.out.mono ?_
  rintro e w' ⟨rfl, rfl⟩
  go_wp2_with fail
  refine C3.out.mono ?_
  rintro e w' ⟨rfl, hb⟩
  have HB := Lib.hid hb
  go_wp2_with fail
  go_ret
  exact ⟨rfl, HB.out⟩
/-- a division goes as it should -/
def QuoOk (a b : Nat) : Prop := ∀ w, Calls Tryz.prog 70 #[.string (bstr (Nb.enc a)), .string (bstr (Nb.enc b))] w fun e w' => e = .returned (.tuple #[.string (bstr (Nb.enc (a / b))), .string (bstr (Nb.enc (a % b))), .bool true]) ∧ Below w.heap.size w w'
set_option maxHeartbeats 2000000 in
theorem quo_small (a b : Nat) (ha : a < 256 ^ 7) (hb : b < 256 ^ 7) (h0 : b ≠ 0) : QuoOk a b := by
  intro w
  have sa := str_size a 7 ha
  have sb := str_size b 7 hb
  have C0 := Lib.hid (canon_num _ b w (by unfold maxLen; omega) (val_str b))
  have C1 := Lib.hid (small_yes _ a 7 w (by unfold maxLen; omega) (val_str a) (Nat.le_refl _) ha)
  have C2 := Lib.hid (small_yes _ b 7 w (by unfold maxLen; omega) (val_str b) (Nat.le_refl _) hb)
  have hd : a / b < 9223372036854775808 := Nat.lt_of_le_of_lt (Nat.div_le_self _ _) (by omega)
  have hm : a % b < 9223372036854775808 := Nat.lt_of_le_of_lt (Nat.mod_le _ _) (by omega)
  have C3 : Hid (∀ V, Calls Tryz.prog 58 #[.int .i64 ((a : Int) / (b : Int))] V fun e w' => e = .returned (.string (bstr (Nb.enc (a / b)))) ∧ Below V.heap.size V w') := fun V => of_int _ (a / b) V (by simp) hd
  have C4 : Hid (∀ V, Calls Tryz.prog 58 #[.int .i64 ((a : Int) % (b : Int))] V fun e w' => e = .returned (.string (bstr (Nb.enc (a % b)))) ∧ Below V.heap.size V w') := fun V => of_int _ (a % b) V (by simp) hm
  have nb : (bstr (Nb.enc b)).size ≠ 0 := by
    rw [bstr_size]
    intro e
    have : Nb.enc b = [] := List.eq_nil_of_length_eq_zero e
    have h1 := Nb.val_enc b
    rw [this] at h1
    exact h0 h1.symm
  generalize bstr (Nb.enc a) = A at *
  generalize bstr (Nb.enc b) = B at *
  generalize bstr (Nb.enc (a / b)) = R1 at *
  generalize bstr (Nb.enc (a % b)) = R2 at *
  have e0 : (B.size == 0) = false := beq_eq_false_iff_ne.2 nb
  have e1 : ((B.size : Int) == 0) = false := beq_eq_false_iff_ne.2 (by omega)
  have q0 : 0 ≤ (a : Int) / (b : Int) := Int.ediv_nonneg (by omega) (by omega)
  have q1 : (a : Int) / (b : Int) ≤ 72057594037927936 := by have := Int.ediv_le_self (b : Int) (show 0 ≤ (a : Int) by omega); omega
  have m0 : 0 ≤ (a : Int) % (b : Int) := Int.emod_nonneg _ (by omega)
  have m1 : (a : Int) % (b : Int) ≤ 72057594037927936 := by have := Int.emod_lt_of_pos (a : Int) (show 0 < (b : Int) by omega); omega
  have bz : ¬ (b : Int) = 0 := by omega
  have b1 : (1 : Int) ≤ (b : Int) := by omega
  have a0 : (0 : Int) ≤ (a : Int) := by omega
  clear sa sb ha hb nb hd hm h0
  go_enter Tryz.func70, Tryz.ntmps70
  go_wp2_with fail
  refine C0.out.mono ?_
  rintro e w' ⟨rfl, rfl⟩
  go_wp2_with fail
  refine C1.out.mono ?_
  rintro e w' ⟨rfl, rfl⟩
  go_wp2_with fail
  refine C2.out.mono ?_
  rintro e w' ⟨rfl, rfl⟩
  go_wp2_with fail
  refine wp_region_quiet_below (by kernel_rfl) (by kernel_rfl) ?_
  repeat (go_big_quiet_step (first | (with_reducible exact Calls.regrown_of (C3.out _)) | (with_reducible exact Calls.regrown_of (C4.out _))))
  refine wpQuiet_nil ?_
  intro _ hw'
  obtain ⟨⟨dq, osq⟩, hw''⟩ := hw'
  subst hw''
  have HB := Lib.hid (below_regrown w' dq osq)
  go_wp2_with fail
  go_ret3
  exact ⟨rfl, HB.out⟩
theorem digits_small {m : Nat} (h : m < 10) : Lib.decDigits m = [UInt8.ofNat (48 + m)] := by rw [Lib.decDigits, dif_pos h]
theorem digits_big {m : Nat} (h : ¬ m < 10) : Lib.decDigits m = Lib.decDigits (m / 10) ++ [UInt8.ofNat (48 + m % 10)] := by rw [Lib.decDigits, dif_neg h]
/-- what is left, and what is written -/
def TextInv (n m : Nat) (s : List UInt8) : Prop := (m = 0 ∧ s = Lib.decDigits n) ∨ (m ≠ 0 ∧ Lib.decDigits n = Lib.decDigits m ++ s)
theorem TextInv.step {n m : Nat} {s : List UInt8} (h : TextInv n m s) (h0 : m ≠ 0) : TextInv n (m / 10) (UInt8.ofNat (48 + m % 10) :: s) := by
  rcases h with ⟨e, _⟩ | ⟨_, h⟩
  · exact absurd e h0
  · by_cases hm : m < 10
    · left
      refine ⟨by omega, ?_⟩
      rw [h, digits_small hm, Nat.mod_eq_of_lt hm]; rfl
    · right
      refine ⟨by omega, ?_⟩
      rw [h, digits_big hm]; simp
theorem TextInv.length {n m : Nat} {s : List UInt8} (h : TextInv n m s) : s.length ≤ (Lib.decDigits n).length := by
  rcases h with ⟨_, rfl⟩ | ⟨_, h⟩
  · exact Nat.le_refl _
  · rw [h, List.length_append]; omega
theorem enc_size_zero (m : Nat) (h : m ≠ 0) : (bstr (Nb.enc m)).size ≠ 0 := by
  rw [bstr_size]
  intro e
  have : Nb.enc m = [] := List.eq_nil_of_length_eq_zero e
  have h1 := Nb.val_enc m
  rw [this] at h1
  exact h h1.symm
set_option maxHeartbeats 4000000 in
set_option maxRecDepth 100000 in
theorem text_of (n : Nat) (w : World) (hs : (bstr (Nb.enc n)).size ≤ maxLen) (hl : (Lib.decDigits n).length ≤ 1000) (hq : ∀ m, m ≤ n → m ≠ 0 → QuoOk m 10) :
    Calls Tryz.prog 57 #[.string (bstr (Nb.enc n))] w fun e w' => e = .returned (.string (bstr (Lib.decDigits n))) ∧ Below w.heap.size w w' := by
  have C0 := Lib.hid (canon_num _ n w hs (val_str n))
  have HQ := Lib.hid hq
  have HL := Lib.hid hl
  clear hs hq hl
  by_cases h0 : n = 0
  · subst h0
    have en : bstr (Nb.enc 0) = ⟨#[]⟩ := by rw [Nb.enc_zero]; rfl
    have ED : Hid (bstr (Lib.decDigits 0) = ⟨#[48]⟩) := by show _ = _; rw [digits_small (by omega)]; rfl
    rw [en] at C0 ⊢
    clear en
    go_enter Tryz.func57, Tryz.ntmps57
    go_wp2_with fail
    refine C0.out.mono ?_
    rintro e w' ⟨rfl, rfl⟩
    go_wp2_with fail
    go_ret
    exact ⟨by rw [ED.out]; rfl, Below.refl _ _⟩
  · have nb := enc_size_zero n h0
    have e0 : ((bstr (Nb.enc n)).size == 0) = false := beq_eq_false_iff_ne.2 nb
    have e1 : (((bstr (Nb.enc n)).size : Int) == 0) = false := beq_eq_false_iff_ne.2 (by omega)
    obtain ⟨A, hA⟩ : ∃ A, bstr (Nb.enc n) = A := ⟨_, rfl⟩
    have EA := Lib.hid hA
    have H0 := Lib.hid h0
    rw [hA] at C0 e0 e1 ⊢
    clear hA nb h0
    go_enter Tryz.func57, Tryz.ntmps57
    go_wp2_with fail
    refine C0.out.mono ?_
    rintro e w' ⟨rfl, rfl⟩
    go_wp2_with fail
    clear e0 e1
    go_loopg [0, 3] n (fun g1 av sv wr => ∃ (m : Nat) (s : List UInt8), m ≤ g1 ∧ m ≤ n ∧ av = .string (bstr (Nb.enc m)) ∧ sv = .string (bstr s) ∧ TextInv n m s ∧ Below w'.heap.size w' wr)
    case atStart => exact ⟨n, [], Nat.le_refl _, Nat.le_refl _, by rw [EA.out], rfl, .inr ⟨H0.out, by simp⟩, Below.refl _ _⟩
    case round =>
      obtain ⟨m, s, hg, hmn, rfl, rfl, hinv, hB⟩ := hrel
      have INV := Lib.hid hinv
      have HB := Lib.hid hB
      have sl : (bstr s).size ≤ 1000 := by rw [bstr_size]; exact Nat.le_trans hinv.length HL.out
      clear hinv hB
      by_cases hm : m = 0
      · subst hm
        have en : bstr (Nb.enc 0) = ⟨#[]⟩ := by rw [Nb.enc_zero]; rfl
        rw [en]
        have es : s = Lib.decDigits n := by
          rcases INV.out with ⟨_, h⟩ | ⟨h, _⟩
          · exact h
          · exact absurd rfl h
        have ES := Lib.hid es
        clear en es
        go_wp2_with fail
        go_ret
        exact ⟨by rw [← ES.out]; rfl, HB.out⟩
      · have nb := enc_size_zero m hm
        have e0 : decide (0 < (bstr (Nb.enc m)).size) = true := by simp; omega
        have e1 : decide ((0 : Int) < ((bstr (Nb.enc m)).size : Int)) = true := by simp; omega
        obtain ⟨B, hBB⟩ : ∃ B, bstr (Nb.enc m) = B := ⟨_, rfl⟩
        have CQ := Lib.hid (HQ.out m hmn hm)
        have C10 : Hid (∀ V, Calls Tryz.prog 58 #[.int .i64 10] V fun e w' => e = .returned (.string (bstr (Nb.enc 10))) ∧ Below V.heap.size V w') := fun V => of_int 10 10 V rfl (by omega)
        have EB := Lib.hid hBB
        have HM := Lib.hid hm
        rw [hBB] at e0 e1 ⊢
        have CI : Hid (∀ V, Calls Tryz.prog 71 #[.string (bstr (Nb.enc (m % 10)))] V fun e w' => e = .returned (.tuple #[.int .i64 ((m % 10 : Nat) : Int), .bool true]) ∧ w' = V) := fun V => int_yes _ (m % 10) V (by have := str_size (m % 10) 1 (by omega); unfold maxLen; omega) (val_str _) (by omega)
        obtain ⟨d, hd⟩ : ∃ d, m % 10 = d := ⟨_, rfl⟩
        have d9 : d ≤ 9 := by omega
        have HD := Lib.hid hd
        have hcv : ∀ u : World, (convert 66 9 (.slice (some ⟨u.heap.size, 0, none⟩) 1 1)).run Tryz.prog (u.alloc (.cells #[.int .u8 (48 + (d : Int))] 5)) = .ok (.string ⟨#[UInt8.ofNat (48 + (d : Int)).toNat]⟩) (u.alloc (.cells #[.int .u8 (48 + (d : Int))] 5)) := fun u => conv_one Tryz.underlying66 Tryz.underlying5 Tryz.underlying9 (48 + (d : Int)) u
        rw [hd] at CI
        clear hBB nb hm hd
        go_wp2_with fail
        refine (C10.out _).mono ?_
        rintro e w2 ⟨rfl, hb2⟩
        have B2 := Lib.hid (below_join HB.out hb2)
        clear hb2
        go_wp2_with fail
        rw [← EB.out]
        refine (CQ.out _).mono ?_
        rintro e w3 ⟨rfl, hb3⟩
        have B3 := Lib.hid (below_join B2.out hb3)
        rw [EB.out, HD.out]
        clear hb3
        go_wp2_with fail
        refine (CI.out _).mono ?_
        rintro e w4 ⟨rfl, rfl⟩
        go_wp2_with fail
        go_roundg (m / 10)
        case measure => have := HM.out; omega
        case rel =>
          have es : (⟨#[48 + UInt8.ofNat d]⟩ : ByteArray) ++ bstr s = bstr (UInt8.ofNat (48 + m % 10) :: s) := by
            rw [HD.out]
            apply ByteArray.ext
            simp [bstr]
          refine ⟨m / 10, UInt8.ofNat (48 + m % 10) :: s, Nat.le_refl _, by omega, rfl, by rw [es], INV.out.step HM.out, B3.out.alloc B3.out.size _⟩
theorem digits_length (n k : Nat) (h : n < 10 ^ k) (hk : 1 ≤ k) : (Lib.decDigits n).length ≤ k := by
  induction k generalizing n with
  | zero => omega
  | succ k ih =>
    by_cases hn : n < 10
    · rw [digits_small hn]; simp
    · rw [digits_big hn, List.length_append]
      have := ih (n / 10) (by rw [Nat.pow_succ] at h; omega) (by
        cases k with
        | zero => simp at h; omega
        | succ k => omega)
      simp; omega
theorem text_small (n : Nat) (w : World) (hn : n < 256 ^ 7) : Calls Tryz.prog 57 #[.string (bstr (Nb.enc n))] w fun e w' => e = .returned (.string (bstr (Lib.decDigits n))) ∧ Below w.heap.size w w' :=
  text_of n w (by have := str_size n 7 hn; unfold maxLen; omega) (by have := digits_length n 20 (by omega) (by omega); omega) (fun m hm h0 => quo_small m 10 (by omega) (by omega) (by omega))
set_option maxHeartbeats 1000000 in
theorem decimal_any (z : Int) (w : World) (h1 : -72057594037927000 ≤ z) (h2 : z ≤ 72057594037927000) : Calls Tryz.prog 45 #[.int .i64 z] w fun e w' => e = .returned (.string (bstr (Lib.itoa z))) ∧ Below w.heap.size w w' := by
  by_cases hz : 0 ≤ z
  · obtain ⟨n, rfl⟩ : ∃ n : Nat, z = n := ⟨z.toNat, by omega⟩
    have d1 : decide ((0 : Int) ≤ (n : Int)) = true := by simp
    have ei : Lib.itoa (n : Int) = Lib.decDigits n := by unfold Lib.itoa; rw [if_neg (by omega)]; simp
    have EI := Lib.hid ei
    have hn : n < 256 ^ 7 := by omega
    have HN := Lib.hid hn
    clear ei hn
    go_enter Tryz.func45, Tryz.ntmps45
    go_wp2_with fail
    refine (of_any n w (by have := HN.out; omega)).mono ?_
    rintro e w2 ⟨rfl, hb2⟩
    have B2 := Lib.hid hb2
    clear hb2
    go_wp2_with fail
    refine (text_small n w2 HN.out).mono ?_
    rintro e w3 ⟨rfl, hb3⟩
    have B3 := Lib.hid (below_join B2.out hb3)
    clear hb3
    go_wp2_with fail
    go_ret
    exact ⟨by rw [EI.out]; rfl, B3.out⟩
  · obtain ⟨n, hn⟩ : ∃ n : Nat, -(z + 1) = n := ⟨(-(z + 1)).toNat, by omega⟩
    have d1 : decide ((0 : Int) ≤ z) = false := by simp; omega
    have z1 : -72057594037927000 ≤ z + 1 := by omega
    have z2 : z + 1 ≤ 0 := by omega
    have ei : Lib.itoa z = 45 :: Lib.decDigits (n + 1) := by
      unfold Lib.itoa
      rw [if_pos (by omega)]
      have : z.natAbs = n + 1 := by omega
      rw [this]
    have EI := Lib.hid ei
    have HN : Hid (n + 1 < 256 ^ 7) := by show _ < _; omega
    have sz : (bstr (Lib.decDigits (n + 1))).size ≤ 20 := by rw [bstr_size]; exact digits_length _ 20 (by have := HN.out; omega) (by omega)
    have hnz : z = -(n : Int) - 1 := by omega
    have HZ := Lib.hid hnz
    have HNN := Lib.hid hn
    clear ei hnz hn
    go_enter Tryz.func45, Tryz.ntmps45
    go_wp2_with fail
    refine (of_int (-(z + 1)) n w HNN.out (by have := HN.out; omega)).mono ?_
    rintro e w2 ⟨rfl, hb2⟩
    have B2 := Lib.hid hb2
    clear hb2
    go_wp2_with fail
    refine (of_int 1 1 w2 rfl (by omega)).mono ?_
    rintro e w3 ⟨rfl, hb3⟩
    have B3 := Lib.hid (below_join B2.out hb3)
    clear hb3
    go_wp2_with fail
    refine (add_small n 1 w3 (by have := HN.out; omega) (by omega)).mono ?_
    rintro e w4 ⟨rfl, hb4⟩
    have B4 := Lib.hid (below_join B3.out hb4)
    clear hb4
    go_wp2_with fail
    refine (text_small (n + 1) w4 HN.out).mono ?_
    rintro e w5 ⟨rfl, hb5⟩
    have B5 := Lib.hid (below_join B4.out hb5)
    clear hb5
    have q1 : ¬ 9223372036854775807 < 1 + (bstr (Lib.decDigits (n + 1))).size := by omega
    go_wp2_with fail
    go_ret
    have es : (⟨#[45]⟩ : ByteArray) ++ bstr (Lib.decDigits (n + 1)) = bstr (Lib.itoa z) := by
      rw [EI.out]
      apply ByteArray.ext
      simp [bstr]
    exact ⟨by rw [← es]; rfl, B5.out⟩
end Go.Proofs.YtfligfompdcddaaGreatDoor
