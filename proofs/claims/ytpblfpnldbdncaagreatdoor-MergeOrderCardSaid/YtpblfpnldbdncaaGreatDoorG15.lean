/- The reference's Text of a number, and Decimal. Contracts of the reference's signatures. Contracts of the reference's receipts: texts, hashes, signatures. Contracts of the reference's Body, Text, Hash, Signed, Secret, Public. Contracts of the reference's Signed, Secret, Public. -/
import Derived.Test.YtpblfpnldbdncaaGreatDoorG07
import Derived.Test.YtpblfpnldbdncaaGreatDoorG10
import Derived.Test.YtpblfpnldbdncaaGreatDoorG06
namespace Go.Proofs.YtpblfpnldbdncaaGreatDoor
open Go.RowKit Go.Sort
set_option linter.unusedVariables false
theorem digits_small {m : Nat} (h : m < 10) : Lib.decDigits m = [UInt8.ofNat (48 + m)] := by rw [Lib.decDigits, dif_pos h]
theorem digits_big {m : Nat} (h : ¬ m < 10) : Lib.decDigits m = Lib.decDigits (m / 10) ++ [UInt8.ofNat (48 + m % 10)] := by rw [Lib.decDigits, dif_neg h]
/-- what is left, and what is written -/
def TextInv (n m : Nat) (s : List UInt8) : Prop := (m = 0 ∧ s = Lib.decDigits n) ∨ (m ≠ 0 ∧ Lib.decDigits n = Lib.decDigits m ++ s)
theorem TextInv.step {n m : Nat} {s : List UInt8} (h : TextInv n m s) (h0 : m ≠ 0) : TextInv n (m / 10) (UInt8.ofNat (48 + m % 10) :: s) := by
  rcases h with ⟨e, _⟩ | ⟨_, h⟩
  · exact absurd e h0
  · by_cases hm : m < 10
    · left
      refine ⟨by omega, ?_⟩
      rw [h, digits_small hm, Nat.mod_eq_of_lt hm]; rfl
    · right
      refine ⟨by omega, ?_⟩
      rw [h, digits_big hm]; simp
theorem TextInv.length {n m : Nat} {s : List UInt8} (h : TextInv n m s) : s.length ≤ (Lib.decDigits n).length := by
  rcases h with ⟨_, rfl⟩ | ⟨_, h⟩
  · exact Nat.le_refl _
  · rw [h, List.length_append]; omega
theorem enc_size_zero (m : Nat) (h : m ≠ 0) : (bstr (Nb.enc m)).size ≠ 0 := by
  rw [bstr_size]
  intro e
  have : Nb.enc m = [] := List.eq_nil_of_length_eq_zero e
  have h1 := Nb.val_enc m
  rw [this] at h1
  exact h h1.symm
set_option maxHeartbeats 4000000 in
set_option maxRecDepth 100000 in
theorem text_of (n : Nat) (w : World) (hs : (bstr (Nb.enc n)).size ≤ maxLen) (hl : (Lib.decDigits n).length ≤ 1000) (hq : ∀ m, m ≤ n → m ≠ 0 → QuoOk m 10) :
    Calls Tryz.prog 77 #[.string (bstr (Nb.enc n))] w fun e w' => e = .returned (.string (bstr (Lib.decDigits n))) ∧ Below w.heap.size w w' := by
  have C0 := Lib.hid (canon_num _ n w hs (val_str n))
  have HQ := Lib.hid hq
  have HL := Lib.hid hl
  clear hs hq hl
  by_cases h0 : n = 0
  · subst h0
    have en : bstr (Nb.enc 0) = ⟨#[]⟩ := by rw [Nb.enc_zero]; rfl
    have ED : Hid (bstr (Lib.decDigits 0) = ⟨#[48]⟩) := by show _ = _; rw [digits_small (by omega)]; rfl
    rw [en] at C0 ⊢
    clear en
    go_enter Tryz.func77, Tryz.ntmps77
    go_wp2_with fail
    refine C0.out.mono ?_
    rintro e w' ⟨rfl, rfl⟩
    go_wp2_with fail
    go_ret
    exact ⟨by rw [ED.out]; rfl, Below.refl _ _⟩
  · have nb := enc_size_zero n h0
    have e0 : ((bstr (Nb.enc n)).size == 0) = false := beq_eq_false_iff_ne.2 nb
    have e1 : (((bstr (Nb.enc n)).size : Int) == 0) = false := beq_eq_false_iff_ne.2 (by omega)
    obtain ⟨A, hA⟩ : ∃ A, bstr (Nb.enc n) = A := ⟨_, rfl⟩
    have EA := Lib.hid hA
    have H0 := Lib.hid h0
    rw [hA] at C0 e0 e1 ⊢
    clear hA nb h0
    go_enter Tryz.func77, Tryz.ntmps77
    go_wp2_with fail
    refine C0.out.mono ?_
    rintro e w' ⟨rfl, rfl⟩
    go_wp2_with fail
    clear e0 e1
    go_loopg [0, 3] n (fun g1 av sv wr => ∃ (m : Nat) (s : List UInt8), m ≤ g1 ∧ m ≤ n ∧ av = .string (bstr (Nb.enc m)) ∧ sv = .string (bstr s) ∧ TextInv n m s ∧ Below w'.heap.size w' wr)
    case atStart => exact ⟨n, [], Nat.le_refl _, Nat.le_refl _, by rw [EA.out], rfl, .inr ⟨H0.out, by simp⟩, Below.refl _ _⟩
    case round =>
      obtain ⟨m, s, hg, hmn, rfl, rfl, hinv, hB⟩ := hrel
      have INV := Lib.hid hinv
      have HB := Lib.hid hB
      have sl : (bstr s).size ≤ 1000 := by rw [bstr_size]; exact Nat.le_trans hinv.length HL.out
      clear hinv hB
      by_cases hm : m = 0
      · subst hm
        have en : bstr (Nb.enc 0) = ⟨#[]⟩ := by rw [Nb.enc_zero]; rfl
        rw [en]
        have es : s = Lib.decDigits n := by
          rcases INV.out with ⟨_, h⟩ | ⟨h, _⟩
          · exact h
          · exact absurd rfl h
        have ES := Lib.hid es
        clear en es
        go_wp2_with fail
        go_ret
        exact ⟨by rw [← ES.out]; rfl, HB.out⟩
      · have nb := enc_size_zero m hm
        have e0 : decide (0 < (bstr (Nb.enc m)).size) = true := by simp; omega
        have e1 : decide ((0 : Int) < ((bstr (Nb.enc m)).size : Int)) = true := by simp; omega
        obtain ⟨B, hBB⟩ : ∃ B, bstr (Nb.enc m) = B := ⟨_, rfl⟩
        have CQ := Lib.hid (HQ.out m hmn hm)
        have C10 : Hid (∀ V, Calls Tryz.prog 78 #[.int .i64 10] V fun e w' => e = .returned (.string (bstr (Nb.enc 10))) ∧ Below V.heap.size V w') := fun V => of_int 10 10 V rfl (by omega)
        have EB := Lib.hid hBB
        have HM := Lib.hid hm
        rw [hBB] at e0 e1 ⊢
        have CI : Hid (∀ V, Calls Tryz.prog 103 #[.string (bstr (Nb.enc (m % 10)))] V fun e w' => e = .returned (.tuple #[.int .i64 ((m % 10 : Nat) : Int), .bool true]) ∧ w' = V) := fun V => int_yes _ (m % 10) V (by have := str_size (m % 10) 1 (by omega); unfold maxLen; omega) (val_str _) (by omega)
        obtain ⟨d, hd⟩ : ∃ d, m % 10 = d := ⟨_, rfl⟩
        have d9 : d ≤ 9 := by omega
        have HD := Lib.hid hd
        have hcv : ∀ u : World, (convert 67 9 (.slice (some ⟨u.heap.size, 0, none⟩) 1 1)).run Tryz.prog (u.alloc (.cells #[.int .u8 (48 + (d : Int))] 5)) = .ok (.string ⟨#[UInt8.ofNat (48 + (d : Int)).toNat]⟩) (u.alloc (.cells #[.int .u8 (48 + (d : Int))] 5)) := fun u => conv_one Tryz.underlying67 Tryz.underlying5 Tryz.underlying9 (48 + (d : Int)) u
        rw [hd] at CI
        clear hBB nb hm hd
        go_wp2_with fail
        refine (C10.out _).mono ?_
        rintro e w2 ⟨rfl, hb2⟩
        have B2 := Lib.hid (below_join HB.out hb2)
        clear hb2
        go_wp2_with fail
        rw [← EB.out]
        refine (CQ.out _).mono ?_
        rintro e w3 ⟨rfl, hb3⟩
        have B3 := Lib.hid (below_join B2.out hb3)
        rw [EB.out, HD.out]
        clear hb3
        go_wp2_with fail
        refine (CI.out _).mono ?_
        rintro e w4 ⟨rfl, rfl⟩
        go_wp2_with fail
        go_roundg (m / 10)
        case measure => have := HM.out; omega
        case rel =>
          have es : (⟨#[48 + UInt8.ofNat d]⟩ : ByteArray) ++ bstr s = bstr (UInt8.ofNat (48 + m % 10) :: s) := by
            rw [HD.out]
            apply ByteArray.ext
            simp [bstr]
          refine ⟨m / 10, UInt8.ofNat (48 + m % 10) :: s, Nat.le_refl _, by omega, rfl, by rw [es], INV.out.step HM.out, B3.out.alloc B3.out.size _⟩
theorem digits_length (n k : Nat) (h : n < 10 ^ k) (hk : 1 ≤ k) : (Lib.decDigits n).length ≤ k := by
  induction k generalizing n with
  | zero => omega
  | succ k ih =>
    by_cases hn : n < 10
    · rw [digits_small hn]; simp
    · rw [digits_big hn, List.length_append]
      have := ih (n / 10) (by rw [Nat.pow_succ] at h; omega) (by
        cases k with
        | zero => simp at h; omega
        | succ k => omega)
      simp; omega
theorem text_small (n : Nat) (w : World) (hn : n < 256 ^ 7) : Calls Tryz.prog 77 #[.string (bstr (Nb.enc n))] w fun e w' => e = .returned (.string (bstr (Lib.decDigits n))) ∧ Below w.heap.size w w' :=
  text_of n w (by have := str_size n 7 hn; unfold maxLen; omega) (by have := digits_length n 20 (by omega) (by omega); omega) (fun m hm h0 => quo_small m 10 (by omega) (by omega) (by omega))
theorem decimal_of (n : Nat) (z : Int) (w : World) (hz : z = n) (hn : n < 9223372036854775808) (hq : ∀ m, m ≤ n → m ≠ 0 → QuoOk m 10) : Calls Tryz.prog 40 #[.int .i64 z] w fun e w' => e = .returned (.string (bstr (Lib.itoa z))) ∧ Below w.heap.size w w' := by
  subst hz
  have d1 : decide ((0 : Int) ≤ (n : Int)) = true := by simp
  have ei : Lib.itoa (n : Int) = Lib.decDigits n := by unfold Lib.itoa; rw [if_neg (by omega)]; simp
  have EI := Lib.hid ei
  have HN := Lib.hid hn
  have CT := Lib.hid (fun W => text_of n W (by have := str_size n 8 (by omega); unfold maxLen; omega) (by have := digits_length n 20 (by omega) (by omega); omega) hq)
  clear ei hn hq
  go_enter Tryz.func40, Tryz.ntmps40
  go_wp2_with fail
  refine (of_any n w HN.out).mono ?_
  rintro e w2 ⟨rfl, hb2⟩
  have B2 := Lib.hid hb2
  clear hb2
  go_wp2_with fail
  refine (CT.out w2).mono ?_
  rintro e w3 ⟨rfl, hb3⟩
  have B3 := Lib.hid (below_join B2.out hb3)
  clear hb3
  go_wp2_with fail
  go_ret
  exact ⟨by rw [EI.out]; rfl, B3.out⟩
/-- a number that is not great -/
abbrev Sm (z : Int) : Prop := 0 ≤ z ∧ z ≤ 72057594037927000
theorem decimal_any (z : Int) (w : World) (h : Sm z) : Calls Tryz.prog 40 #[.int .i64 z] w fun e w' => e = .returned (.string (bstr (Lib.itoa z))) ∧ Below w.heap.size w w' :=
  decimal_of z.toNat z w (by omega) (by omega) (fun m hm h0 => quo_small m 10 (by omega) (by omega) (by omega))
end Go.Proofs.YtpblfpnldbdncaaGreatDoor
namespace Go.Proofs.YtpblfpnldbdncaaGreatDoor
open Go.RowKit Go.Sort
set_option linter.unusedVariables false
theorem eight_b8 (n : Nat) : Nb.eight n 8 = Sg.b8 n := by
  unfold Nb.eight Sg.b8
  apply List.map_congr_left
  intro i hi
  have hi : i < 8 := by simpa using hi
  rw [show 256 ^ (7 - i) = 2 ^ (8 * (7 - i)) by rw [Nat.pow_mul]]
  generalize n / 2 ^ (8 * (7 - i)) = m
  apply UInt8.toNat_inj.1
  simp
set_option maxHeartbeats 4000000 in
set_option maxRecDepth 100000 in
theorem rbytes_any (n : Nat) (w : World) (hn : n < 9223372036854775808) :
    Calls Tryz.prog 74 #[.int .i64 (n : Int)] w fun e w' => e = .returned (.string (bstr (Sg.b8 n))) ∧ Below w.heap.size w w' := by
  go_enter Tryz.func74, Tryz.ntmps74
  go_wp2_with fail
  go_loopw [3, 4] (fun v kv wr => ∃ m : Nat, m ≤ 8 ∧ kv = .int .i64 ((m : Int) - 1) ∧ wr.ownsRow w.heap.size 5 1 v (Nb.eight n (8 - m)).length (bvals (Nb.eight n (8 - m))) ∧ Below w.heap.size w wr) (fun _ kv _ => (intOf kv + 1).toNat)
  case atStart => exact ⟨8, Nat.le_refl _, rfl, ⟨by simp [bvals, Nb.eight], .inl ⟨rfl, rfl⟩⟩, Below.refl _ _⟩
  case round =>
    obtain ⟨m, hm, rfl, hO, hB⟩ := hrel
    have HO := Lib.hid hO
    have HB := Lib.hid hB
    clear hO hB
    by_cases h0 : m = 0
    · subst h0
      have hcv := conv_owns HO.out 9 Tryz.underlying9
      rw [show 8 - 0 = 8 from rfl, eight_b8] at hcv
      obtain ⟨z, hz⟩ : ∃ z : Int, ((0 : Nat) : Int) - 1 = z := ⟨_, rfl⟩
      have d1 : decide (0 ≤ z) = false := by simp; omega
      rw [hz]
      clear hz
      go_wp2_with fail
      go_ret
      exact ⟨rfl, HB.out⟩
    · obtain ⟨k, rfl⟩ : ∃ k, m = k + 1 := ⟨m - 1, by omega⟩
      obtain ⟨j, hj⟩ : ∃ j, 8 - (k + 1) = j := ⟨_, rfl⟩
      have ek : ((k + 1 : Nat) : Int) - 1 = (k : Int) := by omega
      have jk : 7 - j = k := by omega
      have kj : 8 - k = j + 1 := by omega
      rw [hj] at HO
      rw [ek]
      have k1 : 8 * (k : Int) < 64 := by omega
      have d2 : decide ((0 : Int) ≤ (k : Int)) = true := by simp
      obtain ⟨y, hy⟩ : ∃ y : UInt8, UInt8.ofNat (n / 256 ^ (7 - j) % 256) = y := ⟨_, rfl⟩
      have ey : (n : Int) / 2 ^ (8 * k) % 256 = ((y.toNat : Nat) : Int) := by
        rw [← hy]
        simp only [UInt8.toNat_ofNat']
        have e1 : ((2 : Int) ^ (8 * k)) = (((256 : Nat) ^ (7 - j) : Nat) : Int) := by rw [jk, Int.pow_mul]; simp
        rw [e1]
        have e2 : n / 256 ^ (7 - j) % 256 % 2 ^ 8 = n / 256 ^ (7 - j) % 256 := by omega
        rw [e2]
        simp
      have ES : Hid (Nb.eight n (8 - k) = Nb.eight n j ++ [y]) := by show _ = _; rw [kj, Nb.eight_succ, hy]
      have ga := World.grownBy_alloc wr (.cells #[.int .u8 ((n : Int) / 2 ^ (8 * k) % 256)] 5) none
      have OA := Lib.hid (owns_kept8 HO.out ga (fun b hb e => by cases e))
      have NA : Hid ((wr.alloc (.cells #[.int .u8 ((n : Int) / 2 ^ (8 * k) % 256)] 5)).heap[wr.heap.size]? = some (.cells #[.int .u8 (y.toNat : Int)] 5 (0, 0))) := by
        show _ = _
        rw [ey]
        exact heap_alloc_new _ _
      have BA : Hid (Below w.heap.size w (wr.alloc (.cells #[.int .u8 ((n : Int) / 2 ^ (8 * k) % 256)] 5))) := HB.out.alloc HB.out.size _
      have LE : Hid ((Nb.eight n j).length ≤ 100000) := by show _ ≤ _; unfold Nb.eight; simp; omega
      clear ga hy ey HO ek jk kj hj h0
      go_wp2_with (at_builtin; refine wpList_append_byte rfl (.tmp 9) (.tmp 15) rfl w.heap.size u3 (Nb.eight n j) y wr.heap.size rfl rfl OA.out NA.out LE.out BA.out.size ?_; intro v2 w2 hown2 hg2 hv2)
      go_roundw
      case rel => exact ⟨k, by omega, rfl, by rw [ES.out]; exact hown2, BA.out.grown hg2 BA.out.size (fun b e => (owns_lt8 OA.out b e).1)⟩
      case measure => simp [intOf]
set_option maxHeartbeats 1000000 in
theorem exponent_any (x : Nat) (w : World) (hx : x < 1152921504606845789) : Calls Tryz.prog 72 #[.int .i64 (x : Int)] w fun e w' => e = .returned (.int .i64 (x : Int)) ∧ w = w' := by
  have em : (x : Int) % 1152921504606845789 = (x : Int) := by omega
  have d1 : decide ((x : Int) < 0) = false := by simp
  go_enter Tryz.func72, Tryz.ntmps72
  go_wp2_with fail
  go_ret
  exact ⟨ret_int em, rfl⟩
set_option maxHeartbeats 1000000 in
theorem positive_any (t : List UInt8) (v : Nat) (w : World) (ht : t.length ≤ 1000000) (hv : max (sc t) 1 = v) : Calls Tryz.prog 73 #[.string (bstr t)] w fun e w' => e = .returned (.int .i64 (v : Int)) ∧ Below w.heap.size w w' := by
  obtain ⟨s, hs⟩ : ∃ s, sc t = s := ⟨_, rfl⟩
  have CS := Lib.hid (fun W => rscalar_any (bstr t) s W (by rw [bstr_size]; omega) hs)
  have sl : s < 1152921504606845789 := by rw [← hs]; exact sc_lt _
  rw [hs] at hv
  have HV := Lib.hid hv
  obtain ⟨tb, htb⟩ : ∃ tb, bstr t = tb := ⟨_, rfl⟩
  rw [htb] at CS ⊢
  clear htb hs hv
  go_enter Tryz.func73, Tryz.ntmps73
  go_wp2_with fail
  refine (CS.out _).mono ?_
  rintro e w1 ⟨rfl, b1⟩
  go_wp2_with fail
  go_ret
  refine ⟨ret_int ?_, b1⟩
  have := HV.out
  omega
set_option maxHeartbeats 1000000 in
theorem public_any (x y p : Nat) (w : World) (hp : p = 2305843009213691579) (hx : x < 1152921504606845789) (hy : 4 ^ x % p = y) : Calls Tryz.prog 76 #[.int .i64 (x : Int)] w fun e w' => e = .returned (.int .i64 (y : Int)) ∧ w = w' := by
  have E1 := Lib.hid (show Num.powZ 4 (x : Int) 2305843009213691579 = (y : Int) by rw [powZ_nat' 4 x p 4 x 2305843009213691579 rfl rfl (by omega) (by omega), hy])
  clear hy hp
  go_enter Tryz.func76, Tryz.ntmps76
  go_wp2_with fail
  refine (exponent_any x _ hx).mono ?_
  rintro e w' ⟨rfl, rfl⟩
  go_wp2_with fail
  refine (rpow_any _ _ _ _ (by omega) (by omega) (by omega) (by omega)).mono ?_
  rintro e w' ⟨rfl, rfl⟩
  rw [E1.out]
  go_wp2_with fail
  go_ret
  exact ⟨rfl, rfl⟩
theorem chal_cat (r y : Nat) (t : List UInt8) (tb : ByteArray) (h : bstr t = tb) : (⟨#[99]⟩ : ByteArray) ++ bstr (Sg.b8 r) ++ bstr (Sg.b8 y) ++ tb = bstr (99 :: (Sg.b8 r ++ Sg.b8 y ++ t)) := by
  rw [← h]
  apply ByteArray.ext
  simp [bstr, ByteArray.data_append]
set_option maxHeartbeats 1000000 in
theorem rchallenge_any (r y v : Nat) (t : List UInt8) (w : World) (hr : r < 9223372036854775808) (hy : y < 9223372036854775808) (ht : t.length ≤ 100000) (hv : Sg.chal sc r y t = v) :
    Calls Tryz.prog 98 #[.int .i64 (r : Int), .int .i64 (y : Int), .string (bstr t)] w fun e w' => e = .returned (.int .i64 (v : Int)) ∧ Below w.heap.size w w' := by
  have CS := Lib.hid (fun W => rscalar_any (bstr (99 :: (Sg.b8 r ++ Sg.b8 y ++ t))) v W (by rw [bstr_size]; simp [b8_length]; omega) hv)
  obtain ⟨tb, htb⟩ : ∃ tb, bstr t = tb := ⟨_, rfl⟩
  have EC := chal_cat r y t tb htb
  have q0 : tb.size ≤ 100000 := by rw [← htb, bstr_size]; exact ht
  have CR := Lib.hid (fun W => rbytes_any r W hr)
  have CY := Lib.hid (fun W => rbytes_any y W hy)
  have q1 : (bstr (Sg.b8 r)).size = 8 := by rw [bstr_size, b8_length]
  have q2 : (bstr (Sg.b8 y)).size = 8 := by rw [bstr_size, b8_length]
  rw [htb]
  obtain ⟨x1, e1⟩ : ∃ x, bstr (Sg.b8 r) = x := ⟨_, rfl⟩
  obtain ⟨x2, e2⟩ : ∃ x, bstr (Sg.b8 y) = x := ⟨_, rfl⟩
  rw [e1] at EC CR q1
  rw [e2] at EC CY q2
  rw [← EC] at CS
  have s1 : x1.size ≤ 8 := by omega
  have s2 : x2.size ≤ 8 := by omega
  clear hv htb e1 e2 EC ht q1 q2
  go_enter Tryz.func98, Tryz.ntmps98
  go_wp2_with fail
  refine (CR.out _).mono ?_
  rintro e w1 ⟨rfl, b1⟩
  go_wp2_with fail
  refine (CY.out _).mono ?_
  rintro e w2 ⟨rfl, b2⟩
  go_wp2_with fail
  refine (CS.out _).mono ?_
  rintro e w3 ⟨rfl, b3⟩
  go_wp2_with fail
  go_ret
  exact ⟨rfl, below_join (below_join b1 b2) b3⟩
theorem sig_one (r s : Int) : (#[.int .i64 r, .int .i64 s] : Array Value).all (·.oneCell') = true := by simp [Value.oneCell']
theorem sig_info (r s : Int) : (Tryz.prog.info? 29).map (·.size) = some (#[.int .i64 r, .int .i64 s] : Array Value).size := by
  rw [show (#[.int .i64 r, .int .i64 s] : Array Value).size = 2 from rfl]; kernel_rfl
theorem mod_lt' (q a b : Nat) (h : 0 < q) (e : a % q = b) : b < q := by rw [← e]; exact Nat.mod_lt _ h
set_option maxHeartbeats 2000000 in
theorem signWith_any (x n r s p q : Nat) (t : List UInt8) (w : World) (hq : q = 1152921504606845789) (hp : p = 2305843009213691579) (hx : x < q) (hn : n < q) (ht : t.length ≤ 100000)
    (hr : 4 ^ n % p = r) (hs : (n + x * Sg.chal sc r (4 ^ x % p) t % q) % q = s) :
    Calls Tryz.prog 75 #[.int .i64 (x : Int), .string (bstr t), .int .i64 (n : Int)] w fun e w' => e = .returned (.agg #[.int .i64 (r : Int), .int .i64 (s : Int)]) ∧ Below w.heap.size w w' := by
  obtain ⟨y, hy⟩ : ∃ y, 4 ^ x % p = y := ⟨_, rfl⟩
  rw [hy] at hs
  obtain ⟨c, hc⟩ : ∃ c, Sg.chal sc r y t = c := ⟨_, rfl⟩
  rw [hc] at hs
  obtain ⟨m, hm⟩ : ∃ m, x * c % q = m := ⟨_, rfl⟩
  rw [hm] at hs
  have rl : r < p := mod_lt' p _ _ (by omega) hr
  have yl : y < p := mod_lt' p _ _ (by omega) hy
  have ml : m < q := mod_lt' q _ _ (by omega) hm
  have cl : c < q := by rw [← hc, hq]; exact sc_lt _
  have E1 := Lib.hid (show Num.powZ 4 (n : Int) 2305843009213691579 = (r : Int) by rw [powZ_nat' 4 n p 4 n 2305843009213691579 rfl rfl (by omega) (by omega), hr])
  have E2 := Lib.hid (show Num.mulZ (x : Int) (c : Int) 1152921504606845789 = (m : Int) by rw [mulZ_nat' x c q x c 1152921504606845789 rfl rfl (by omega) (by omega), hm])
  have E3 := Lib.hid (show Num.addZ (n : Int) (m : Int) 1152921504606845789 = (s : Int) by rw [show (1152921504606845789 : Int) = ((q : Nat) : Int) by omega, addZ_nat n m q (by omega), hs])
  have CP := Lib.hid (fun W => public_any x y p W hp (by omega) hy)
  have CC := Lib.hid (fun W => rchallenge_any r y c t W (by omega) (by omega) ht hc)
  have hb0 : Below w.heap.size w (w.alloc (.cells #[.int .i64 0, .int .i64 0] 29)) := (Below.refl _ _).alloc (Nat.le_refl _) _
  have HB0 := Lib.hid hb0
  have RW := Lib.hid (heap_alloc_new w (.cells #[.int .i64 0, .int .i64 0] 29))
  have q1 : (x : Int) ≤ 9223372036854775807 := by omega
  have q2 : (n : Int) ≤ 9223372036854775807 := by omega
  have q3 : (m : Int) ≤ 9223372036854775807 := by omega
  have q4 : (c : Int) ≤ 9223372036854775807 := by omega
  have CE := Lib.hid (fun W => exponent_any x W (by omega))
  obtain ⟨tb, htb⟩ : ∃ tb, bstr t = tb := ⟨_, rfl⟩
  rw [htb] at CC ⊢
  clear hb0 hr hs hy hc hm rl yl ml cl hx hn ht htb hq hp
  go_enter Tryz.func75, Tryz.ntmps75
  go_wp2_with fail
  generalize w.alloc (.cells #[.int .i64 0, .int .i64 0] 29) = W0 at *
  refine (CE.out _).mono ?_
  rintro e w' ⟨rfl, rfl⟩
  go_wp2_with fail
  refine (rpow_any _ _ _ _ (by omega) (by omega) q2 (by omega)).mono ?_
  rintro e w' ⟨rfl, rfl⟩
  rw [E1.out]
  go_wp2_with fail
  refine (CP.out _).mono ?_
  rintro e w' ⟨rfl, rfl⟩
  go_wp2_with fail
  refine (CC.out _).mono ?_
  rintro e w1 ⟨rfl, b1⟩
  have R1 := heap_below RW.out b1
  have B1 := Lib.hid b1
  clear b1
  go_wp2_with fail
  refine (rmul_any _ _ _ _ (by omega) q1 (by omega) q4 (by omega)).mono ?_
  rintro e w' ⟨rfl, rfl⟩
  rw [E2.out]
  go_wp2_with fail
  refine (radd_any _ _ _ _ (by omega) q2 (by omega) q3 (by omega)).mono ?_
  rintro e w' ⟨rfl, rfl⟩
  rw [E3.out]
  have HR1 := Lib.hid R1
  clear R1
  go_wp2_with (refine wpList_store_row rfl 29 (.tmp 6) (.tmp 25) rfl w.heap.size #[.int .i64 (r : Int), .int .i64 (s : Int)] rfl rfl 29 _ HR1.out (sig_info _ _) rfl (sig_one _ _) ?_)
  refine bodyPost_ret (v := .agg #[.int .i64 (r : Int), .int .i64 (s : Int)]) (results_cell_row Tryz.results75 _ _ w.heap.size 29 #[.int .i64 (r : Int), .int .i64 (s : Int)] (0, 0) _ rfl (setRow_heap _ _ _ _ _ _ HR1.out) Tryz.underlying29 rfl (sig_info _ _)) rfl ⟨rfl, ?_⟩
  exact below_setRow (HB0.out.trans (B1.out.mono HB0.out.size)) (Nat.le_refl _) _
theorem nonce_cat (x : Nat) (t : List UInt8) (tb : ByteArray) (h : bstr t = tb) : (⟨#[110]⟩ : ByteArray) ++ bstr (Sg.b8 x) ++ tb = bstr (110 :: (Sg.b8 x ++ t)) := by
  rw [← h]
  apply ByteArray.ext
  simp [bstr, ByteArray.data_append]
theorem nonce_lt (x : Nat) (t : List UInt8) : Sg.nonce sc x t < 1152921504606845789 := by
  have := sc_lt (110 :: (Sg.b8 x ++ t))
  unfold Sg.nonce
  omega
set_option maxHeartbeats 2000000 in
theorem sign_any (x p q r s : Nat) (t : List UInt8) (w : World) (hq : q = 1152921504606845789) (hp : p = 2305843009213691579) (hx : x < q) (ht : t.length ≤ 100000) (hr : Sg.sigR sc p x t = r) (hs : Sg.sigS sc q p x t = s) :
    Calls Tryz.prog 37 #[.int .i64 (x : Int), .string (bstr t)] w fun e w' => e = .returned (.agg #[.int .i64 (r : Int), .int .i64 (s : Int)]) ∧ Below w.heap.size w w' := by
  have hs' : (Sg.nonce sc x t + x * Sg.chal sc r (4 ^ x % p) t % q) % q = s := by rw [← hr]; exact hs
  have hnl := nonce_lt x t
  have hr' : 4 ^ Sg.nonce sc x t % p = r := hr
  obtain ⟨n, hn⟩ : ∃ n, Sg.nonce sc x t = n := ⟨_, rfl⟩
  rw [hn] at hs' hnl hr'
  have CW := Lib.hid (fun W => signWith_any x n r s p q t W hq hp hx (by omega) ht hr' hs')
  have CN := Lib.hid (fun W => positive_any (110 :: (Sg.b8 x ++ t)) n W (by simp [b8_length]; omega) hn)
  have CB := Lib.hid (fun W => rbytes_any x W (by omega))
  have CE := Lib.hid (fun W => exponent_any x W (by omega))
  obtain ⟨tb, htb⟩ : ∃ tb, bstr t = tb := ⟨_, rfl⟩
  have EC := nonce_cat x t tb htb
  have q0 : tb.size ≤ 100000 := by rw [← htb, bstr_size]; exact ht
  have q1 : (bstr (Sg.b8 x)).size ≤ 8 := by rw [bstr_size, b8_length]; omega
  obtain ⟨x1, e1⟩ : ∃ x', bstr (Sg.b8 x) = x' := ⟨_, rfl⟩
  rw [e1] at EC CB q1
  rw [← EC] at CN
  rw [htb] at CW ⊢
  have hb0 : Below w.heap.size w (w.alloc (.cells #[.int .i64 0, .int .i64 0] 29)) := (Below.refl _ _).alloc (Nat.le_refl _) _
  have HB0 := Lib.hid hb0
  have RW := Lib.hid (heap_alloc_new w (.cells #[.int .i64 0, .int .i64 0] 29))
  clear hb0 hr hs hs' hnl hr' hn htb EC e1 ht hx hq hp
  go_enter Tryz.func37, Tryz.ntmps37
  go_wp2_with fail
  generalize w.alloc (.cells #[.int .i64 0, .int .i64 0] 29) = W0 at *
  refine (CE.out _).mono ?_
  rintro e w' ⟨rfl, rfl⟩
  go_wp2_with fail
  refine (CB.out _).mono ?_
  rintro e w1 ⟨rfl, b1⟩
  go_wp2_with fail
  refine (CN.out _).mono ?_
  rintro e w2 ⟨rfl, b2⟩
  go_wp2_with fail
  refine (CW.out _).mono ?_
  rintro e w3 ⟨rfl, b3⟩
  have B3 := Lib.hid (below_join (below_join b1 b2) b3)
  have HR1 := Lib.hid (heap_below RW.out B3.out)
  clear b1 b2 b3
  go_wp2_with (refine wpList_store_row rfl 29 (.tmp 4) (.tmp 18) rfl w.heap.size #[.int .i64 (r : Int), .int .i64 (s : Int)] rfl rfl 29 _ HR1.out (sig_info _ _) rfl (sig_one _ _) ?_)
  refine bodyPost_ret (v := .agg #[.int .i64 (r : Int), .int .i64 (s : Int)]) (results_cell_row Tryz.results37 _ _ w.heap.size 29 #[.int .i64 (r : Int), .int .i64 (s : Int)] (0, 0) _ rfl (setRow_heap _ _ _ _ _ _ HR1.out) Tryz.underlying29 rfl (sig_info _ _)) rfl ⟨rfl, ?_⟩
  exact below_setRow (HB0.out.trans (B3.out.mono HB0.out.size)) (Nat.le_refl _) _
end Go.Proofs.YtpblfpnldbdncaaGreatDoor
namespace Go.Proofs.YtpblfpnldbdncaaGreatDoor
open Go.RowKit Go.Sort
open Sg (Rc)
set_option linter.unusedVariables false
set_option maxHeartbeats 4000000 in
set_option maxRecDepth 100000 in
theorem rdecimal_any (n : Nat) (w : World) (hn : n < 9223372036854775808) :
    Calls Tryz.prog 85 #[.int .i64 (n : Int)] w fun e w' => e = .returned (.string (bstr (Lib.itoa (n : Int)))) ∧ Below w.heap.size w w' := by
  have ei : Lib.itoa (n : Int) = Lib.decDigits n := by unfold Lib.itoa; rw [if_neg (by omega)]; simp
  rw [ei]
  clear ei
  by_cases h0 : n = 0
  · subst h0
    have ED : Hid (bstr (Lib.decDigits 0) = ⟨#[48]⟩) := by show _ = _; rw [digits_small (by omega)]; rfl
    obtain ⟨z, hz⟩ : ∃ z : Int, ((0 : Nat) : Int) = z := ⟨_, rfl⟩
    have z0 : z = 0 := by rw [← hz]; rfl
    rw [hz, ED.out]
    subst z0
    clear hz ED
    go_enter Tryz.func85, Tryz.ntmps85
    go_wp2_with fail
    go_ret
    exact ⟨rfl, Below.refl _ _⟩
  · have e1 : ((n : Int) == 0) = false := beq_eq_false_iff_ne.2 (by omega)
    have HL := Lib.hid (digits_length n 20 (by omega) (by omega))
    have H0 := Lib.hid h0
    have n1 : (n : Int) ≤ 9223372036854775807 := by omega
    have nneg : decide ((n : Int) < 0) = false := by simp
    clear h0 hn
    go_enter Tryz.func85, Tryz.ntmps85
    go_wp2_with fail
    clear e1
    go_loopg [3, 4] n (fun g1 sv av wr => ∃ (m : Nat) (s : List UInt8), m ≤ g1 ∧ m ≤ n ∧ av = .int .i64 (m : Int) ∧ sv = .string (bstr s) ∧ TextInv n m s ∧ Below w.heap.size w wr)
    case atStart => exact ⟨n, [], Nat.le_refl _, Nat.le_refl _, rfl, rfl, .inr ⟨H0.out, by simp⟩, Below.refl _ _⟩
    case round =>
      obtain ⟨m, s, hg, hmn, rfl, rfl, hinv, hB⟩ := hrel
      have INV := Lib.hid hinv
      have HB := Lib.hid hB
      have sl : (bstr s).size ≤ 1000 := by rw [bstr_size]; have := hinv.length; have := HL.out; omega
      clear hinv hB
      by_cases hm : m = 0
      · have es : s = Lib.decDigits n := by
          rcases INV.out with ⟨_, h⟩ | ⟨h, _⟩
          · exact h
          · exact absurd hm h
        have ES := Lib.hid es
        have e0 : ((m : Int) != 0) = false := by simp [hm]
        clear es hm
        go_wp2_with fail
        go_ret
        exact ⟨by rw [← ES.out]; rfl, HB.out⟩
      · have e0 : ((m : Int) != 0) = true := by simp [hm]
        obtain ⟨d, hd⟩ : ∃ d, m % 10 = d := ⟨_, rfl⟩
        have d9 : d ≤ 9 := by omega
        have HD := Lib.hid hd
        have hdi : (m : Int) % 10 = (d : Int) := by omega
        have HM := Lib.hid hm
        have m1 : (m : Int) ≤ 9223372036854775807 := by omega
        have hcv : ∀ u : World, (convert 67 9 (.slice (some ⟨u.heap.size, 0, none⟩) 1 1)).run Tryz.prog (u.alloc (.cells #[.int .u8 (48 + (d : Int))] 5)) = .ok (.string ⟨#[UInt8.ofNat (48 + (d : Int)).toNat]⟩) (u.alloc (.cells #[.int .u8 (48 + (d : Int))] 5)) := fun u => conv_one Tryz.underlying67 Tryz.underlying5 Tryz.underlying9 (48 + (d : Int)) u
        clear hm hd
        have dneg : decide ((d : Int) < 0) = false := by simp
        go_wp2_with fail
        go_roundg (m / 10)
        case measure => have := HM.out; omega
        case rel =>
          have es : (⟨#[48 + UInt8.ofNat d]⟩ : ByteArray) ++ bstr s = bstr (UInt8.ofNat (48 + m % 10) :: s) := by
            rw [HD.out]
            apply ByteArray.ext
            simp [bstr]
          refine ⟨m / 10, UInt8.ofNat (48 + m % 10) :: s, Nat.le_refl _, by omega, by go_num, by rw [es], INV.out.step HM.out, HB.out.alloc HB.out.size _⟩
/-- what a receipt that was signed has -/
structure RcSm (c : Rc) : Prop where
  ok : RcOk c
  k : Sm c.kiosk
  s : Sm c.serial
  n : Sm c.seen
  r0 : 0 ≤ c.r
  s0 : 0 ≤ c.s
set_option maxHeartbeats 1000000 in
/-- Text of a signature -/
theorem rstext_any (r s : Int) (w : World) (hr : I64 r) (hs : I64 s) (hr0 : 0 ≤ r) (hs0 : 0 ≤ s) :
    Calls Tryz.prog 49 #[.agg #[.int .i64 r, .int .i64 s]] w fun e w' => e = .returned (.string (bstr (Lib.itoa r ++ [46] ++ Lib.itoa s))) ∧ Below w.heap.size w w' := by
  have l1 := itoa_size hr
  have l2 := itoa_size hs
  have hb0 : Below w.heap.size w (w.alloc (.cells #[.int .i64 r, .int .i64 s] 29)) := (Below.refl _ _).alloc (Nat.le_refl _) _
  have HB0 := Lib.hid hb0
  have RW := heap_alloc_new w (.cells #[.int .i64 r, .int .i64 s] 29)
  clear hb0
  have c1 : ∀ W, Calls Tryz.prog 85 #[.int .i64 r] W fun e w' => e = .returned (.string (bstr (Lib.itoa r))) ∧ Below W.heap.size W w' := fun W => by
    obtain ⟨n, rfl⟩ := Int.eq_ofNat_of_zero_le hr0
    exact rdecimal_any n W (by omega)
  have c2 : ∀ W, Calls Tryz.prog 85 #[.int .i64 s] W fun e w' => e = .returned (.string (bstr (Lib.itoa s))) ∧ Below W.heap.size W w' := fun W => by
    obtain ⟨n, rfl⟩ := Int.eq_ofNat_of_zero_le hs0
    exact rdecimal_any n W (by omega)
  obtain ⟨x1, e1⟩ : ∃ x, bstr (Lib.itoa r) = x := ⟨_, rfl⟩
  obtain ⟨x2, e2⟩ : ∃ x, bstr (Lib.itoa s) = x := ⟨_, rfl⟩
  have q1 : x1.size ≤ 21 := by rw [← e1, bstr_size]; exact l1
  have q2 : x2.size ≤ 21 := by rw [← e2, bstr_size]; exact l2
  have et : x1 ++ (⟨#[46]⟩ : ByteArray) ++ x2 = bstr (Lib.itoa r ++ [46] ++ Lib.itoa s) := by
    rw [← e1, ← e2]
    apply ByteArray.ext
    simp [bstr, ByteArray.data_append]
  rw [← et]
  rw [e1] at c1
  rw [e2] at c2
  have C1 := Lib.hid c1
  have C2 := Lib.hid c2
  clear et e1 e2 l1 l2 c1 c2 hr hs hr0 hs0
  have n1 : ¬ 9223372036854775807 < x1.size + 1 := by omega
  have n2 : ¬ 9223372036854775807 < x1.size + 1 + x2.size := by omega
  obtain ⟨c0, c1⟩ := cells_two RW
  clear RW
  go_enter Tryz.func49, Tryz.ntmps49
  go_wp2_with fail
  generalize w.alloc (.cells #[.int .i64 r, .int .i64 s] 29) = W0 at *
  have c0' := cell_regrown c0
  have c1' := cell_regrown c1
  refine wp_region_quiet_below (by kernel_rfl) (by kernel_rfl) ?_
  repeat (first | go_big_quiet_step ((first | with_reducible exact Calls.regrown_of (C1.out _) | with_reducible exact Calls.regrown_of (C2.out _))))
  refine wpQuiet_nil ?_
  intro _ hw'
  obtain ⟨⟨dq, osq⟩, hw''⟩ := hw'
  subst hw''
  go_wp2_with fail
  go_ret
  exact ⟨rfl, HB0.out.trans ((below_regrown W0 dq osq).mono HB0.out.size)⟩
end Go.Proofs.YtpblfpnldbdncaaGreatDoor
namespace Go.Proofs.YtpblfpnldbdncaaGreatDoor
open Go.RowKit Go.Sort
open Sg (Rc)
set_option linter.unusedVariables false
theorem body_cat (c : Rc) (x1 x2 x3 x4 x5 x6 x7 P : ByteArray) (e1 : bstr (Lib.itoa c.kiosk) = x1) (e2 : bstr (Lib.itoa c.serial) = x2) (e3 : bstr (Lib.itoa c.seen) = x3) (e4 : bstr (Sg.hex c.output) = x4) (e5 : bstr (Sg.hex c.hash) = x5) (e6 : bstr (Sg.hex c.prev) = x6) (e7 : bstr c.draw = x7)
    (hP : (⟨#[114, 101, 99, 101, 105, 112, 116, 32]⟩ : ByteArray) ++ x1 ++ (⟨#[32]⟩ : ByteArray) ++ x2 ++ (⟨#[32]⟩ : ByteArray) ++ x3 = P) :
    P ++ (⟨#[32]⟩ : ByteArray) ++ x4 ++ (⟨#[32]⟩ : ByteArray) ++ x5 ++ (⟨#[32]⟩ : ByteArray) ++ x6 ++ (⟨#[32]⟩ : ByteArray) ++ x7 = bstr c.body := by
  rw [← hP, ← e1, ← e2, ← e3, ← e4, ← e5, ← e6, ← e7]
  apply ByteArray.ext
  simp [bstr, ByteArray.data_append, Rc.body]
set_option maxHeartbeats 4000000 in
set_option maxRecDepth 100000 in
theorem rbody_any (c : Rc) (hs : RcSm c) (w : World) :
    Calls Tryz.prog 38 #[.agg (rcArr c)] w fun e w' => e = .returned (.string (bstr c.body)) ∧ Below w.heap.size w w' := by
  have hc := hs.ok
  have hb0 : Below w.heap.size w (w.alloc (.cells (rcArr c) 31)) := (Below.refl _ _).alloc (Nat.le_refl _) _
  have RW := heap_alloc_new w (.cells (rcArr c) 31)
  have HB0 := Lib.hid hb0
  have at0 := RcAt.of_row RW
  have lt0 := rc_block_lt RW
  generalize hW : w.alloc (.cells (rcArr c) 31) = W0 at *
  have HW := Lib.hid hW
  have HA := Lib.hid at0
  have HLT := Lib.hid lt0
  have k0 := cell_regrown at0.kiosk
  have k1 := cell_regrown at0.serial
  have k3 := cell_regrown at0.seen
  rw [Nat.zero_add] at k1 k3
  obtain ⟨x1, e1⟩ : ∃ x, bstr (Lib.itoa c.kiosk) = x := ⟨_, rfl⟩
  obtain ⟨x2, e2⟩ : ∃ x, bstr (Lib.itoa c.serial) = x := ⟨_, rfl⟩
  obtain ⟨x3, e3⟩ : ∃ x, bstr (Lib.itoa c.seen) = x := ⟨_, rfl⟩
  obtain ⟨x4, e4⟩ : ∃ x, bstr (Sg.hex c.output) = x := ⟨_, rfl⟩
  obtain ⟨x5, e5⟩ : ∃ x, bstr (Sg.hex c.hash) = x := ⟨_, rfl⟩
  obtain ⟨x6, e6⟩ : ∃ x, bstr (Sg.hex c.prev) = x := ⟨_, rfl⟩
  obtain ⟨x7, e7⟩ : ∃ x, bstr c.draw = x := ⟨_, rfl⟩
  have C1 := Lib.hid (fun W => show Calls Tryz.prog 40 #[.int .i64 c.kiosk] W fun e w' => e = .returned (.string x1) ∧ Below W.heap.size W w' from e1 ▸ decimal_any c.kiosk W hs.k)
  have C2 := Lib.hid (fun W => show Calls Tryz.prog 40 #[.int .i64 c.serial] W fun e w' => e = .returned (.string x2) ∧ Below W.heap.size W w' from e2 ▸ decimal_any c.serial W hs.s)
  have C3 := Lib.hid (fun W => show Calls Tryz.prog 40 #[.int .i64 c.seen] W fun e w' => e = .returned (.string x3) ∧ Below W.heap.size W w' from e3 ▸ decimal_any c.seen W hs.n)
  have C4 := Lib.hid (fun W => show Calls Tryz.prog 66 #[.agg (hashArr c.output)] W fun e w' => e = .returned (.string x4) ∧ Below W.heap.size W w' from e4 ▸ rtext_any c.output hc.output W)
  have C5 := Lib.hid (fun W => show Calls Tryz.prog 66 #[.agg (hashArr c.hash)] W fun e w' => e = .returned (.string x5) ∧ Below W.heap.size W w' from e5 ▸ rtext_any c.hash hc.hash W)
  have C6 := Lib.hid (fun W => show Calls Tryz.prog 66 #[.agg (hashArr c.prev)] W fun e w' => e = .returned (.string x6) ∧ Below W.heap.size W w' from e6 ▸ rtext_any c.prev hc.prev W)
  have q1 : x1.size ≤ 21 := by rw [← e1, bstr_size]; exact itoa_size hc.kiosk
  have q2 : x2.size ≤ 21 := by rw [← e2, bstr_size]; exact itoa_size hc.serial
  have q3 : x3.size ≤ 21 := by rw [← e3, bstr_size]; exact itoa_size hc.seen
  have q4 : x4.size ≤ 64 := by rw [← e4, bstr_size, hex_length, hc.output]; omega
  have q5 : x5.size ≤ 64 := by rw [← e5, bstr_size, hex_length, hc.hash]; omega
  have q6 : x6.size ≤ 64 := by rw [← e6, bstr_size, hex_length, hc.prev]; omega
  have q7 : x7.size ≤ 1000 := by rw [← e7, bstr_size]; exact hc.draw
  have HC := Lib.hid (fun P => body_cat c x1 x2 x3 x4 x5 x6 x7 P e1 e2 e3 e4 e5 e6 e7)
  have E7 := Lib.hid e7
  have OK := Lib.hid hc
  clear at0 hb0 RW hW e1 e2 e3 e4 e5 e6 e7 lt0 hs hc
  have m1 : ¬ 9223372036854775807 < 8 + x1.size := by omega
  have m2 : ¬ 9223372036854775807 < 8 + x1.size + 1 := by omega
  have m3 : ¬ 9223372036854775807 < 8 + x1.size + 1 + x2.size := by omega
  have m4 : ¬ 9223372036854775807 < 8 + x1.size + 1 + x2.size + 1 := by omega
  have m5 : ¬ 9223372036854775807 < 8 + x1.size + 1 + x2.size + 1 + x3.size := by omega
  go_enter Tryz.func38, Tryz.ntmps38
  go_wp2_with fail
  rw [HW.out]
  refine wp_region_quiet_below (by kernel_rfl) (by kernel_rfl) ?_
  repeat (first | go_big_quiet_step ((first | with_reducible exact Calls.regrown_of (C1.out _) | with_reducible exact Calls.regrown_of (C2.out _) | with_reducible exact Calls.regrown_of (C3.out _))))
  refine wpQuiet_nil ?_
  intro _ hw'
  obtain ⟨⟨dq, osq⟩, hw''⟩ := hw'
  subst hw''
  clear m1 m2 m3 m4 m5 k0 k1 k3
  have hq := below_regrown W0 dq osq
  have at1 := HA.out.below HLT.out hq
  have lt1 := Nat.lt_of_lt_of_le HLT.out hq.size
  have HQ := Lib.hid (HB0.out.trans (hq.mono HB0.out.size))
  clear hq
  generalize grow (redrawn W0 dq) osq = W1 at *
  obtain ⟨P, hP⟩ : ∃ P, (⟨#[114, 101, 99, 101, 105, 112, 116, 32]⟩ : ByteArray) ++ x1 ++ (⟨#[32]⟩ : ByteArray) ++ x2 ++ (⟨#[32]⟩ : ByteArray) ++ x3 = P := ⟨_, rfl⟩
  have HP := Lib.hid (HC.out P hP)
  have qp : P.size ≤ 100 := by
    rw [← hP]
    simp only [ByteArray.size_append]
    have z1 : (⟨#[114, 101, 99, 101, 105, 112, 116, 32]⟩ : ByteArray).size = 8 := rfl
    have z2 : (⟨#[32]⟩ : ByteArray).size = 1 := rfl
    omega
  rw [hP]
  have k2 := cell_regrown at1.draw
  have l1 := Lib.hid (load_hash_re OK.out.output at1.output lt1)
  have l2 := Lib.hid (load_hash_re OK.out.hash (at1.hash OK.out) lt1)
  have l3 := Lib.hid (load_hash_re OK.out.prev (at1.prev OK.out) lt1)
  rw [Nat.zero_add] at k2 l1 l2 l3
  rw [E7.out] at k2
  clear hP at1 lt1
  have m1 : ¬ 9223372036854775807 < P.size + 1 := by omega
  have m2 : ¬ 9223372036854775807 < P.size + 1 + x4.size := by omega
  have m3 : ¬ 9223372036854775807 < P.size + 1 + x4.size + 1 := by omega
  have m4 : ¬ 9223372036854775807 < P.size + 1 + x4.size + 1 + x5.size := by omega
  have m5 : ¬ 9223372036854775807 < P.size + 1 + x4.size + 1 + x5.size + 1 := by omega
  have m6 : ¬ 9223372036854775807 < P.size + 1 + x4.size + 1 + x5.size + 1 + x6.size := by omega
  have m7 : ¬ 9223372036854775807 < P.size + 1 + x4.size + 1 + x5.size + 1 + x6.size + 1 := by omega
  have m8 : ¬ 9223372036854775807 < P.size + 1 + x4.size + 1 + x5.size + 1 + x6.size + 1 + x7.size := by omega
  go_wp2_with fail
  refine wp_region_quiet_below (by kernel_rfl) (by kernel_rfl) ?_
  repeat (first
    | (refine quiet_load_row (by rfl) _ (.tmp 20) rfl _ _ rfl _ l1.out ?_; simp only [Act.put, List.setIfInBounds_toArray, List.set_cons_zero, List.set_cons_succ])
    | (refine quiet_load_row (by rfl) _ (.tmp 25) rfl _ _ rfl _ l2.out ?_; simp only [Act.put, List.setIfInBounds_toArray, List.set_cons_zero, List.set_cons_succ])
    | (refine quiet_load_row (by rfl) _ (.tmp 30) rfl _ _ rfl _ l3.out ?_; simp only [Act.put, List.setIfInBounds_toArray, List.set_cons_zero, List.set_cons_succ])
    | go_big_quiet_step ((first | with_reducible exact Calls.regrown_of (C4.out _) | with_reducible exact Calls.regrown_of (C5.out _) | with_reducible exact Calls.regrown_of (C6.out _))))
  refine wpQuiet_nil ?_
  intro _ hw'
  obtain ⟨⟨dq, osq⟩, hw''⟩ := hw'
  subst hw''
  rw [HP.out]
  go_wp2_with fail
  go_ret
  exact ⟨rfl, HQ.out.trans ((below_regrown W1 dq osq).mono HQ.out.size)⟩
theorem text_cat (c : Rc) : bstr (Lib.itoa c.r ++ [46] ++ Lib.itoa c.s) ++ (⟨#[32]⟩ : ByteArray) ++ bstr c.body = bstr c.text := by
  apply ByteArray.ext
  simp [bstr, ByteArray.data_append, Rc.text]
set_option maxHeartbeats 4000000 in
set_option maxRecDepth 100000 in
theorem rctext_any (c : Rc) (hs : RcSm c) (w : World) :
    Calls Tryz.prog 20 #[.agg (rcArr c)] w fun e w' => e = .returned (.string (bstr c.text)) ∧ Below w.heap.size w w' := by
  have hc := hs.ok
  have hb0 : Below w.heap.size w (w.alloc (.cells (rcArr c) 31)) := (Below.refl _ _).alloc (Nat.le_refl _) _
  have RW := heap_alloc_new w (.cells (rcArr c) 31)
  have HB0 := Lib.hid hb0
  have at0 := RcAt.of_row RW
  have lt0 := rc_block_lt RW
  generalize hW : w.alloc (.cells (rcArr c) 31) = W0 at *
  have HW := Lib.hid hW
  have sg := at0.sig hc
  rw [Nat.zero_add, Nat.zero_add] at sg
  have l1 := Lib.hid (load_sig_re sg.1 sg.2 lt0)
  have l2 := Lib.hid (load_rc_re hc at0 lt0)
  have et := text_cat c
  have bl := body_length hc
  have i1 := itoa_size hc.r
  have i2 := itoa_size hc.s
  have q1 : (bstr (Lib.itoa c.r ++ [46] ++ Lib.itoa c.s)).size ≤ 50 := by rw [bstr_size]; simp only [List.length_append, List.length_cons, List.length_nil]; omega
  have q2 : (bstr c.body).size ≤ 2000 := by rw [bstr_size]; exact bl
  obtain ⟨x1, e1⟩ : ∃ x, bstr (Lib.itoa c.r ++ [46] ++ Lib.itoa c.s) = x := ⟨_, rfl⟩
  obtain ⟨x2, e2⟩ : ∃ x, bstr c.body = x := ⟨_, rfl⟩
  rw [e1, e2] at et
  rw [e1] at q1
  rw [e2] at q2
  rw [← et]
  have C1 := Lib.hid (fun W => show Calls Tryz.prog 49 #[.agg #[.int .i64 c.r, .int .i64 c.s]] W fun e w' => e = .returned (.string x1) ∧ Below W.heap.size W w' from e1 ▸ rstext_any c.r c.s W hc.r hc.s hs.r0 hs.s0)
  have C2 := Lib.hid (fun W => show Calls Tryz.prog 38 #[.agg (rcArr c)] W fun e w' => e = .returned (.string x2) ∧ Below W.heap.size W w' from e2 ▸ rbody_any c hs W)
  clear at0 hb0 RW hW e1 e2 sg et bl i1 i2 hs hc lt0
  have m1 : ¬ 9223372036854775807 < x1.size + 1 := by omega
  have m2 : ¬ 9223372036854775807 < x1.size + 1 + x2.size := by omega
  go_enter Tryz.func20, Tryz.ntmps20
  go_wp2_with fail
  rw [HW.out]
  refine wp_region_quiet_below (by kernel_rfl) (by kernel_rfl) ?_
  repeat (first
    | (refine quiet_load_row (by rfl) _ (.tmp 3) rfl _ _ rfl _ l1.out ?_; simp only [Act.put, List.setIfInBounds_toArray, List.set_cons_zero, List.set_cons_succ])
    | (refine quiet_load_row (by rfl) _ (.tmp 1) rfl _ _ rfl _ l2.out ?_; simp only [Act.put, List.setIfInBounds_toArray, List.set_cons_zero, List.set_cons_succ])
    | go_big_quiet_step ((first | with_reducible exact Calls.regrown_of (C1.out _) | with_reducible exact Calls.regrown_of (C2.out _))))
  refine wpQuiet_nil ?_
  intro _ hw'
  obtain ⟨⟨dq, osq⟩, hw''⟩ := hw'
  subst hw''
  go_wp2_with fail
  go_ret
  exact ⟨rfl, HB0.out.trans ((below_regrown W0 dq osq).mono HB0.out.size)⟩
attribute [local go_sem ↓] wp_alloc_h wp_alloc_rc
set_option maxHeartbeats 4000000 in
set_option maxRecDepth 100000 in
theorem rchash_any (c : Rc) (hs : RcSm c) (w : World) :
    Calls Tryz.prog 68 #[.agg (rcArr c)] w fun e w' => e = .returned (.agg (hashArr (rch c))) ∧ Below w.heap.size w w' := by
  obtain ⟨h, hh⟩ : ∃ h, rch c = h := ⟨_, rfl⟩
  have hl : h.length = 32 := by rw [← hh]; exact rch_length c
  have hb0 : Below w.heap.size w ((w.alloc (.cells (rcArr c) 31)).alloc (.cells (hashArr Mg.zeroH) 27)) := ((Below.refl _ _).alloc (Nat.le_refl _) _).alloc (by simp) _
  have RW := heap_alloc2_old w (.cells (rcArr c) 31) (.cells (hashArr Mg.zeroH) 27)
  have RH := heap_alloc2_new w (.cells (rcArr c) 31) (.cells (hashArr Mg.zeroH) 27)
  have HB0 := Lib.hid hb0
  have CT := Lib.hid (rctext_any c hs ((w.alloc (.cells (rcArr c) 31)).alloc (.cells (hashArr Mg.zeroH) 27)))
  have HR := Lib.hid RW
  have HH := Lib.hid RH
  have EH := Lib.hid (show Sha.sum (bstr c.text).data.toList = h from hh)
  have WL := Lib.hid (show (bstr c.text).size ≤ 140737488355000 by rw [bstr_size]; have := text_length' hs.ok; omega)
  have RI := Lib.hid (rc_info hs.ok)
  have HL := Lib.hid hl
  rw [hh]
  clear hb0 RW RH hh hl
  obtain ⟨tx, htx⟩ : ∃ tx, bstr c.text = tx := ⟨_, rfl⟩
  rw [htx] at CT EH WL
  clear htx
  go_enter Tryz.func68, Tryz.ntmps68
  go_wp2_with (refine wpList_load_row rfl 31 (.tmp 1) rfl w.heap.size rfl 31 (rcArr c) (0, 0) _ HR.out Tryz.underlying31 rfl RI.out ?_)
  generalize (w.alloc (.cells (rcArr c) 31)).alloc (.cells (hashArr Mg.zeroH) 27) = W0 at *
  refine CT.out.mono ?_
  rintro e w1 ⟨rfl, b1⟩
  have B1 := Lib.hid b1
  clear b1
  go_wp2_with fail
  refine (rsum_is _ h _ WL.out EH.out).mono ?_
  rintro e w2 ⟨rfl, b2⟩
  have B2 := Lib.hid (below_join B1.out b2)
  have BA1 := Lib.hid (heap_below HH.out B2.out)
  clear b2
  go_wp2_with (refine wpList_store_row rfl 27 (.tmp 2) (.tmp 5) rfl (w.heap.size + 1) (hashArr h) rfl rfl 27 _ BA1.out (hash_info _ HL.out) (by rw [hashArr_size, hashArr_size, HL.out]; rfl) (hashArr_one _) ?_)
  refine bodyPost_ret (v := .agg (hashArr h)) (results_cell_row Tryz.results68 _ _ (w.heap.size + 1) 27 (hashArr h) (0, 0) _ rfl (setRow_heap _ _ _ _ _ _ BA1.out) Tryz.underlying27 rfl (hash_info _ HL.out)) rfl ⟨rfl, ?_⟩
  exact below_setRow (HB0.out.trans (B2.out.mono HB0.out.size)) (by omega) _
end Go.Proofs.YtpblfpnldbdncaaGreatDoor
namespace Go.Proofs.YtpblfpnldbdncaaGreatDoor
open Go.RowKit Go.Sort
open Sg (Rc)
set_option linter.unusedVariables false
attribute [local go_sem ↓] wp_alloc_h wp_alloc_rc
theorem signed_sm (q p x : Nat) (hq : q = 1152921504606845789) (hp : p = 2305843009213691579) {c : Rc} (h : RcSm c) : RcSm (c.signed sc q p x) := by
  have h1 : Sg.sigR sc p x c.body < p := Nat.mod_lt _ (by omega)
  have h2 : Sg.sigS sc q p x c.body < q := Nat.mod_lt _ (by omega)
  refine ⟨⟨h.ok.kiosk, h.ok.serial, h.ok.seen, ?_, ?_, h.ok.draw, h.ok.output, h.ok.hash, h.ok.prev⟩, h.k, h.s, h.n, ?_, ?_⟩
  · show -9223372036854775808 ≤ ((Sg.sigR sc p x c.body : Nat) : Int) ∧ ((Sg.sigR sc p x c.body : Nat) : Int) ≤ 9223372036854775807
    omega
  · show -9223372036854775808 ≤ ((Sg.sigS sc q p x c.body : Nat) : Int) ∧ ((Sg.sigS sc q p x c.body : Nat) : Int) ≤ 9223372036854775807
    omega
  · show 0 ≤ ((Sg.sigR sc p x c.body : Nat) : Int); omega
  · show 0 ≤ ((Sg.sigS sc q p x c.body : Nat) : Int); omega
set_option maxHeartbeats 4000000 in
set_option maxRecDepth 100000 in
theorem signed_any (x q p : Nat) (c : Rc) (hs : RcSm c) (w : World) (hq : q = 1152921504606845789) (hp : p = 2305843009213691579) (hx : x < q) :
    Calls Tryz.prog 12 #[.int .i64 (x : Int), .agg (rcArr c)] w fun e w' => e = .returned (.agg (rcArr (c.signed sc q p x))) ∧ Below w.heap.size w w' := by
  have hc := hs.ok
  have hb0 : Below w.heap.size w (((w.alloc (.cells (rcArr c) 31)).alloc (.cells (rcArr rc0) 31)).alloc (.cells (rcArr c) 31)) := (((Below.refl _ _).alloc (Nat.le_refl _) _).alloc (by simp) _).alloc (by simp; omega) _
  have RA := Lib.hid (heap_alloc2_old w (.cells (rcArr c) 31) (.cells (rcArr rc0) 31))
  have RB := heap_alloc2_new w (.cells (rcArr c) 31) (.cells (rcArr rc0) 31)
  have hb1 : Below ((w.alloc (.cells (rcArr c) 31)).alloc (.cells (rcArr rc0) 31)).heap.size ((w.alloc (.cells (rcArr c) 31)).alloc (.cells (rcArr rc0) 31)) (((w.alloc (.cells (rcArr c) 31)).alloc (.cells (rcArr rc0) 31)).alloc (.cells (rcArr c) 31)) := (Below.refl _ _).alloc (Nat.le_refl _) _
  have RA1 := Lib.hid (heap_below RA.out hb1)
  have RB1 := Lib.hid (heap_below RB hb1)
  have RC0 := heap_alloc_new ((w.alloc (.cells (rcArr c) 31)).alloc (.cells (rcArr rc0) 31)) (.cells (rcArr c) 31)
  rw [show ((w.alloc (.cells (rcArr c) 31)).alloc (.cells (rcArr rc0) 31)).heap.size = w.heap.size + 1 + 1 by simp] at RC0
  have RC1 := Lib.hid RC0
  have HB0 := Lib.hid hb0
  have RI := Lib.hid (rc_info hc)
  have AO := Lib.hid (rcArr_one c)
  have AZ := Lib.hid (show (rcArr rc0).size = (rcArr c).size by rw [rcArr_size hc, rcArr_size rc0_ok])
  have hso := (signed_sm q p x hq hp hs).ok
  have EP := Lib.hid (rc_put_sig hc (Sg.sigR sc p x c.body : Nat) (Sg.sigS sc q p x c.body : Nat))
  have CB := Lib.hid (fun W => rbody_any c hs W)
  have CS := Lib.hid (fun W => sign_any x p q _ _ c.body W hq hp hx (by have := body_length hc; omega) rfl rfl)
  have ES : ({ c with r := ((Sg.sigR sc p x c.body : Nat) : Int), s := ((Sg.sigS sc q p x c.body : Nat) : Int) } : Rc) = c.signed sc q p x := rfl
  rw [ES] at EP
  obtain ⟨r, hr⟩ : ∃ r, Sg.sigR sc p x c.body = r := ⟨_, rfl⟩
  obtain ⟨s, hsg⟩ : ∃ s, Sg.sigS sc q p x c.body = s := ⟨_, rfl⟩
  obtain ⟨d, hd⟩ : ∃ d, c.signed sc q p x = d := ⟨_, rfl⟩
  obtain ⟨tb, htb⟩ : ∃ tb, bstr c.body = tb := ⟨_, rfl⟩
  rw [hr, hsg, hd] at EP
  rw [hr, hsg, htb] at CS
  rw [htb] at CB
  rw [hd] at hso ⊢
  have DI := Lib.hid (rc_info hso)
  have DO := Lib.hid (rcArr_one d)
  have DZ := Lib.hid (show (rcArr rc0).size = (rcArr d).size by rw [rcArr_size hso, rcArr_size rc0_ok])
  have CZ := Lib.hid (show 100 + 2 ≤ (rcArr c).size by rw [rcArr_size hc]; omega)
  clear hr hsg hd htb hso ES hb0 hb1 RB RC0 hc hs hx hq hp
  have sz : ((w.alloc (.cells (rcArr c) 31)).alloc (.cells (rcArr rc0) 31)).heap.size = w.heap.size + 1 + 1 := by simp
  have EW := World.setRow_alloc_new ((w.alloc (.cells (rcArr c) 31)).alloc (.cells (rcArr rc0) 31)) (rcArr rc0) (rcArr c) 31
  rw [sz] at EW
  have RZ := heap_alloc_new ((w.alloc (.cells (rcArr c) 31)).alloc (.cells (rcArr rc0) 31)) (.cells (rcArr rc0) 31)
  rw [sz] at RZ
  have EW := Lib.hid EW
  have RZ := Lib.hid RZ
  clear sz
  go_enter Tryz.func12, Tryz.ntmps12
  go_wp2_with (first
    | (refine wpList_load_row rfl 31 (.tmp 3) rfl w.heap.size rfl 31 (rcArr c) (0, 0) _ RA.out Tryz.underlying31 rfl RI.out ?_)
    | (refine wpList_store_row rfl 31 (.tmp 5) (.tmp 6) rfl (w.heap.size + 1 + 1) (rcArr c) rfl rfl 31 _ RZ.out RI.out AZ.out AO.out ?_; rw [EW.out])
    | (refine wpList_load_row rfl 31 (.tmp 3) rfl w.heap.size rfl 31 (rcArr c) (0, 0) _ RA1.out Tryz.underlying31 rfl RI.out ?_))
  generalize ((w.alloc (.cells (rcArr c) 31)).alloc (.cells (rcArr rc0) 31)).alloc (.cells (rcArr c) 31) = W0 at *
  refine (CB.out _).mono ?_
  rintro e w1 ⟨rfl, b1⟩
  go_wp2_with fail
  refine (CS.out _).mono ?_
  rintro e w2 ⟨rfl, b2⟩
  have B2 := Lib.hid (below_join b1 b2)
  have RC2 := Lib.hid (heap_below RC1.out B2.out)
  have RB2 := Lib.hid (heap_below RB1.out B2.out)
  clear b1 b2
  have RC3 := heap_setCells_at [.int .i64 (r : Int), .int .i64 (s : Int)] 100 _ _ RC2.out
  rw [EP.out] at RC3
  have RC3 := Lib.hid RC3
  have RB3 := Lib.hid ((heap_setCells_ne (w := w2) (show w.heap.size + 1 ≠ w.heap.size + 1 + 1 by omega) [.int .i64 (r : Int), .int .i64 (s : Int)] 100).trans RB2.out)
  have B3 := Lib.hid (below_setCells [.int .i64 (r : Int), .int .i64 (s : Int)] 100 (HB0.out.trans (B2.out.mono HB0.out.size)) (show w.heap.size ≤ w.heap.size + 1 + 1 by omega))
  go_wp2_with (first
    | (refine wpList_store_mid rfl 29 (.tmp 11) (.tmp 10) rfl (w.heap.size + 1 + 1) 100 #[.int .i64 (r : Int), .int .i64 (s : Int)] rfl rfl (there_of_row RC2.out 100 2 CZ.out) (sig_info _ _) (sig_one _ _) ?_)
    | (refine wpList_load_row rfl 31 (.tmp 5) rfl (w.heap.size + 1 + 1) rfl 31 (rcArr d) (0, 0) _ RC3.out Tryz.underlying31 rfl DI.out ?_)
    | (refine wpList_store_row rfl 31 (.tmp 4) (.tmp 12) rfl (w.heap.size + 1) (rcArr d) rfl rfl 31 _ RB3.out DI.out DZ.out DO.out ?_))
  refine bodyPost_ret (v := .agg (rcArr d)) (results_cell_row Tryz.results12 _ _ (w.heap.size + 1) 31 (rcArr d) (0, 0) _ rfl (setRow_heap _ _ _ _ _ _ RB3.out) Tryz.underlying31 rfl DI.out) rfl ⟨rfl, ?_⟩
  exact below_setRow B3.out (by omega) _
set_option maxHeartbeats 1000000 in
theorem secret_any (k : Nat) (w : World) (hk : k ≤ 1000) : Calls Tryz.prog 13 #[.int .i64 (k : Int)] w fun e w' => e = .returned (.int .i64 ((5000 + 3 * k : Nat) : Int)) ∧ w = w' := by
  go_enter Tryz.func13, Tryz.ntmps13
  go_wp2_with fail
  go_ret
  exact ⟨ret_int (by omega), rfl⟩
/-- the public number of a kiosk -/
def pubN (p k : Nat) : Nat := 4 ^ (5000 + 3 * k) % p
set_option maxHeartbeats 1000000 in
theorem kpublic_any (k y p : Nat) (w : World) (hp : p = 2305843009213691579) (hk : k ≤ 1000) (hy : pubN p k = y) : Calls Tryz.prog 39 #[.int .i64 (k : Int)] w fun e w' => e = .returned (.int .i64 (y : Int)) ∧ w = w' := by
  have CS := Lib.hid (fun W => secret_any k W hk)
  have CP := Lib.hid (fun W => public_any (5000 + 3 * k) y p W hp (by omega) hy)
  obtain ⟨x, hx⟩ : ∃ x, 5000 + 3 * k = x := ⟨_, rfl⟩
  rw [hx] at CS CP
  clear hx hy hp
  go_enter Tryz.func39, Tryz.ntmps39
  go_wp2_with fail
  refine (CS.out _).mono ?_
  rintro e w' ⟨rfl, rfl⟩
  go_wp2_with fail
  refine (CP.out _).mono ?_
  rintro e w' ⟨rfl, rfl⟩
  go_wp2_with fail
  go_ret
  exact ⟨rfl, rfl⟩
end Go.Proofs.YtpblfpnldbdncaaGreatDoor
