/- The contract of the reference's Pow on numbers. -/
import Derived.Test.YtfligfompdcddaaDigR
namespace Go.Proofs.Ytfligfompdcddaa
open Go.RowKit Go.Sort
set_option linter.unusedVariables false
theorem and1_u8 (n : Nat) (h : n < 256) : bits .and .u8 (n : Int) 1 = ((n % 2 : Nat) : Int) := by
  have h127 : (BitVec.ofInt 8 1).toNat = 2 ^ 1 - 1 := by decide
  have key : (BitVec.ofInt 8 (n : Int) &&& BitVec.ofInt 8 1).toNat = n % 2 := by
    rw [BitVec.toNat_and, BitVec.toNat_ofInt, h127, Nat.and_two_pow_sub_one_eq_mod]
    omega
  show IntKind.u8.wrap ((BitVec.ofInt 8 (n : Int) &&& BitVec.ofInt 8 1).toNat : Nat) = _
  rw [key, wrap_u8, UInt8.toNat_ofNat']
  omega
theorem bit_u8 (C s : Nat) (h : C < 256) : bits .and .u8 (((C : Nat) : Int) / 2 ^ s) 1 = ((C / 2 ^ s % 2 : Nat) : Int) := by
  have e : (((C : Nat) : Int) / 2 ^ s) = ((C / 2 ^ s : Nat) : Int) := by simp
  rw [e, and1_u8 _ (Nat.lt_of_le_of_lt (Nat.div_le_self _ _) h)]
/-- numbers that bear a multiplication and a division -/
theorem quo_ok {a m : Nat} (ha : a < 256 ^ 30) (hm : m < 256 ^ 30) (h0 : 0 < m) (w : World) : Calls Try.prog 6 #[.string (bstr (Nb.enc a)), .string (bstr (Nb.enc m))] w fun e w' => e = .returned (.tuple #[.string (bstr (Nb.enc (a / m))), .string (bstr (Nb.enc (a % m))), .bool true]) ∧ Below w.heap.size w w' :=
  quo_any a m (Nat.lt_trans ha (by decide)) (Nat.lt_trans hm (by decide)) h0 w
theorem mul_ok {a b : Nat} (ha : a < 256 ^ 30) (hb : b < 256 ^ 30) (w : World) : Calls Try.prog 7 #[.string (bstr (Nb.enc a)), .string (bstr (Nb.enc b))] w fun e w' => e = .returned (.string (bstr (Nb.enc (a * b)))) ∧ Below w.heap.size w w' :=
  nmul_any a b (Nat.lt_trans ha (by decide)) (Nat.lt_trans hb (by decide)) w
theorem mul_lt8 {x y m : Nat} (hx : x < m) (hy : y < m) (hm : m < 256 ^ 8) : x * y < 256 ^ 30 := by
  have h1 : x * y ≤ 256 ^ 8 * 256 ^ 8 := Nat.mul_le_mul (by omega) (by omega)
  omega
theorem pow_sq (a E m : Nat) : (a ^ E % m) * (a ^ E % m) % m = a ^ (2 * E) % m := by
  rw [← Nat.mul_mod, ← Nat.pow_add, Nat.two_mul]
theorem pow_one_more (a E m : Nat) : (a ^ E % m) * (a % m) % m = a ^ (E + 1) % m := by
  rw [← Nat.mul_mod, Nat.pow_succ]
set_option maxHeartbeats 4000000 in
set_option maxRecDepth 100000 in
theorem rnpow_any (a e m : Nat) (ha : a < 256 ^ 8) (he : e < 256 ^ 8) (hm : m < 256 ^ 8) (h0 : 0 < m) (w : World) :
    Calls Try.prog 8 #[.string (bstr (Nb.enc a)), .string (bstr (Nb.enc e)), .string (bstr (Nb.enc m))] w fun r w' => r = .returned (.tuple #[.string (bstr (Nb.enc (a ^ e % m))), .bool true]) ∧ Below w.heap.size w w' := by
  have C1 := Lib.hid (quo_ok (Nat.lt_trans ha (by decide)) (Nat.lt_trans hm (by decide)) h0 w)
  have C2 := Lib.hid (fun W => of_int 1 1 W rfl (by omega))
  have C3 := Lib.hid (fun W => quo_ok (a := 1) (m := m) (by decide) (Nat.lt_trans hm (by decide)) h0 W)
  obtain ⟨L, hL⟩ : ∃ L, (Nb.enc e).length = L := ⟨_, rfl⟩
  have hL8 : L ≤ 8 := by rw [← hL]; exact (Nb.enc_length_le e 8).2 he
  have HL := Lib.hid hL
  obtain ⟨c, hc⟩ : ∃ c, bstr (Nb.enc e) = c := ⟨_, rfl⟩
  have hcs : c.size = L := by rw [← hc, bstr_size, hL]
  have CG : Hid (∀ (k : Nat) (hk : k < c.size), (Nb.enc e)[k]? = some c[k]) := by
    subst hc
    intro k hk
    rw [← List.getElem?_toArray]
    exact Array.getElem?_eq_getElem (xs := (Nb.enc e).toArray) hk
  have HM := Lib.hid hm
  rw [hc]
  obtain ⟨am, eam⟩ : ∃ x, a % m = x := ⟨_, rfl⟩
  obtain ⟨om, eom⟩ : ∃ x, 1 % m = x := ⟨_, rfl⟩
  have EAM := Lib.hid eam
  have EOM := Lib.hid eom
  have ham : am < m := by rw [← eam]; exact Nat.mod_lt _ h0
  have hom : om < m := by rw [← eom]; exact Nat.mod_lt _ h0
  rw [eam] at C1
  rw [eom] at C3
  have VE : Hid (Nb.val ((Nb.enc e).take L) = e) := by
    show _ = _
    rw [← hL, List.take_length, Nb.val_enc]
  clear ha he hm hL hc eam eom
  go_enter Try.func8, Try.ntmps8
  go_wp2_with fail
  refine C1.out.mono ?_
  rintro r w1 ⟨rfl, b1⟩
  have B1 := Lib.hid b1
  clear b1 C1
  go_wp2_with fail
  refine (C2.out _).mono ?_
  rintro r w2 ⟨rfl, b2⟩
  have B2 := Lib.hid (below_join B1.out b2)
  clear b2 C2 B1
  go_wp2_with fail
  refine (C3.out _).mono ?_
  rintro r w3 ⟨rfl, b3⟩
  have B3 := Lib.hid (below_join B2.out b3)
  clear b3 C3 B2
  go_wp2_with fail
  go_loopw [12, 14] (fun o kv wr => ∃ (k X : Nat), k ≤ L ∧ kv = .int .i64 k ∧ o = .string (bstr (Nb.enc X)) ∧ X = a ^ Nb.val ((Nb.enc e).take k) % m ∧ Below w.heap.size w wr) (fun _ kv _ => L - (intOf kv).toNat)
  case atStart => exact ⟨0, om, Nat.zero_le _, rfl, rfl, by rw [List.take_zero]; exact EOM.out.symm, B3.out⟩
  case round =>
    obtain ⟨k, X, hk, rfl, rfl, hX, hB⟩ := hrel
    have HX := Lib.hid hX
    have HB := Lib.hid hB
    clear hX hB
    by_cases hlt : k < L
    · have hkL : k < c.size := by omega
      have hkl2 : (k : Int) < (c.size : Int) := by omega
      have hval := CG.out k hkL
      obtain ⟨C, hC⟩ : ∃ C, c[k].toNat = C := ⟨_, rfl⟩
      have C8 : C < 256 := by rw [← hC]; exact c[k].toNat_lt
      have NV : Hid (Nb.val ((Nb.enc e).take (k + 1)) = Nb.val ((Nb.enc e).take k) * 256 + C) := by
        show _ = _
        have hke : k < (Nb.enc e).length := by rw [HL.out]; exact hlt
        rw [Nb.val_take_succ _ _ hke, ← hC]
        rw [List.getElem?_eq_getElem hke] at hval
        injection hval with hval
        rw [hval]
      obtain ⟨V, eV⟩ : ∃ V, Nb.val ((Nb.enc e).take k) = V := ⟨_, rfl⟩
      rw [eV] at HX NV
      have HC := Lib.hid hC
      clear hval eV hC
      go_wp2_with fail
      go_loopw [12, 15] (fun o bv wx => ∃ (t Y : Nat) (z : Int), t ≤ 8 ∧ z = (t : Int) - 1 ∧ bv = .int .i64 z ∧ o = .string (bstr (Nb.enc Y)) ∧ Y = a ^ (V * 2 ^ (8 - t) + C / 2 ^ t) % m ∧ Below w.heap.size w wx) (fun _ bv _ => (intOf bv + 1).toNat)
      case atStart => exact ⟨8, X, _, Nat.le_refl _, rfl, rfl, rfl, by rw [HX.out, Nat.div_eq_of_lt (by omega)]; simp, HB.out⟩
      case round =>
        obtain ⟨t, Y, z, ht, hz, rfl, rfl, hY, hB2⟩ := hrel
        have HY := Lib.hid hY
        have HB2 := Lib.hid hB2
        clear hY hB2
        rcases Nat.eq_zero_or_pos t with h00 | h00
        · subst h00
          have hz' : z = -1 := by simpa using hz
          subst hz'
          clear hz
          have E : Hid (Y = a ^ Nb.val ((Nb.enc e).take (k + 1)) % m) := by
            show _ = _
            rw [NV.out, HY.out]
            simp
          go_wp2_with fail
          refine ⟨⟨k + 1, Y, by omega, by go_num, rfl, E.out, HB2.out⟩, by simp [intOf]; omega⟩
        · obtain ⟨s, rfl⟩ : ∃ s, t = s + 1 := ⟨t - 1, by omega⟩
          obtain rfl : z = (s : Int) := by rw [hz]; omega
          clear hz h00
          have hYm : Y < m := by rw [HY.out]; exact Nat.mod_lt _ h0
          have CM := Lib.hid (mul_ok (Nat.lt_trans hYm (Nat.lt_trans HM.out (by decide))) (Nat.lt_trans hYm (Nat.lt_trans HM.out (by decide))) (a := Y) (b := Y) wr)
          have CQ := Lib.hid (fun W => quo_ok (mul_lt8 hYm hYm HM.out) (Nat.lt_trans HM.out (by decide)) h0 W)
          obtain ⟨Z, eZ⟩ : ∃ Z, Y * Y % m = Z := ⟨_, rfl⟩
          have hZm : Z < m := by rw [← eZ]; exact Nat.mod_lt _ h0
          have HZ : Hid (Z = a ^ (2 * (V * 2 ^ (8 - (s + 1)) + C / 2 ^ (s + 1))) % m) := by
            show _ = _
            rw [← eZ, HY.out, pow_sq]
          have e2 : V * 2 ^ (8 - s) = 2 * (V * 2 ^ (8 - (s + 1))) := by
            rw [show 8 - s = (8 - (s + 1)) + 1 by omega, Nat.pow_succ]
            generalize 2 ^ (8 - (s + 1)) = p
            rw [Nat.mul_comm p 2, Nat.mul_left_comm]
          have e3 : C / 2 ^ s = 2 * (C / 2 ^ (s + 1)) + C / 2 ^ s % 2 := by
            rw [Nat.pow_succ, ← Nat.div_div_eq_div_mul]
            omega
          rw [eZ] at CQ
          have s0 : (0 : Int) ≤ (s : Int) := by omega
          have s1 : (s : Int) ≤ 7 := by omega
          have E2 := Lib.hid e2
          have E3 := Lib.hid e3
          have hCX := HC.out
          clear e2 e3 eZ
          by_cases hbit : C / 2 ^ s % 2 = 1
          · have NE : Hid (a ^ (V * 2 ^ (8 - s) + C / 2 ^ s) % m = Z * am % m) := by
              show _ = _
              rw [HZ.out, ← EAM.out, pow_one_more, E2.out]
              have := E3.out
              rw [hbit] at this
              rw [this]
              congr 2
              omega
            have hbt : (bits BinOp.and IntKind.u8 (((C : Nat) : Int) / 2 ^ s) 1 == 1) = true := by rw [bit_u8 C s C8, hbit]; rfl
            have CM2 := Lib.hid (fun W => mul_ok (Nat.lt_trans hZm (Nat.lt_trans HM.out (by decide))) (Nat.lt_trans ham (Nat.lt_trans HM.out (by decide))) (a := Z) (b := am) W)
            have CQ2 := Lib.hid (fun W => quo_ok (mul_lt8 hZm ham HM.out) (Nat.lt_trans HM.out (by decide)) h0 W)
            clear hbit
            go_wp2_with fail
            refine CM.out.mono ?_
            rintro r w4 ⟨rfl, b4⟩
            have B4 := Lib.hid (below_join HB2.out b4)
            clear b4 CM HB2
            go_wp2_with fail
            refine (CQ.out _).mono ?_
            rintro r w5 ⟨rfl, b5⟩
            have B5 := Lib.hid (below_join B4.out b5)
            clear b5 CQ B4
            go_wp2_with fail
            refine (CM2.out _).mono ?_
            rintro r w6 ⟨rfl, b6⟩
            have B6 := Lib.hid (below_join B5.out b6)
            clear b6 CM2 B5
            go_wp2_with fail
            refine (CQ2.out _).mono ?_
            rintro r w7 ⟨rfl, b7⟩
            have B7 := Lib.hid (below_join B6.out b7)
            clear b7 CQ2 B6
            go_wp2_with fail
            refine ⟨⟨s, Z * am % m, _, by omega, rfl, rfl, rfl, NE.out.symm, B7.out⟩, ?_⟩
            show ((s : Int) - 1 + 1).toNat < ((s : Int) + 1).toNat
            omega
          · have NE : Hid (a ^ (V * 2 ^ (8 - s) + C / 2 ^ s) % m = Z) := by
              show _ = _
              rw [HZ.out, E2.out]
              have := E3.out
              have h3 : C / 2 ^ s % 2 = 0 := by omega
              rw [h3] at this
              rw [this]
              congr 2
              omega
            have hbt : (bits BinOp.and IntKind.u8 (((C : Nat) : Int) / 2 ^ s) 1 == 1) = false := by
              rw [bit_u8 C s C8, show C / 2 ^ s % 2 = 0 by omega]; rfl
            clear hbit
            go_wp2_with fail
            refine CM.out.mono ?_
            rintro r w4 ⟨rfl, b4⟩
            have B4 := Lib.hid (below_join HB2.out b4)
            clear b4 CM HB2
            go_wp2_with fail
            refine (CQ.out _).mono ?_
            rintro r w5 ⟨rfl, b5⟩
            have B5 := Lib.hid (below_join B4.out b5)
            clear b5 CQ B4
            go_wp2_with fail
            refine ⟨⟨s, Z, _, by omega, rfl, rfl, rfl, NE.out.symm, B5.out⟩, ?_⟩
            show ((s : Int) - 1 + 1).toNat < ((s : Int) + 1).toNat
            omega
    · obtain rfl : k = L := by omega
      have E : Hid (X = a ^ e % m) := by show _ = _; rw [HX.out, VE.out]
      go_wp2_with fail
      go_ret2
      exact ⟨by rw [E.out]; rfl, HB.out⟩
end Go.Proofs.Ytfligfompdcddaa
