/- Contracts of package group's small functions. Contracts of the reference's package sortesref04. Contracts of Pow, Inv, Member of package group and of the reference. Contracts of Member (package group, and the reference), and of the laws' sanity. The numbers of texts: plain laws, and the contracts of number, Scalar and Element in the program and in the reference. The contracts of the reference's number, and of Scalar and Element in the program and in the reference. -/
import Derived.Test.YtpblfpnldbdncaaGreatDoorProg
import Derived.Test.YtpblfpnldbdncaaGreatDoorShelf
import Derived.Test.YtpblfpnldbdncaaGreatDoorG01
import Derived.Test.YtpblfpnldbdncaaGreatDoorG02
import Derived.WalkLawsBesides
import Derived.RegionTactic
import Derived.Deep.QuietTactic
import Derived.BigQuiet
import Derived.Test.YtpblfpnldbdncaaGreatDoorG06
namespace Go.Proofs.YtpblfpnldbdncaaGreatDoor
open Go.RowKit
set_option linter.unusedVariables false

theorem residue_any (a m : Int) (w : World) (h1 : 1 ≤ m) (h2 : m ≤ 9223372036854775807) (ha : -9223372036854775808 ≤ a) (hb : a ≤ 9223372036854775807) :
    Calls Tryz.prog 133 #[.int .i64 a, .int .i64 m] w fun e w' => e = .returned (.int .i64 (a % m)) ∧ w = w' := by
  have hl := Num.tmod_lo a m h1
  go_enter Tryz.func133, Tryz.ntmps133
  go_wp2
  · go_ret
    exact ⟨ret_int (Num.tmod_neg a m h1 ‹_›), rfl⟩
  · go_ret
    exact ⟨ret_int (Num.tmod_pos a m h1 ‹_›), rfl⟩

theorem plus_any (x y m : Int) (w : World) (h1 : 1 ≤ m) (h2 : m ≤ 9223372036854775807) (hx0 : 0 ≤ x) (hx : x < m) (hy0 : 0 ≤ y) (hy : y < m) :
    Calls Tryz.prog 135 #[.int .u64 x, .int .u64 y, .int .u64 m] w fun e w' => e = .returned (.int .u64 ((x + y) % m)) ∧ w = w' := by
  go_enter Tryz.func135, Tryz.ntmps135
  go_wp2
  · go_ret
    exact ⟨ret_int (Num.plus_ge x y m hx hy ‹_›), rfl⟩
  · go_ret
    exact ⟨ret_int (Num.plus_lt x y m hx0 hy0 ‹_›), rfl⟩

theorem residue_eq (a m x : Int) (w : World) (h1 : 1 ≤ m) (h2 : m ≤ 9223372036854775807) (ha : -9223372036854775808 ≤ a) (hb : a ≤ 9223372036854775807) (h : a % m = x) :
    Calls Tryz.prog 133 #[.int .i64 a, .int .i64 m] w fun e w' => e = .returned (.int .i64 x) ∧ w = w' := by
  rw [← h]; exact residue_any a m w h1 h2 ha hb

set_option maxHeartbeats 400000 in
theorem mul_core (a b : Int) (x y M : Nat) (w : World) (h1 : 1 ≤ M) (h2 : M ≤ 9223372036854775807) (ha : -9223372036854775808 ≤ a) (ha' : a ≤ 9223372036854775807) (hb : -9223372036854775808 ≤ b) (hb' : b ≤ 9223372036854775807)
    (hA : Hid (a % (M : Int) = (x : Int))) (hB : Hid (b % (M : Int) = (y : Int))) (hx : x < M) (hy : y < M) :
    Calls Tryz.prog 107 #[.int .i64 a, .int .i64 b, .int .i64 (M : Int)] w fun e w' => e = .returned (.int .i64 (Num.mulN x y M : Nat)) ∧ w = w' := by
  have hm0 : decide ((M : Int) < 1) = false := by simp; omega
  go_enter Tryz.func107, Tryz.ntmps107
  go_wp2_with fail
  refine (residue_eq a M x _ (by omega) (by omega) (by omega) (by omega) hA.out).mono ?_
  rintro e w' ⟨rfl, rfl⟩
  go_wp2_with fail
  refine (residue_eq b M y _ (by omega) (by omega) (by omega) (by omega) hB.out).mono ?_
  rintro e w' ⟨rfl, rfl⟩
  go_wp2_with fail
  refine (Tryz.bits_Len64 _ _ (by omega) (by omega)).mono ?_
  rintro e w' ⟨rfl, rfl⟩
  go_wp2_with fail
  have eL := Num.bitLen_le y
  have eY := Num.lt_bitLen y (by omega)
  generalize Lib.bitLen y = L at *
  go_loop [10, 12, 28] (fun r _ c => ∃ k : Nat, k ≤ L ∧ c = .int .i64 k ∧ r = .int .u64 ((Num.mulAt x y M L k : Nat) : Int)) (fun _ _ c => L - (intOf c).toNat)
  case atStart => exact ⟨0, Nat.zero_le _, rfl, by simp [Num.mulAt_start x y M L eY]⟩
  case round =>
    obtain ⟨k, hk, rfl, rfl⟩ := hrel
    have hr := Num.mulAt_lt x y M L k (by omega)
    by_cases hlt : k < L
    · by_cases hbit : y / 2 ^ (L - 1 - k) % 2 = 1
      · have hbt : (bits BinOp.and IntKind.u64 ((y : Int) / 2 ^ (L - 1 - k)) 1 == 1) = true := Num.bit_true y _ (by omega) hbit
        have H1 := Lib.hid (Num.mulAt_one' x y M L k hlt hbit)
        have hn := Int.emod_nonneg ((Num.mulAt x y M L k : Int) + Num.mulAt x y M L k) (show (M : Int) ≠ 0 by omega)
        have hl := Int.emod_lt_of_pos ((Num.mulAt x y M L k : Int) + Num.mulAt x y M L k) (show 0 < (M : Int) by omega)
        go_wp2_with fail
        refine (plus_any _ _ _ _ (by omega) (by omega) (by omega) (by omega) (by omega) (by omega)).mono ?_
        rintro e w' ⟨rfl, rfl⟩
        go_wp2_with fail
        refine (plus_any _ _ _ _ (by omega) (by omega) (by omega) (by omega) (by omega) (by omega)).mono ?_
        rintro e w' ⟨rfl, rfl⟩
        go_wp2_with fail
        go_round
        case rel => exact ⟨k + 1, by omega, by go_num, by rw [H1.out]⟩
        case measure => simp [intOf]; omega
      · have hbt : (bits BinOp.and IntKind.u64 ((y : Int) / 2 ^ (L - 1 - k)) 1 == 1) = false := Num.bit_false y _ (by omega) hbit
        have H1 := Lib.hid (Num.mulAt_zero' x y M L k hlt hbit)
        go_wp2_with fail
        refine (plus_any _ _ _ _ (by omega) (by omega) (by omega) (by omega) (by omega) (by omega)).mono ?_
        rintro e w' ⟨rfl, rfl⟩
        go_wp2_with fail
        go_round
        case rel => exact ⟨k + 1, by omega, by go_num, by rw [H1.out]⟩
        case measure => simp [intOf]; omega
    · obtain rfl : k = L := by omega
      go_wp2
      go_ret
      exact ⟨ret_int (by rw [Num.mulAt_end]), rfl⟩

theorem mul_any (a b m : Int) (w : World) (ha : -9223372036854775808 ≤ a) (ha' : a ≤ 9223372036854775807) (hb : -9223372036854775808 ≤ b) (hb' : b ≤ 9223372036854775807) (h2 : m ≤ 9223372036854775807) :
    Calls Tryz.prog 107 #[.int .i64 a, .int .i64 b, .int .i64 m] w fun e w' => e = .returned (.int .i64 (Num.mulZ a b m)) ∧ w = w' := by
  by_cases h1 : m < 1
  · rw [Num.mulZ, if_pos h1]
    go_enter Tryz.func107, Tryz.ntmps107
    go_wp2_with fail
    go_ret
    exact ⟨rfl, rfl⟩
  · rw [Num.mulZ, if_neg h1]
    obtain ⟨x, y, M, rfl, hx, hy, hxl, hyl, hM⟩ := Num.natres2 a b m (by omega)
    rw [← Num.mul_final a b x y M hx hy]
    exact mul_core a b x y M w hM (by omega) ha ha' hb hb' hx hy hxl hyl

end Go.Proofs.YtpblfpnldbdncaaGreatDoor
namespace Go.Proofs.YtpblfpnldbdncaaGreatDoor
open Go.RowKit
set_option linter.unusedVariables false

theorem rresidue_any (a m : Int) (w : World) (h1 : 1 ≤ m) (h2 : m ≤ 9223372036854775807) (ha : -9223372036854775808 ≤ a) (hb : a ≤ 9223372036854775807) :
    Calls Tryz.prog 121 #[.int .i64 a, .int .i64 m] w fun e w' => e = .returned (.int .i64 (a % m)) ∧ w = w' := by
  have hl := Num.tmod_lo a m h1
  go_enter Tryz.func121, Tryz.ntmps121
  go_wp2
  · go_ret
    exact ⟨ret_int (Num.tmod_neg a m h1 ‹_›), rfl⟩
  · go_ret
    exact ⟨ret_int (Num.tmod_pos a m h1 ‹_›), rfl⟩
theorem rresidue_eq (a m x : Int) (w : World) (h1 : 1 ≤ m) (h2 : m ≤ 9223372036854775807) (ha : -9223372036854775808 ≤ a) (hb : a ≤ 9223372036854775807) (h : a % m = x) :
    Calls Tryz.prog 121 #[.int .i64 a, .int .i64 m] w fun e w' => e = .returned (.int .i64 x) ∧ w = w' := by
  rw [← h]; exact rresidue_any a m w h1 h2 ha hb

theorem rplus_any (x y m : Int) (w : World) (h1 : 1 ≤ m) (h2 : m ≤ 9223372036854775807) (hx0 : 0 ≤ x) (hx : x < m) (hy0 : 0 ≤ y) (hy : y < m) :
    Calls Tryz.prog 122 #[.int .i64 x, .int .i64 y, .int .i64 m] w fun e w' => e = .returned (.int .i64 ((x + y) % m)) ∧ w = w' := by
  by_cases h : m - y ≤ x
  · have H := Lib.hid (Num.plus_ge x y m hx hy (by omega))
    go_enter Tryz.func122, Tryz.ntmps122
    go_wp2
    go_ret
    exact ⟨ret_int (by rw [← H.out]; omega), rfl⟩
  · have H := Lib.hid (Num.plus_lt x y m hx0 hy0 (by omega))
    go_enter Tryz.func122, Tryz.ntmps122
    go_wp2
    go_ret
    exact ⟨ret_int H.out, rfl⟩

theorem radd_any (a b m : Int) (w : World) (ha : -9223372036854775808 ≤ a) (ha' : a ≤ 9223372036854775807) (hb : -9223372036854775808 ≤ b) (hb' : b ≤ 9223372036854775807) (h2 : m ≤ 9223372036854775807) :
    Calls Tryz.prog 99 #[.int .i64 a, .int .i64 b, .int .i64 m] w fun e w' => e = .returned (.int .i64 (Num.addZ a b m)) ∧ w = w' := by
  by_cases h1 : m < 1
  · rw [Num.addZ, if_pos h1]
    go_enter Tryz.func99, Tryz.ntmps99
    go_wp2_with fail
    go_ret
    exact ⟨rfl, rfl⟩
  · rw [Num.addZ, if_neg h1]
    obtain ⟨x, y, M, rfl, hx, hy, hxl, hyl, hM⟩ := Num.natres2 a b m (by omega)
    rw [Int.add_emod, hx, hy]
    have hx := Lib.hid hx
    have hy := Lib.hid hy
    have hn := Int.emod_nonneg ((x : Int) + y) (show (M : Int) ≠ 0 by omega)
    have hl := Int.emod_lt_of_pos ((x : Int) + y) (show 0 < (M : Int) by omega)
    go_enter Tryz.func99, Tryz.ntmps99
    go_wp2_with fail
    refine (rresidue_eq a M x _ (by omega) (by omega) (by omega) (by omega) hx.out).mono ?_
    rintro e w' ⟨rfl, rfl⟩
    go_wp2_with fail
    refine (rresidue_eq b M y _ (by omega) (by omega) (by omega) (by omega) hy.out).mono ?_
    rintro e w' ⟨rfl, rfl⟩
    go_wp2_with fail
    refine (rplus_any _ _ _ _ (by omega) (by omega) (by omega) (by omega) (by omega) (by omega)).mono ?_
    rintro e w' ⟨rfl, rfl⟩
    go_wp2_with fail
    go_ret
    exact ⟨rfl, rfl⟩

set_option maxHeartbeats 400000 in
theorem rmul_core (a b : Int) (x y M : Nat) (w : World) (h1 : 1 ≤ M) (h2 : M ≤ 9223372036854775807) (ha : -9223372036854775808 ≤ a) (ha' : a ≤ 9223372036854775807) (hb : -9223372036854775808 ≤ b) (hb' : b ≤ 9223372036854775807)
    (hA : Hid (a % (M : Int) = (x : Int))) (hB : Hid (b % (M : Int) = (y : Int))) (hx : x < M) (hy : y < M) :
    Calls Tryz.prog 100 #[.int .i64 a, .int .i64 b, .int .i64 (M : Int)] w fun e w' => e = .returned (.int .i64 (Num.mulN x y M : Nat)) ∧ w = w' := by
  have hm0 : decide ((M : Int) < 1) = false := by simp; omega
  by_cases hsm : x < 2147483648 ∧ y < 2147483648
  · obtain ⟨hs1, hs2⟩ := hsm
    have hd1 : decide ((x : Int) < 2147483648) = true := by simp; omega
    have hd2 : decide ((y : Int) < 2147483648) = true := by simp; omega
    have hp0 : 0 ≤ (x : Int) * y := by
      have h4 : ((x * y : Nat) : Int) = x * y := Int.natCast_mul x y
      omega
    have hp1 : (x : Int) * y ≤ 9223372036854775807 := by
      have h3 : x * y ≤ 2147483647 * 2147483647 := Nat.mul_le_mul (by omega) (by omega)
      have h4 : ((x * y : Nat) : Int) = x * y := Int.natCast_mul x y
      omega
    go_enter Tryz.func100, Tryz.ntmps100
    go_wp2_with fail
    refine (rresidue_eq a M x _ (by omega) (by omega) (by omega) (by omega) hA.out).mono ?_
    rintro e w' ⟨rfl, rfl⟩
    go_wp2_with fail
    refine (rresidue_eq b M y _ (by omega) (by omega) (by omega) (by omega) hB.out).mono ?_
    rintro e w' ⟨rfl, rfl⟩
    go_wp2_with fail
    go_ret
    exact ⟨ret_int (by unfold Num.mulN; simp), rfl⟩
  · have fin : ∀ (x' y' o : Nat), x' < M → o < M → ¬ 0 < y' → (o + x' * y') % M = Num.mulN x y M → (o : Int) = (Num.mulN x y M : Nat) := by
      intro x' y' o _ ho hy0 e
      obtain rfl : y' = 0 := by omega
      rw [Nat.mul_zero, Nat.add_zero, Nat.mod_eq_of_lt ho] at e
      rw [e]
    have FIN := Lib.hid fin
    clear fin
    have hd : (decide ((x : Int) < 2147483648) = false) ∨ (decide ((x : Int) < 2147483648) = true ∧ decide ((y : Int) < 2147483648) = false) := by simp only [decide_eq_false_iff_not, decide_eq_true_eq]; omega
    rcases hd with hd | ⟨hd, hd2⟩
    · go_enter Tryz.func100, Tryz.ntmps100
      go_wp2_with fail
      refine (rresidue_eq a M x _ (by omega) (by omega) (by omega) (by omega) hA.out).mono ?_
      rintro e w' ⟨rfl, rfl⟩
      go_wp2_with fail
      refine (rresidue_eq b M y _ (by omega) (by omega) (by omega) (by omega) hB.out).mono ?_
      rintro e w' ⟨rfl, rfl⟩
      go_wp2_with fail
      go_loop [7, 8, 9] (fun x' y' o' => ∃ p q o : Nat, p < M ∧ q < M ∧ o < M ∧ x' = .int .i64 p ∧ y' = .int .i64 q ∧ o' = .int .i64 o ∧ Hid ((o + p * q) % M = Num.mulN x y M)) (fun _ y' _ => (intOf y').toNat)
      case atStart => exact ⟨x, y, 0, hx, hy, by omega, rfl, rfl, rfl, by simp [Hid, Num.mulN]⟩
      case round =>
        obtain ⟨p, q, o, hp, hq, ho, rfl, rfl, rfl, HI⟩ := hrel
        by_cases hpos : 0 < q
        · by_cases hbit : q % 2 = 1
          · have hbt : ((q : Int) % 2 == 1) = true := by simp; omega
            go_wp2_with fail
            refine (rplus_any _ _ _ _ (by omega) (by omega) (by omega) (by omega) (by omega) (by omega)).mono ?_
            rintro e w' ⟨rfl, rfl⟩
            go_wp2_with fail
            refine (rplus_any _ _ _ _ (by omega) (by omega) (by omega) (by omega) (by omega) (by omega)).mono ?_
            rintro e w' ⟨rfl, rfl⟩
            go_wp2_with fail
            go_round
            case rel => exact ⟨(p + p) % M, q / 2, (o + p) % M, Nat.mod_lt _ (by omega), by omega, Nat.mod_lt _ (by omega), by simp, by simp, by simp, (Num.mulL_odd o p q M hbit).trans HI.out⟩
            case measure => simp [intOf]; omega
          · have hbt : ((q : Int) % 2 == 1) = false := by simp; omega
            go_wp2_with fail
            refine (rplus_any _ _ _ _ (by omega) (by omega) (by omega) (by omega) (by omega) (by omega)).mono ?_
            rintro e w' ⟨rfl, rfl⟩
            go_wp2_with fail
            go_round
            case rel => exact ⟨(p + p) % M, q / 2, o, Nat.mod_lt _ (by omega), by omega, ho, by simp, by simp, rfl, (Num.mulL_even o p q M (by omega)).trans HI.out⟩
            case measure => simp [intOf]; omega
        · go_wp2
          go_ret
          exact ⟨ret_int (FIN.out p q o hp ho hpos HI.out), rfl⟩
    · go_enter Tryz.func100, Tryz.ntmps100
      go_wp2_with fail
      refine (rresidue_eq a M x _ (by omega) (by omega) (by omega) (by omega) hA.out).mono ?_
      rintro e w' ⟨rfl, rfl⟩
      go_wp2_with fail
      refine (rresidue_eq b M y _ (by omega) (by omega) (by omega) (by omega) hB.out).mono ?_
      rintro e w' ⟨rfl, rfl⟩
      go_wp2_with fail
      go_loop [7, 8, 9] (fun x' y' o' => ∃ p q o : Nat, p < M ∧ q < M ∧ o < M ∧ x' = .int .i64 p ∧ y' = .int .i64 q ∧ o' = .int .i64 o ∧ Hid ((o + p * q) % M = Num.mulN x y M)) (fun _ y' _ => (intOf y').toNat)
      case atStart => exact ⟨x, y, 0, hx, hy, by omega, rfl, rfl, rfl, by simp [Hid, Num.mulN]⟩
      case round =>
        obtain ⟨p, q, o, hp, hq, ho, rfl, rfl, rfl, HI⟩ := hrel
        by_cases hpos : 0 < q
        · by_cases hbit : q % 2 = 1
          · have hbt : ((q : Int) % 2 == 1) = true := by simp; omega
            go_wp2_with fail
            refine (rplus_any _ _ _ _ (by omega) (by omega) (by omega) (by omega) (by omega) (by omega)).mono ?_
            rintro e w' ⟨rfl, rfl⟩
            go_wp2_with fail
            refine (rplus_any _ _ _ _ (by omega) (by omega) (by omega) (by omega) (by omega) (by omega)).mono ?_
            rintro e w' ⟨rfl, rfl⟩
            go_wp2_with fail
            go_round
            case rel => exact ⟨(p + p) % M, q / 2, (o + p) % M, Nat.mod_lt _ (by omega), by omega, Nat.mod_lt _ (by omega), by simp, by simp, by simp, (Num.mulL_odd o p q M hbit).trans HI.out⟩
            case measure => simp [intOf]; omega
          · have hbt : ((q : Int) % 2 == 1) = false := by simp; omega
            go_wp2_with fail
            refine (rplus_any _ _ _ _ (by omega) (by omega) (by omega) (by omega) (by omega) (by omega)).mono ?_
            rintro e w' ⟨rfl, rfl⟩
            go_wp2_with fail
            go_round
            case rel => exact ⟨(p + p) % M, q / 2, o, Nat.mod_lt _ (by omega), by omega, ho, by simp, by simp, rfl, (Num.mulL_even o p q M (by omega)).trans HI.out⟩
            case measure => simp [intOf]; omega
        · go_wp2
          go_ret
          exact ⟨ret_int (FIN.out p q o hp ho hpos HI.out), rfl⟩

theorem rmul_any (a b m : Int) (w : World) (ha : -9223372036854775808 ≤ a) (ha' : a ≤ 9223372036854775807) (hb : -9223372036854775808 ≤ b) (hb' : b ≤ 9223372036854775807) (h2 : m ≤ 9223372036854775807) :
    Calls Tryz.prog 100 #[.int .i64 a, .int .i64 b, .int .i64 m] w fun e w' => e = .returned (.int .i64 (Num.mulZ a b m)) ∧ w = w' := by
  by_cases h1 : m < 1
  · rw [Num.mulZ, if_pos h1]
    go_enter Tryz.func100, Tryz.ntmps100
    go_wp2_with fail
    go_ret
    exact ⟨rfl, rfl⟩
  · rw [Num.mulZ, if_neg h1]
    obtain ⟨x, y, M, rfl, hx, hy, hxl, hyl, hM⟩ := Num.natres2 a b m (by omega)
    rw [← Num.mul_final a b x y M hx hy]
    exact rmul_core a b x y M w hM (by omega) ha ha' hb hb' hx hy hxl hyl
end Go.Proofs.YtpblfpnldbdncaaGreatDoor
namespace Go.Proofs.YtpblfpnldbdncaaGreatDoor
open Go.RowKit
set_option linter.unusedVariables false

theorem pow1_any (a b m : Int) (p : Addr) (w : World) (ha : -9223372036854775808 ≤ a) (ha' : a ≤ 9223372036854775807) (hb : -9223372036854775808 ≤ b) (hb' : b ≤ 9223372036854775807) (h2 : m ≤ 9223372036854775807) (hc : w.cell? p = some (.int .i64 m)) :
    Calls Tryz.prog 136 #[.int .i64 a, .int .i64 b, .pointer (some p)] w fun e w' => e = .returned (.int .i64 (Num.mulZ a b m)) ∧ w = w' := by
  go_enter Tryz.func136, Tryz.ntmps136
  go_wp2_with fail
  refine (mul_any a b m _ ha ha' hb hb' h2).mono ?_
  rintro e w' ⟨rfl, rfl⟩
  go_wp2_with fail
  go_ret
  exact ⟨rfl, rfl⟩

theorem mulZ_bd (a b m : Int) (h1 : 1 ≤ m) : 0 ≤ Num.mulZ a b m ∧ Num.mulZ a b m < m := by
  rw [Num.mulZ, if_neg (by omega)]
  exact ⟨Int.emod_nonneg _ (by omega), Int.emod_lt_of_pos _ (by omega)⟩

set_option maxHeartbeats 400000 in
theorem pow_core (a0 : Int) (n0 : Nat) (m : Int) (w : World) (ha : -9223372036854775808 ≤ a0) (ha' : a0 ≤ 9223372036854775807) (hn' : n0 ≤ 9223372036854775807) (h1 : 1 ≤ m) (h2 : m ≤ 9223372036854775807) :
    Calls Tryz.prog 108 #[.int .i64 a0, .int .i64 (n0 : Int), .int .i64 m] w fun e w' => e = .returned (.int .i64 (Num.powZ a0 n0 m)) ∧ Below w.heap.size w w' := by
  have hd1 : decide (m < 1) = false := by simp; omega
  have hd2 : decide ((n0 : Int) < 0) = false := by simp
  have hr : Hid (1 % m * a0 ^ n0 % m = Num.powZ a0 n0 m) := by
    rw [Num.powZ, if_neg (by omega), Int.toNat_natCast, Int.mul_emod, Int.emod_emod, ← Int.mul_emod, Int.one_mul]; exact rfl
  have e1 := Int.emod_nonneg 1 (show m ≠ 0 by omega)
  have e2 := Int.emod_lt_of_pos 1 (show 0 < m by omega)
  go_enter Tryz.func108, Tryz.ntmps108
  go_wp2_with fail
  refine (residue_any _ _ _ (by omega) (by omega) (by omega) (by omega)).mono ?_
  rintro e w' ⟨rfl, rfl⟩
  go_wp2_with fail
  go_loop [0, 1, 8] (fun x y z => ∃ (a : Int) (k : Nat) (p : Int), -9223372036854775808 ≤ a ∧ a ≤ 9223372036854775807 ∧ k ≤ 9223372036854775807 ∧ 0 ≤ p ∧ p < m ∧ x = .int .i64 a ∧ y = .int .i64 k ∧ z = .int .i64 p ∧ Hid (p * a ^ k % m = Num.powZ a0 n0 m)) (fun _ y _ => (intOf y).toNat)
  case atStart => exact ⟨a0, n0, _, ha, ha', hn', e1, e2, rfl, rfl, rfl, hr⟩
  case round =>
    obtain ⟨a, k, p, la, la', lk, lp, lp', rfl, rfl, rfl, HI⟩ := hrel
    have b1 := mulZ_bd p a m h1
    have b2 := mulZ_bd a a m h1
    by_cases hpos : 0 < k
    · by_cases hbit : k % 2 = 1
      · have hbt : (bits BinOp.and IntKind.i64 (k : Int) 1 == 1) = true := by rw [Num.and1]; simp; omega
        have HN : Hid (Num.mulZ p a m * Num.mulZ a a m ^ (k / 2) % m = Num.powZ a0 n0 m) := by
          simp only [Num.mulZ, if_neg (show ¬ m < 1 by omega)]; exact (Num.powL_odd p a m k hbit).trans HI.out
        generalize hg1 : Num.mulZ p a m = p' at *
        generalize hg2 : Num.mulZ a a m = a' at *
        have G1 := Lib.hid hg1
        have G2 := Lib.hid hg2
        clear hg1 hg2
        go_wp2_with fail
        refine (pow1_any p a m ⟨w.heap.size, 0, none⟩ _ (by omega) (by omega) la la' h2 (by simp)).mono ?_
        rintro e w' ⟨rfl, rfl⟩
        rw [G1.out]
        go_wp2_with fail
        refine (pow1_any a a m ⟨w.heap.size, 0, none⟩ _ la la' la la' h2 (by simp)).mono ?_
        rintro e w' ⟨rfl, rfl⟩
        rw [G2.out]
        go_wp2_with fail
        go_round
        case rel => exact ⟨a', k / 2, p', by omega, by omega, by omega, by omega, by omega, rfl, by go_num, rfl, HN⟩
        case measure => simp [intOf]; omega
      · have hbt : (bits BinOp.and IntKind.i64 (k : Int) 1 == 1) = false := by rw [Num.and1]; simp; omega
        have HN : Hid (p * Num.mulZ a a m ^ (k / 2) % m = Num.powZ a0 n0 m) := by
          simp only [Num.mulZ, if_neg (show ¬ m < 1 by omega)]; exact (Num.powL_even p a m k (by omega)).trans HI.out
        generalize hg2 : Num.mulZ a a m = a' at *
        have G2 := Lib.hid hg2
        clear hg2
        go_wp2_with fail
        refine (pow1_any a a m ⟨w.heap.size, 0, none⟩ _ la la' la la' h2 (by simp)).mono ?_
        rintro e w' ⟨rfl, rfl⟩
        rw [G2.out]
        go_wp2_with fail
        go_round
        case rel => exact ⟨a', k / 2, p, by omega, by omega, by omega, by omega, by omega, rfl, by go_num, rfl, HN⟩
        case measure => simp [intOf]; omega
    · obtain rfl : k = 0 := by omega
      go_wp2
      go_ret
      exact ⟨ret_int (by rw [← HI.out]; simp; exact (Int.emod_eq_of_lt lp lp').symm), (Below.refl _ _).alloc (Nat.le_refl _) _⟩

theorem pow_any (a n m : Int) (w : World) (ha : -9223372036854775808 ≤ a) (ha' : a ≤ 9223372036854775807) (hn : n ≤ 9223372036854775807) (h2 : m ≤ 9223372036854775807) :
    Calls Tryz.prog 108 #[.int .i64 a, .int .i64 n, .int .i64 m] w fun e w' => e = .returned (.int .i64 (Num.powZ a n m)) ∧ Below w.heap.size w w' := by
  by_cases h1 : m < 1
  · rw [Num.powZ, if_pos (Or.inl h1)]
    have hd : decide (m < 1) = true := by simp; omega
    go_enter Tryz.func108, Tryz.ntmps108
    go_wp2_with fail
    go_ret
    exact ⟨rfl, (Below.refl _ _).alloc (Nat.le_refl _) _⟩
  · by_cases h3 : n < 0
    · rw [Num.powZ, if_pos (Or.inr h3)]
      have hd : decide (m < 1) = false := by simp; omega
      have hd2 : decide (n < 0) = true := by simp; omega
      go_enter Tryz.func108, Tryz.ntmps108
      go_wp2_with fail
      go_ret
      exact ⟨rfl, (Below.refl _ _).alloc (Nat.le_refl _) _⟩
    · obtain ⟨k, rfl⟩ := Int.eq_ofNat_of_zero_le (show 0 ≤ n by omega)
      exact pow_core a k m w ha ha' (by omega) (by omega) h2

set_option maxHeartbeats 400000 in
theorem rpow_core (a0 : Int) (n0 : Nat) (m : Int) (w : World) (ha : -9223372036854775808 ≤ a0) (ha' : a0 ≤ 9223372036854775807) (hn' : n0 ≤ 9223372036854775807) (h1 : 1 ≤ m) (h2 : m ≤ 9223372036854775807) :
    Calls Tryz.prog 97 #[.int .i64 a0, .int .i64 (n0 : Int), .int .i64 m] w fun e w' => e = .returned (.int .i64 (Num.powZ a0 n0 m)) ∧ w = w' := by
  have hd1 : decide (m < 1) = false := by simp; omega
  have hd2 : decide ((n0 : Int) < 0) = false := by simp
  have hr : Hid (1 % m * (a0 % m) ^ n0 % m = Num.powZ a0 n0 m) := by
    rw [Num.powZ, if_neg (by omega), Int.toNat_natCast, Int.mul_emod, Int.emod_emod, ← Int.mul_emod, Int.one_mul, Num.pow_emod]; exact rfl
  have e1 := Int.emod_nonneg 1 (show m ≠ 0 by omega)
  have e2 := Int.emod_lt_of_pos 1 (show 0 < m by omega)
  have e3 := Int.emod_nonneg a0 (show m ≠ 0 by omega)
  have e4 := Int.emod_lt_of_pos a0 (show 0 < m by omega)
  go_enter Tryz.func97, Tryz.ntmps97
  go_wp2_with fail
  refine (rresidue_any _ _ _ (by omega) (by omega) (by omega) (by omega)).mono ?_
  rintro e w' ⟨rfl, rfl⟩
  go_wp2_with fail
  refine (rresidue_any _ _ _ (by omega) (by omega) (by omega) (by omega)).mono ?_
  rintro e w' ⟨rfl, rfl⟩
  go_wp2_with fail
  go_loop [8, 1, 7] (fun x y z => ∃ (a : Int) (k : Nat) (p : Int), -9223372036854775808 ≤ a ∧ a ≤ 9223372036854775807 ∧ k ≤ 9223372036854775807 ∧ 0 ≤ p ∧ p < m ∧ x = .int .i64 a ∧ y = .int .i64 k ∧ z = .int .i64 p ∧ Hid (p * a ^ k % m = Num.powZ a0 n0 m)) (fun _ y _ => (intOf y).toNat)
  case atStart => exact ⟨_, n0, _, by omega, by omega, hn', e1, e2, rfl, rfl, rfl, hr⟩
  case round =>
    obtain ⟨a, k, p, la, la', lk, lp, lp', rfl, rfl, rfl, HI⟩ := hrel
    have b1 := mulZ_bd p a m h1
    have b2 := mulZ_bd a a m h1
    by_cases hpos : 0 < k
    · by_cases hbit : k % 2 = 1
      · have hbt : ((k : Int) % 2 == 1) = true := by simp; omega
        have HN : Hid (Num.mulZ p a m * Num.mulZ a a m ^ (k / 2) % m = Num.powZ a0 n0 m) := by
          simp only [Num.mulZ, if_neg (show ¬ m < 1 by omega)]; exact (Num.powL_odd p a m k hbit).trans HI.out
        generalize hg1 : Num.mulZ p a m = p' at *
        generalize hg2 : Num.mulZ a a m = a' at *
        have G1 := Lib.hid hg1
        have G2 := Lib.hid hg2
        clear hg1 hg2
        go_wp2_with fail
        refine (rmul_any p a m _ (by omega) (by omega) la la' h2).mono ?_
        rintro e w' ⟨rfl, rfl⟩
        rw [G1.out]
        go_wp2_with fail
        refine (rmul_any a a m _ la la' la la' h2).mono ?_
        rintro e w' ⟨rfl, rfl⟩
        rw [G2.out]
        go_wp2_with fail
        go_round
        case rel => exact ⟨a', k / 2, p', by omega, by omega, by omega, by omega, by omega, rfl, by go_num, rfl, HN⟩
        case measure => simp [intOf]; omega
      · have hbt : ((k : Int) % 2 == 1) = false := by simp; omega
        have HN : Hid (p * Num.mulZ a a m ^ (k / 2) % m = Num.powZ a0 n0 m) := by
          simp only [Num.mulZ, if_neg (show ¬ m < 1 by omega)]; exact (Num.powL_even p a m k (by omega)).trans HI.out
        generalize hg2 : Num.mulZ a a m = a' at *
        have G2 := Lib.hid hg2
        clear hg2
        go_wp2_with fail
        refine (rmul_any a a m _ la la' la la' h2).mono ?_
        rintro e w' ⟨rfl, rfl⟩
        rw [G2.out]
        go_wp2_with fail
        go_round
        case rel => exact ⟨a', k / 2, p, by omega, by omega, by omega, by omega, by omega, rfl, by go_num, rfl, HN⟩
        case measure => simp [intOf]; omega
    · obtain rfl : k = 0 := by omega
      go_wp2
      go_ret
      exact ⟨ret_int (by rw [← HI.out]; simp; exact (Int.emod_eq_of_lt lp lp').symm), rfl⟩

theorem rpow_any (a n m : Int) (w : World) (ha : -9223372036854775808 ≤ a) (ha' : a ≤ 9223372036854775807) (hn : n ≤ 9223372036854775807) (h2 : m ≤ 9223372036854775807) :
    Calls Tryz.prog 97 #[.int .i64 a, .int .i64 n, .int .i64 m] w fun e w' => e = .returned (.int .i64 (Num.powZ a n m)) ∧ w = w' := by
  by_cases h1 : m < 1
  · rw [Num.powZ, if_pos (Or.inl h1)]
    have hd : decide (m < 1) = true := by simp; omega
    go_enter Tryz.func97, Tryz.ntmps97
    go_wp2_with fail
    go_ret
    exact ⟨rfl, rfl⟩
  · by_cases h3 : n < 0
    · rw [Num.powZ, if_pos (Or.inr h3)]
      have hd : decide (m < 1) = false := by simp; omega
      have hd2 : decide (n < 0) = true := by simp; omega
      go_enter Tryz.func97, Tryz.ntmps97
      go_wp2_with fail
      go_ret
      exact ⟨rfl, rfl⟩
    · obtain ⟨k, rfl⟩ := Int.eq_ofNat_of_zero_le (show 0 ≤ n by omega)
      exact rpow_core a k m w ha ha' (by omega) (by omega) h2
end Go.Proofs.YtpblfpnldbdncaaGreatDoor
namespace Go.Proofs.YtpblfpnldbdncaaGreatDoor
open Go.RowKit
set_option linter.unusedVariables false

/-- what Member answers -/
def Num.memberZ (a : Int) : Bool := decide (1 ≤ a ∧ a ≤ 2305843009213691578) && (Num.powZ a 1152921504606845789 2305843009213691579 == 1)
theorem Num.memberZ_out (a : Int) (h : ¬ (1 ≤ a ∧ a ≤ 2305843009213691578)) : Num.memberZ a = false := by simp [Num.memberZ, h]
theorem Num.memberZ_in (a : Int) (h : 1 ≤ a ∧ a ≤ 2305843009213691578) : Num.memberZ a = (Num.powZ a 1152921504606845789 2305843009213691579 == 1) := by simp [Num.memberZ, h]
theorem Num.memberZ_mod (a r : Nat) (h : 1 ≤ a ∧ a ≤ 2305843009213691578) (hr : Num.powMod 64 a 1152921504606845789 2305843009213691579 = r) : Num.memberZ a = (r == 1) := by
  rw [Num.memberZ_in a (by omega)]
  have := Num.powZ_eq a 1152921504606845789 2305843009213691579 (by decide) (by decide)
  rw [hr] at this
  rw [show (1152921504606845789 : Int) = ((1152921504606845789 : Nat) : Int) from rfl, show (2305843009213691579 : Int) = ((2305843009213691579 : Nat) : Int) from rfl, this]
  rw [Bool.eq_iff_iff]; simp; omega

theorem member_any (a : Int) (w : World) (ha : -9223372036854775808 ≤ a) (ha' : a ≤ 9223372036854775807) :
    Calls Tryz.prog 104 #[.int .i64 a] w fun e w' => e = .returned (.bool (Num.memberZ a)) ∧ Below w.heap.size w w' := by
  by_cases h : 1 ≤ a ∧ a ≤ 2305843009213691578
  · rw [Num.memberZ_in a h]
    obtain ⟨h1, h2⟩ := h
    have d1 : decide (1 ≤ a) = true := by simp; omega
    have d2 : decide (a ≤ 2305843009213691578) = true := by simp; omega
    go_enter Tryz.func104, Tryz.ntmps104
    go_wp2_with fail
    refine (pow_any _ _ _ _ ha ha' (by omega) (by omega)).mono ?_
    rintro e w' ⟨rfl, hb⟩
    go_wp2_with fail
    go_ret
    exact ⟨rfl, hb⟩
  · rw [Num.memberZ_out a h]
    have d : (decide (1 ≤ a) = false) ∨ (decide (1 ≤ a) = true ∧ decide (a ≤ 2305843009213691578) = false) := by simp only [decide_eq_false_iff_not, decide_eq_true_eq]; omega
    rcases d with d1 | ⟨d1, d2⟩
    · go_enter Tryz.func104, Tryz.ntmps104
      go_wp2_with fail
      go_ret
      exact ⟨rfl, Below.refl _ _⟩
    · go_enter Tryz.func104, Tryz.ntmps104
      go_wp2_with fail
      go_ret
      exact ⟨rfl, Below.refl _ _⟩

end Go.Proofs.YtpblfpnldbdncaaGreatDoor
namespace Go.Proofs.YtpblfpnldbdncaaGreatDoor
open Go.RowKit Go.Sort
set_option linter.unusedVariables false
namespace Sha
/-- the number of the first bytes -/
def num (l : List UInt8) : Nat → Nat
  | 0 => 0
  | k + 1 => num l k * 256 + (l.getD k 0).toNat
theorem num_lt (l : List UInt8) (k : Nat) : num l k < 256 ^ k := by
  induction k with
  | zero => simp [num]
  | succ k ih =>
    have := UInt8.toNat_lt (l.getD k 0)
    rw [num, Nat.pow_succ]
    omega
/-- the reference's number of the first bytes -/
def rnum (l : List UInt8) : Nat → Nat
  | 0 => (l.getD 0 0).toNat % 128
  | k + 1 => rnum l k * 256 + (l.getD (k + 1) 0).toNat
theorem rnum_eq (l : List UInt8) (k : Nat) : rnum l k = num l (k + 1) % (128 * 256 ^ k) := by
  induction k with
  | zero => simp [rnum, num]
  | succ k ih =>
    rw [rnum, ih, num.eq_2 l (k + 1), Nat.pow_succ]
    have hb := UInt8.toNat_lt (l.getD (k + 1) 0)
    generalize num l (k + 1) = n
    generalize 256 ^ k = m
    generalize (l.getD (k + 1) 0).toNat = b at *
    rw [show 128 * (m * 256) = (128 * m) * 256 by rw [Nat.mul_assoc]]
    generalize 128 * m = q
    rw [Nat.mul_comm q 256, Nat.mod_mul, show (n * 256 + b) % 256 = b by omega, show (n * 256 + b) / 256 = n by omega]
    omega
def number (l : List UInt8) : Nat := num l 8 % 9223372036854775808
theorem number_ref (l : List UInt8) : rnum l 7 = number l := by
  rw [rnum_eq]; rfl
theorem number_lt (l : List UInt8) : number l < 9223372036854775808 := Nat.mod_lt _ (by omega)
end Sha
theorem or64_walk (x y : Nat) (hx : x < 72057594037927936) (hy : y < 256) : bits BinOp.or IntKind.u64 ((x : Int) * 256) (y : Int) = ((x * 256 + y : Nat) : Int) := by
  have e : ((x : Int) * 256) = ((x * 256 : Nat) : Int) := by omega
  rw [e, u64_or_nat _ _ (by omega) (by omega)]
  have h := Nat.two_pow_add_eq_or_of_lt (i := 8) (b := y) (by omega) x
  rw [show (2 : Nat) ^ 8 * x = x * 256 by omega] at h
  rw [← h]
theorem top_walk (x : Nat) (hx : x < 18446744073709551616) : bits BinOp.andNot IntKind.u64 (x : Int) 9223372036854775808 = ((x % 9223372036854775808 : Nat) : Int) := by
  have := u64_andNot_nat x 9223372036854775808 hx (by omega)
  rw [show ((9223372036854775808 : Nat) : Int) = 9223372036854775808 from rfl] at this
  rw [this]
  congr 1
  exact Nat.and_two_pow_sub_one_eq_mod x 63

set_option maxHeartbeats 1000000 in
set_option maxRecDepth 100000 in
theorem number_any (s : ByteArray) (n : Nat) (w : World) (hs : s.size ≤ 140737488355000) (hT : Tabs w) (hn : Sha.number (Sha.sum s.data.toList) = n) :
    Calls Tryz.prog 171 #[.string s] w fun e w' => e = .returned (.int .i64 (n : Int)) ∧ Below w.heap.size w w' := by
  obtain ⟨h, eh, lh⟩ := some_sum s
  rw [eh] at hn
  have EH := Lib.hid eh
  have LH := Lib.hid lh
  have HN := Lib.hid hn
  clear eh lh hn
  go_enter Tryz.func171, Tryz.ntmps171
  go_wp2_with fail
  refine (sum_is s h _ hs hT EH.out).mono ?_
  rintro e w1 ⟨rfl, hb1⟩
  clear hT
  go_wp2_with (refine store_hash LH.out rfl (.tmp 3) (.tmp 7) rfl rfl rfl rfl rfl ?_)
  have hb2 := hb1.alloc hb1.size (.cells (hashArr h) 27)
  have hr := heap_alloc_new w1 (.cells (hashArr h) 27)
  have HB2 := Lib.hid hb2
  have HC : Hid (∀ j, j < 32 → (w1.alloc (.cells (hashArr h) 27)).cell? ⟨w1.heap.size, j, none⟩ = some (.int .u8 ((h.getD j 0).toNat : Int))) := fun j hj => hash_cell LH.out hr j hj
  clear hb1 hb2 hr
  generalize w1.alloc (.cells (hashArr h) 27) = W2 at *
  go_loop [4, 5, 8] (fun n _ i => ∃ k : Nat, k ≤ 8 ∧ i = .int .i64 k ∧ n = .int .u64 (Sha.num h k : Int)) (fun _ _ i => 8 - (intOf i).toNat)
  case atStart => exact ⟨0, by omega, rfl, rfl⟩
  case round =>
    obtain ⟨k, hk, rfl, rfl⟩ := hrel
    have hlt := Sha.num_lt h k
    by_cases hk8 : k < 8
    · have hx : Sha.num h k < 72057594037927936 := by
        have : 256 ^ k ≤ 256 ^ 7 := Nat.pow_le_pow_right (by omega) (by omega)
        omega
      have ck := HC.out k (by omega)
      have hy := UInt8.toNat_lt (h.getD k 0)
      have hst : Sha.num h (k + 1) = Sha.num h k * 256 + (h.getD k 0).toNat := rfl
      obtain ⟨x, ex⟩ : ∃ x, Sha.num h k = x := ⟨_, rfl⟩
      obtain ⟨y, ey⟩ : ∃ y, (h.getD k 0).toNat = y := ⟨_, rfl⟩
      rw [ex, ey] at hst
      rw [ex] at hx ⊢
      rw [ey] at ck hy
      have HO := Lib.hid (or64_walk x y hx hy)
      have HST := Lib.hid hst
      clear hst ex ey hlt
      go_wp2_with fail
      go_round
      case rel => exact ⟨k + 1, by omega, by go_num, by rw [HST.out, HO.out]⟩
      case measure => simp [intOf]; omega
    · have hd8 : decide ((k : Int) < 8) = false := by simp; omega
      have hx : Sha.num h k < 18446744073709551616 := by
        obtain rfl : k = 8 := by omega
        exact hlt
      have hv : Sha.num h k % 9223372036854775808 = n := by
        obtain rfl : k = 8 := by omega
        exact HN.out
      obtain ⟨x, ex⟩ : ∃ x, Sha.num h k = x := ⟨_, rfl⟩
      rw [ex] at hx hv ⊢
      have HO := Lib.hid (top_walk x hx)
      have HV := Lib.hid hv
      have hn63 : n < 9223372036854775808 := by omega
      clear ex hlt hv
      go_wp2_with fail
      go_ret
      refine ⟨ret_int ?_, HB2.out⟩
      rw [HO.out, HV.out]
      simp [wrap64]
      omega
end Go.Proofs.YtpblfpnldbdncaaGreatDoor
namespace Go.Proofs.YtpblfpnldbdncaaGreatDoor
open Go.RowKit Go.Sort
set_option linter.unusedVariables false
set_option maxHeartbeats 1000000 in
set_option maxRecDepth 100000 in
theorem rnumber_any (h : List UInt8) (n : Nat) (w : World) (hl : h.length = 32) (hn : Sha.number h = n) :
    Calls Tryz.prog 120 #[.agg (hashArr h)] w fun e w' => e = .returned (.int .i64 (n : Int)) ∧ Below w.heap.size w w' := by
  have HN := Lib.hid hn
  have LH := Lib.hid hl
  clear hn hl
  have hb2 : Below w.heap.size w (w.alloc (.cells (hashArr h) 27)) := (Below.refl _ _).alloc (Nat.le_refl _) _
  have hr := heap_alloc_new w (.cells (hashArr h) 27)
  have HB2 := Lib.hid hb2
  have HC : Hid (∀ j, j < 32 → (w.alloc (.cells (hashArr h) 27)).cell? ⟨w.heap.size, j, none⟩ = some (.int .u8 ((h.getD j 0).toNat : Int))) := fun j hj => hash_cell LH.out hr j hj
  have c0 := HC.out 0 (by omega)
  have hy0 := UInt8.toNat_lt (h.getD 0 0)
  obtain ⟨y0, ey0⟩ : ∃ y, (h.getD 0 0).toNat = y := ⟨_, rfl⟩
  rw [ey0] at c0 hy0
  have EY0 := Lib.hid ey0
  clear hb2 hr ey0
  go_enter Tryz.func120, Tryz.ntmps120
  go_wp2_with fail
  generalize w.alloc (.cells (hashArr h) 27) = W2 at *
  clear c0
  go_loop [3, 4] (fun n i => ∃ k : Nat, 1 ≤ k ∧ k ≤ 8 ∧ i = .int .i64 k ∧ n = .int .i64 (Sha.rnum h (k - 1) : Int)) (fun _ i => 8 - (intOf i).toNat)
  case atStart => exact ⟨1, by omega, by omega, rfl, by show _ = Value.int .i64 (((h.getD 0 0).toNat % 128 : Nat) : Int); rw [EY0.out]; simp⟩
  case round =>
    obtain ⟨k, hk1, hk, rfl, rfl⟩ := hrel
    have hlt := Sha.num_lt h k
    have hre := Sha.rnum_eq h (k - 1)
    by_cases hk8 : k < 8
    · have hx : Sha.rnum h (k - 1) < 36028797018963968 := by
        rw [hre]
        have h1 : 256 ^ (k - 1) ≤ 256 ^ 6 := Nat.pow_le_pow_right (by omega) (by omega)
        have h2 : 0 < 256 ^ (k - 1) := Nat.pow_pos (by omega)
        have := Nat.mod_lt (Sha.num h (k - 1 + 1)) (show 0 < 128 * 256 ^ (k - 1) by omega)
        omega
      have ck := HC.out k (by omega)
      have hy := UInt8.toNat_lt (h.getD k 0)
      have hst : Sha.rnum h (k + 1 - 1) = Sha.rnum h (k - 1) * 256 + (h.getD k 0).toNat := by
        obtain ⟨j, rfl⟩ : ∃ j, k = j + 1 := ⟨k - 1, by omega⟩
        rfl
      obtain ⟨x, ex⟩ : ∃ x, Sha.rnum h (k - 1) = x := ⟨_, rfl⟩
      obtain ⟨y, ey⟩ : ∃ y, (h.getD k 0).toNat = y := ⟨_, rfl⟩
      rw [ex, ey] at hst
      rw [ex] at hx ⊢
      rw [ey] at ck hy
      have HST := Lib.hid hst
      clear hst ex ey hlt hre
      go_wp2_with fail
      go_round
      case rel => exact ⟨k + 1, by omega, by omega, by go_num, by rw [HST.out]; go_num⟩
      case measure => simp [intOf]; omega
    · have hd8 : decide ((k : Int) < 8) = false := by simp; omega
      have hv : Sha.rnum h (k - 1) = n := by
        obtain rfl : k = 8 := by omega
        rw [← HN.out, ← Sha.number_ref]
      rw [hv]
      clear hre hlt hv
      go_wp2_with fail
      go_ret
      exact ⟨rfl, HB2.out⟩

def scalarN (s : ByteArray) : Nat := Sha.number (Sha.sum ((⟨#[115, 47]⟩ : ByteArray) ++ s).data.toList) % 1152921504606845789
def rootN (s : ByteArray) : Nat := 1 + Sha.number (Sha.sum ((⟨#[101, 47]⟩ : ByteArray) ++ s).data.toList) % 2305843009213691578
theorem size_pre (a b : UInt8) (s : ByteArray) (h : s.size ≤ 140737488354990) : ((⟨#[a, b]⟩ : ByteArray) ++ s).size ≤ 140737488355000 := by
  rw [ByteArray.size_append, show (⟨#[a, b]⟩ : ByteArray).size = 2 from rfl]; omega
theorem scalar_any (s : ByteArray) (v : Nat) (w : World) (hs : s.size ≤ 140737488354990) (hT : Tabs w) (hv : scalarN s = v) :
    Calls Tryz.prog 156 #[.string s] w fun e w' => e = .returned (.int .i64 (v : Int)) ∧ Below w.heap.size w w' := by
  unfold scalarN at hv
  have hlt := Sha.number_lt (Sha.sum ((⟨#[115, 47]⟩ : ByteArray) ++ s).data.toList)
  obtain ⟨n, en⟩ : ∃ n, Sha.number (Sha.sum ((⟨#[115, 47]⟩ : ByteArray) ++ s).data.toList) = n := ⟨_, rfl⟩
  rw [en] at hv hlt
  have EN := Lib.hid en
  have HV := Lib.hid hv
  have HS := Lib.hid (size_pre 115 47 s hs)
  have n1 : ¬ 9223372036854775807 < 2 + s.size := by omega
  clear en hv
  go_enter Tryz.func156, Tryz.ntmps156
  go_wp2_with fail
  refine (number_any _ n _ HS.out hT EN.out).mono ?_
  rintro e w1 ⟨rfl, hb1⟩
  go_wp2_with fail
  refine (residue_any _ _ _ (by omega) (by omega) (by omega) (by omega)).mono ?_
  rintro e w' ⟨rfl, rfl⟩
  go_wp2_with fail
  go_ret
  refine ⟨ret_int ?_, hb1⟩
  rw [← HV.out]; simp
theorem rscalar_any (s : ByteArray) (v : Nat) (w : World) (hs : s.size ≤ 140737488354990) (hv : scalarN s = v) :
    Calls Tryz.prog 96 #[.string s] w fun e w' => e = .returned (.int .i64 (v : Int)) ∧ Below w.heap.size w w' := by
  unfold scalarN at hv
  have hlt := Sha.number_lt (Sha.sum ((⟨#[115, 47]⟩ : ByteArray) ++ s).data.toList)
  obtain ⟨h, eh, lh⟩ := some_sum ((⟨#[115, 47]⟩ : ByteArray) ++ s)
  rw [eh] at hv hlt
  obtain ⟨n, en⟩ : ∃ n, Sha.number h = n := ⟨_, rfl⟩
  rw [en] at hv hlt
  have EN := Lib.hid en
  have EH := Lib.hid eh
  have LH := Lib.hid lh
  have HV := Lib.hid hv
  have HS := Lib.hid (size_pre 115 47 s hs)
  have n1 : ¬ 9223372036854775807 < 2 + s.size := by omega
  clear en hv eh lh
  go_enter Tryz.func96, Tryz.ntmps96
  go_wp2_with fail
  refine (rsum_is _ h _ HS.out EH.out).mono ?_
  rintro e w1 ⟨rfl, hb1⟩
  go_wp2_with fail
  refine (rnumber_any h n _ LH.out EN.out).mono ?_
  rintro e w2 ⟨rfl, hb2⟩
  go_wp2_with fail
  go_ret
  refine ⟨ret_int ?_, below_join hb1 hb2⟩
  rw [← HV.out]; simp
theorem powZ_nat (a n m : Nat) (hm : 1 ≤ m) : Num.powZ (a : Int) (n : Int) (m : Int) = ((a ^ n % m : Nat) : Int) := by
  rw [Num.powZ, if_neg (by omega)]; simp
theorem mulZ_nat (a b m : Nat) (hm : 1 ≤ m) : Num.mulZ (a : Int) (b : Int) (m : Int) = ((a * b % m : Nat) : Int) := by
  rw [Num.mulZ, if_neg (by omega)]; simp
theorem addZ_nat (a b m : Nat) (hm : 1 ≤ m) : Num.addZ (a : Int) (b : Int) (m : Int) = (((a + b) % m : Nat) : Int) := by
  rw [Num.addZ, if_neg (by omega)]; simp
end Go.Proofs.YtpblfpnldbdncaaGreatDoor
