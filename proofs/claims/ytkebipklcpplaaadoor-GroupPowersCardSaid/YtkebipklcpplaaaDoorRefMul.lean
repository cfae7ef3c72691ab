/- Contracts of the reference's package sortesref04. -/
import Derived.Test.YtkebipklcpplaaaDoorGroup
namespace Go.Proofs.YtkebipklcpplaaaDoor
open Go.RowKit
set_option linter.unusedVariables false

theorem rresidue_any (a m : Int) (w : World) (h1 : 1 ≤ m) (h2 : m ≤ 9223372036854775807) (ha : -9223372036854775808 ≤ a) (hb : a ≤ 9223372036854775807) :
    Calls Tryd.prog 66 #[.int .i64 a, .int .i64 m] w fun e w' => e = .returned (.int .i64 (a % m)) ∧ w = w' := by
  have hl := Num.tmod_lo a m h1
  go_enter Tryd.func66, Tryd.ntmps66
  go_wp2
  · go_ret
    exact ⟨ret_int (Num.tmod_neg a m h1 ‹_›), rfl⟩
  · go_ret
    exact ⟨ret_int (Num.tmod_pos a m h1 ‹_›), rfl⟩
theorem rresidue_eq (a m x : Int) (w : World) (h1 : 1 ≤ m) (h2 : m ≤ 9223372036854775807) (ha : -9223372036854775808 ≤ a) (hb : a ≤ 9223372036854775807) (h : a % m = x) :
    Calls Tryd.prog 66 #[.int .i64 a, .int .i64 m] w fun e w' => e = .returned (.int .i64 x) ∧ w = w' := by
  rw [← h]; exact rresidue_any a m w h1 h2 ha hb

theorem rplus_any (x y m : Int) (w : World) (h1 : 1 ≤ m) (h2 : m ≤ 9223372036854775807) (hx0 : 0 ≤ x) (hx : x < m) (hy0 : 0 ≤ y) (hy : y < m) :
    Calls Tryd.prog 67 #[.int .i64 x, .int .i64 y, .int .i64 m] w fun e w' => e = .returned (.int .i64 ((x + y) % m)) ∧ w = w' := by
  by_cases h : m - y ≤ x
  · have H := Lib.hid (Num.plus_ge x y m hx hy (by omega))
    go_enter Tryd.func67, Tryd.ntmps67
    go_wp2
    go_ret
    exact ⟨ret_int (by rw [← H.out]; omega), rfl⟩
  · have H := Lib.hid (Num.plus_lt x y m hx0 hy0 (by omega))
    go_enter Tryd.func67, Tryd.ntmps67
    go_wp2
    go_ret
    exact ⟨ret_int H.out, rfl⟩

set_option maxHeartbeats 400000 in
theorem rmul_core (a b : Int) (x y M : Nat) (w : World) (h1 : 1 ≤ M) (h2 : M ≤ 9223372036854775807) (ha : -9223372036854775808 ≤ a) (ha' : a ≤ 9223372036854775807) (hb : -9223372036854775808 ≤ b) (hb' : b ≤ 9223372036854775807)
    (hA : Hid (a % (M : Int) = (x : Int))) (hB : Hid (b % (M : Int) = (y : Int))) (hx : x < M) (hy : y < M) :
    Calls Tryd.prog 53 #[.int .i64 a, .int .i64 b, .int .i64 (M : Int)] w fun e w' => e = .returned (.int .i64 (Num.mulN x y M : Nat)) ∧ w = w' := by
  have hm0 : decide ((M : Int) < 1) = false := by simp; omega
  by_cases hsm : x < 2147483648 ∧ y < 2147483648
  · obtain ⟨hs1, hs2⟩ := hsm
    have hd1 : decide ((x : Int) < 2147483648) = true := by simp; omega
    have hd2 : decide ((y : Int) < 2147483648) = true := by simp; omega
    have hp0 : 0 ≤ (x : Int) * y := by
      have h4 : ((x * y : Nat) : Int) = x * y := Int.natCast_mul x y
      omega
    have hp1 : (x : Int) * y ≤ 9223372036854775807 := by
      have h3 : x * y ≤ 2147483647 * 2147483647 := Nat.mul_le_mul (by omega) (by omega)
      have h4 : ((x * y : Nat) : Int) = x * y := Int.natCast_mul x y
      omega
    go_enter Tryd.func53, Tryd.ntmps53
    go_wp2_with fail
    refine (rresidue_eq a M x _ (by omega) (by omega) (by omega) (by omega) hA.out).mono ?_
    rintro e w' ⟨rfl, rfl⟩
    go_wp2_with fail
    refine (rresidue_eq b M y _ (by omega) (by omega) (by omega) (by omega) hB.out).mono ?_
    rintro e w' ⟨rfl, rfl⟩
    go_wp2_with fail
    go_ret
    exact ⟨ret_int (by unfold Num.mulN; simp), rfl⟩
  · have fin : ∀ (x' y' o : Nat), x' < M → o < M → ¬ 0 < y' → (o + x' * y') % M = Num.mulN x y M → (o : Int) = (Num.mulN x y M : Nat) := by
      intro x' y' o _ ho hy0 e
      obtain rfl : y' = 0 := by omega
      rw [Nat.mul_zero, Nat.add_zero, Nat.mod_eq_of_lt ho] at e
      rw [e]
    have FIN := Lib.hid fin
    clear fin
    have hd : (decide ((x : Int) < 2147483648) = false) ∨ (decide ((x : Int) < 2147483648) = true ∧ decide ((y : Int) < 2147483648) = false) := by simp only [decide_eq_false_iff_not, decide_eq_true_eq]; omega
    rcases hd with hd | ⟨hd, hd2⟩
    · go_enter Tryd.func53, Tryd.ntmps53
      go_wp2_with fail
      refine (rresidue_eq a M x _ (by omega) (by omega) (by omega) (by omega) hA.out).mono ?_
      rintro e w' ⟨rfl, rfl⟩
      go_wp2_with fail
      refine (rresidue_eq b M y _ (by omega) (by omega) (by omega) (by omega) hB.out).mono ?_
      rintro e w' ⟨rfl, rfl⟩
      go_wp2_with fail
      go_loop [7, 8, 9] (fun x' y' o' => ∃ p q o : Nat, p < M ∧ q < M ∧ o < M ∧ x' = .int .i64 p ∧ y' = .int .i64 q ∧ o' = .int .i64 o ∧ Hid ((o + p * q) % M = Num.mulN x y M)) (fun _ y' _ => (intOf y').toNat)
      case atStart => exact ⟨x, y, 0, hx, hy, by omega, rfl, rfl, rfl, by simp [Hid, Num.mulN]⟩
      case round =>
        obtain ⟨p, q, o, hp, hq, ho, rfl, rfl, rfl, HI⟩ := hrel
        by_cases hpos : 0 < q
        · by_cases hbit : q % 2 = 1
          · have hbt : ((q : Int) % 2 == 1) = true := by simp; omega
            go_wp2_with fail
            refine (rplus_any _ _ _ _ (by omega) (by omega) (by omega) (by omega) (by omega) (by omega)).mono ?_
            rintro e w' ⟨rfl, rfl⟩
            go_wp2_with fail
            refine (rplus_any _ _ _ _ (by omega) (by omega) (by omega) (by omega) (by omega) (by omega)).mono ?_
            rintro e w' ⟨rfl, rfl⟩
            go_wp2_with fail
            go_round
            case rel => exact ⟨(p + p) % M, q / 2, (o + p) % M, Nat.mod_lt _ (by omega), by omega, Nat.mod_lt _ (by omega), by simp, by simp, by simp, (Num.mulL_odd o p q M hbit).trans HI.out⟩
            case measure => simp [intOf]; omega
          · have hbt : ((q : Int) % 2 == 1) = false := by simp; omega
            go_wp2_with fail
            refine (rplus_any _ _ _ _ (by omega) (by omega) (by omega) (by omega) (by omega) (by omega)).mono ?_
            rintro e w' ⟨rfl, rfl⟩
            go_wp2_with fail
            go_round
            case rel => exact ⟨(p + p) % M, q / 2, o, Nat.mod_lt _ (by omega), by omega, ho, by simp, by simp, rfl, (Num.mulL_even o p q M (by omega)).trans HI.out⟩
            case measure => simp [intOf]; omega
        · go_wp2
          go_ret
          exact ⟨ret_int (FIN.out p q o hp ho hpos HI.out), rfl⟩
    · go_enter Tryd.func53, Tryd.ntmps53
      go_wp2_with fail
      refine (rresidue_eq a M x _ (by omega) (by omega) (by omega) (by omega) hA.out).mono ?_
      rintro e w' ⟨rfl, rfl⟩
      go_wp2_with fail
      refine (rresidue_eq b M y _ (by omega) (by omega) (by omega) (by omega) hB.out).mono ?_
      rintro e w' ⟨rfl, rfl⟩
      go_wp2_with fail
      go_loop [7, 8, 9] (fun x' y' o' => ∃ p q o : Nat, p < M ∧ q < M ∧ o < M ∧ x' = .int .i64 p ∧ y' = .int .i64 q ∧ o' = .int .i64 o ∧ Hid ((o + p * q) % M = Num.mulN x y M)) (fun _ y' _ => (intOf y').toNat)
      case atStart => exact ⟨x, y, 0, hx, hy, by omega, rfl, rfl, rfl, by simp [Hid, Num.mulN]⟩
      case round =>
        obtain ⟨p, q, o, hp, hq, ho, rfl, rfl, rfl, HI⟩ := hrel
        by_cases hpos : 0 < q
        · by_cases hbit : q % 2 = 1
          · have hbt : ((q : Int) % 2 == 1) = true := by simp; omega
            go_wp2_with fail
            refine (rplus_any _ _ _ _ (by omega) (by omega) (by omega) (by omega) (by omega) (by omega)).mono ?_
            rintro e w' ⟨rfl, rfl⟩
            go_wp2_with fail
            refine (rplus_any _ _ _ _ (by omega) (by omega) (by omega) (by omega) (by omega) (by omega)).mono ?_
            rintro e w' ⟨rfl, rfl⟩
            go_wp2_with fail
            go_round
            case rel => exact ⟨(p + p) % M, q / 2, (o + p) % M, Nat.mod_lt _ (by omega), by omega, Nat.mod_lt _ (by omega), by simp, by simp, by simp, (Num.mulL_odd o p q M hbit).trans HI.out⟩
            case measure => simp [intOf]; omega
          · have hbt : ((q : Int) % 2 == 1) = false := by simp; omega
            go_wp2_with fail
            refine (rplus_any _ _ _ _ (by omega) (by omega) (by omega) (by omega) (by omega) (by omega)).mono ?_
            rintro e w' ⟨rfl, rfl⟩
            go_wp2_with fail
            go_round
            case rel => exact ⟨(p + p) % M, q / 2, o, Nat.mod_lt _ (by omega), by omega, ho, by simp, by simp, rfl, (Num.mulL_even o p q M (by omega)).trans HI.out⟩
            case measure => simp [intOf]; omega
        · go_wp2
          go_ret
          exact ⟨ret_int (FIN.out p q o hp ho hpos HI.out), rfl⟩

theorem rmul_any (a b m : Int) (w : World) (ha : -9223372036854775808 ≤ a) (ha' : a ≤ 9223372036854775807) (hb : -9223372036854775808 ≤ b) (hb' : b ≤ 9223372036854775807) (h2 : m ≤ 9223372036854775807) :
    Calls Tryd.prog 53 #[.int .i64 a, .int .i64 b, .int .i64 m] w fun e w' => e = .returned (.int .i64 (Num.mulZ a b m)) ∧ w = w' := by
  by_cases h1 : m < 1
  · rw [Num.mulZ, if_pos h1]
    go_enter Tryd.func53, Tryd.ntmps53
    go_wp2_with fail
    go_ret
    exact ⟨rfl, rfl⟩
  · rw [Num.mulZ, if_neg h1]
    obtain ⟨x, y, M, rfl, hx, hy, hxl, hyl, hM⟩ := Num.natres2 a b m (by omega)
    rw [← Num.mul_final a b x y M hx hy]
    exact rmul_core a b x y M w hM (by omega) ha ha' hb hb' hx hy hxl hyl
end Go.Proofs.YtkebipklcpplaaaDoor
