/- The walk of the law GroupRanges. -/
import Derived.Test.YteihhgnpkpamgaaRingWalk
namespace Go.Proofs.Yteihhgnpkpamgaa
open Go.RowKit
set_option linter.unusedVariables false

namespace Num
/-- the three operations of the law -/
def opZ : Nat → Int → Int → Int → Int
  | 0 => addZ
  | 1 => subZ
  | _ => mulZ
theorem opZ_facts (k : Nat) (x y m c : Int) (hm : 1 ≤ m) : (0 ≤ opZ k x y m ∧ opZ k x y m < m) ∧ opZ k (x + m * c) y m = opZ k x y m ∧ opZ k x (y - m * c) m = opZ k x y m ∧ opZ k x y (-m) = 0 ∧ opZ k x y 0 = 0 := by
  have e1 : ∀ z : Int, 0 ≤ z % m ∧ z % m < m := fun z => ⟨Int.emod_nonneg _ (by omega), Int.emod_lt_of_pos _ (by omega)⟩
  match k with
  | 0 =>
    simp only [opZ, addZ, if_neg (show ¬ m < 1 by omega), if_pos (show -m < 1 by omega), if_pos (show (0 : Int) < 1 by omega)]
    refine ⟨e1 _, ?_, ?_, trivial, trivial⟩
    · rw [show x + m * c + y = x + y + m * c by omega, Int.add_mul_emod_self_left]
    · rw [show x + (y - m * c) = x + y + m * (-c) by rw [Int.mul_neg]; omega, Int.add_mul_emod_self_left]
  | 1 =>
    simp only [opZ, subZ, if_neg (show ¬ m < 1 by omega), if_pos (show -m < 1 by omega), if_pos (show (0 : Int) < 1 by omega)]
    refine ⟨e1 _, ?_, ?_, trivial, trivial⟩
    · rw [show x + m * c - y = x - y + m * c by omega, Int.add_mul_emod_self_left]
    · rw [show x - (y - m * c) = x - y + m * c by omega, Int.add_mul_emod_self_left]
  | k + 2 =>
    simp only [opZ, mulZ, if_neg (show ¬ m < 1 by omega), if_pos (show -m < 1 by omega), if_pos (show (0 : Int) < 1 by omega)]
    refine ⟨e1 _, ?_, ?_, trivial, trivial⟩
    · rw [Int.add_mul, Int.mul_assoc, Int.add_mul_emod_self_left]
    · rw [show x * (y - m * c) = x * y + m * (-(x * c)) by rw [Int.mul_sub, Int.mul_neg, ← Int.mul_assoc, Int.mul_comm x m, Int.mul_assoc]; omega, Int.add_mul_emod_self_left]
theorem powZ_facts (x n m c : Int) (hm : 1 ≤ m) (hn : 0 ≤ n) : (0 ≤ powZ x n m ∧ powZ x n m < m) ∧ powZ (x - m * c) n m = powZ x n m ∧ powZ x n (-m) = 0 := by
  have e1 : ∀ z : Int, 0 ≤ z % m ∧ z % m < m := fun z => ⟨Int.emod_nonneg _ (by omega), Int.emod_lt_of_pos _ (by omega)⟩
  simp only [powZ, if_neg (show ¬ (m < 1 ∨ n < 0) by omega), if_pos (show (-m < 1 ∨ n < 0) by omega)]
  refine ⟨e1 _, ?_, trivial⟩
  rw [← pow_emod, show x - m * c = x + m * (-c) by rw [Int.mul_neg]; omega, Int.add_mul_emod_self_left, pow_emod]
end Num
theorem wf_bd32 {a : Int} (h : (Lit.int .i32 a).wf = true) : -2147483648 ≤ a ∧ a ≤ 2147483647 := by
  simpa [Lit.wf, IntKind.min, IntKind.max, IntKind.signed, IntKind.bits] using h

theorem three_cells (w1 : World) (T : TypeId) (a b c : Value) : (w1.alloc (.cells #[a, b, c] T)).cell? ⟨w1.heap.size, 0, none⟩ = some a ∧ (w1.alloc (.cells #[a, b, c] T)).cell? ⟨w1.heap.size, 1, none⟩ = some b ∧ (w1.alloc (.cells #[a, b, c] T)).cell? ⟨w1.heap.size, 2, none⟩ = some c := by
  refine ⟨?_, ?_, ?_⟩ <;> simp

theorem pow_is (a n m r : Int) (w : World) (ha : -9223372036854775808 ≤ a) (ha' : a ≤ 9223372036854775807) (hn : n ≤ 9223372036854775807) (h2 : m ≤ 9223372036854775807) (h : Num.powZ a n m = r) :
    Calls Try.prog 18 #[.int .i64 a, .int .i64 n, .int .i64 m] w fun e w' => e = .returned (.int .i64 r) ∧ Below w.heap.size w w' := by
  rw [← h]; exact pow_any a n m w ha ha' hn h2

set_option maxHeartbeats 1000000 in
set_option maxRecDepth 100000 in
theorem walk2_GroupRanges (x y q0 q1 : Int) (hx : (Lit.int .i32 x).wf = true) (hy : (Lit.int .i32 y).wf = true) (hq0 : (Lit.int .i32 q0).wf = true) (hq1 : (Lit.int .i32 q1).wf = true) (w : World) :
    Calls Try.prog 8 #[.int .i32 x, .int .i32 y, .agg #[.int .i32 q0, .int .i32 q1]] w fun e w' => e = .returned (.bool true) ∧ Below w.heap.size w w' := by
  obtain ⟨hx1, hx2⟩ := wf_bd32 hx
  obtain ⟨hy1, hy2⟩ := wf_bd32 hy
  obtain ⟨hq01, hq02⟩ := wf_bd32 hq0
  obtain ⟨hq11, hq12⟩ := wf_bd32 hq1
  clear hx hy hq0 hq1
  have hmask1 := Num.and20 q0
  have hmask2 := Num.and10 q1
  have hmask3 := Num.and6 y
  have hm1 : 1 ≤ 1 + q0 % 1048576 := by omega
  have hm2 : 1 + q0 % 1048576 ≤ 1048576 := by omega
  have hp0 : 0 ≤ (1 + q0 % 1048576) * (q1 % 1024) := Int.mul_nonneg (by omega) (by omega)
  have hp1 : (1 + q0 % 1048576) * (q1 % 1024) ≤ 1073741824 := by
    have := Int.mul_le_mul hm2 (show q1 % 1024 ≤ 1024 by omega) (show 0 ≤ q1 % 1024 by omega) (by omega)
    omega
  go_enter Try.func8, Try.ntmps8
  go_wp2_with fail
  refine (sanity_any _).mono ?_
  rintro e w1 ⟨rfl, hbl⟩
  obtain ⟨hcc, hff⟩ := bcell hbl
  have hc0 : w1.cell? ⟨w.heap.size, 0, none⟩ = some (.int .i32 q0) := by rw [hcc _ _ (by simp)]; simp
  have hc1 : w1.cell? ⟨w.heap.size, 1, none⟩ = some (.int .i32 q1) := by rw [hcc _ _ (by simp)]; simp
  clear hcc hff
  go_wp2_with fail
  go_quiet (fail)
  go_wp2_with fail
  have HC : Hid (((w1.drewN nq).alloc (.cells #[.func (.func 10) #[] #[], .func (.func 12) #[] #[], .func (.func 14) #[] #[]] 24)).cell? ⟨w1.heap.size, 0, none⟩ = some (.func (.func 10) #[] #[]) ∧ ((w1.drewN nq).alloc (.cells #[.func (.func 10) #[] #[], .func (.func 12) #[] #[], .func (.func 14) #[] #[]] 24)).cell? ⟨w1.heap.size, 1, none⟩ = some (.func (.func 12) #[] #[]) ∧ ((w1.drewN nq).alloc (.cells #[.func (.func 10) #[] #[], .func (.func 12) #[] #[], .func (.func 14) #[] #[]] 24)).cell? ⟨w1.heap.size, 2, none⟩ = some (.func (.func 14) #[] #[])) := three_cells (w1.drewN nq) _ _ _ _
  have hbw : Below w.heap.size w ((w1.drewN nq).alloc (.cells #[.func (.func 10) #[] #[], .func (.func 12) #[] #[], .func (.func 14) #[] #[]] 24)) :=
    (below_drewN (((Below.refl _ _).alloc (Nat.le_refl _) _).trans (hbl.mono (by simp))) nq).alloc (by have := hbl.size; simp at this; simp; omega) _
  generalize (w1.drewN nq).alloc _ = W2 at *
  clear hc0 hc1 hmask1 hmask2
  generalize hM : (1 + q0 % 1048576) = M at *
  clear hM
  generalize hmore : M * (q1 % 1024) = more at *
  have HM := Lib.hid hmore
  clear hmore
  go_loop [13, 14, 34] (fun _ _ i => ∃ k : Nat, k ≤ 3 ∧ i = .int .i64 k) (fun _ _ i => 3 - (intOf i).toNat)
  case atStart => exact ⟨0, by omega, rfl⟩
  case round =>
    obtain ⟨k, hk, rfl⟩ := hrel
    by_cases hlt : k < 3
    · have hk3 : k = 0 ∨ k = 1 ∨ k = 2 := by omega
      rcases hk3 with rfl | rfl | rfl
      · have hc : W2.cell? ⟨w1.heap.size, 0, none⟩ = some (.func (.func 10) #[] #[]) := HC.out.1
        obtain ⟨⟨f1, f2⟩, f3, f4, f5, f6⟩ := Num.opZ_facts 0 x y M (q1 % 1024) hm1
        rw [HM.out] at f3 f4
        obtain ⟨r, hr⟩ : ∃ v, Num.opZ 0 x y M = v := ⟨_, rfl⟩
        rw [hr] at f1 f2 f3 f4
        have F0 := Lib.hid hr
        have F1 := Lib.hid f3
        have F2 := Lib.hid f4
        have F3 := Lib.hid f5
        have F4 := Lib.hid f6
        clear hr f3 f4 f5 f6
        have d1 : decide (r < 0) = false := by simp; omega
        have d2 : decide (M ≤ r) = false := by simp; omega
        go_wp2_with fail
        refine (add_is x y M r _ (by omega) (by omega) (by omega) (by omega) (by omega) F0.out).mono ?_
        rintro e w' ⟨rfl, rfl⟩
        go_wp2_with fail
        refine (add_is (x + more) y M r _ (by omega) (by omega) (by omega) (by omega) (by omega) F1.out).mono ?_
        rintro e w' ⟨rfl, rfl⟩
        go_wp2_with fail
        refine (add_is x (y - more) M r _ (by omega) (by omega) (by omega) (by omega) (by omega) F2.out).mono ?_
        rintro e w' ⟨rfl, rfl⟩
        go_wp2_with fail
        refine (add_is x y (-M) 0 _ (by omega) (by omega) (by omega) (by omega) (by omega) F3.out).mono ?_
        rintro e w' ⟨rfl, rfl⟩
        go_wp2_with fail
        refine (add_is x y 0 0 _ (by omega) (by omega) (by omega) (by omega) (by omega) F4.out).mono ?_
        rintro e w' ⟨rfl, rfl⟩
        go_wp2_with fail
        go_round
        case rel => exact ⟨1, by omega, rfl⟩
        case measure => simp [intOf]
      · have hc : W2.cell? ⟨w1.heap.size, 1, none⟩ = some (.func (.func 12) #[] #[]) := HC.out.2.1
        obtain ⟨⟨f1, f2⟩, f3, f4, f5, f6⟩ := Num.opZ_facts 1 x y M (q1 % 1024) hm1
        rw [HM.out] at f3 f4
        obtain ⟨r, hr⟩ : ∃ v, Num.opZ 1 x y M = v := ⟨_, rfl⟩
        rw [hr] at f1 f2 f3 f4
        have F0 := Lib.hid hr
        have F1 := Lib.hid f3
        have F2 := Lib.hid f4
        have F3 := Lib.hid f5
        have F4 := Lib.hid f6
        clear hr f3 f4 f5 f6
        have d1 : decide (r < 0) = false := by simp; omega
        have d2 : decide (M ≤ r) = false := by simp; omega
        go_wp2_with fail
        refine (sub_is x y M r _ (by omega) (by omega) (by omega) (by omega) (by omega) F0.out).mono ?_
        rintro e w' ⟨rfl, rfl⟩
        go_wp2_with fail
        refine (sub_is (x + more) y M r _ (by omega) (by omega) (by omega) (by omega) (by omega) F1.out).mono ?_
        rintro e w' ⟨rfl, rfl⟩
        go_wp2_with fail
        refine (sub_is x (y - more) M r _ (by omega) (by omega) (by omega) (by omega) (by omega) F2.out).mono ?_
        rintro e w' ⟨rfl, rfl⟩
        go_wp2_with fail
        refine (sub_is x y (-M) 0 _ (by omega) (by omega) (by omega) (by omega) (by omega) F3.out).mono ?_
        rintro e w' ⟨rfl, rfl⟩
        go_wp2_with fail
        refine (sub_is x y 0 0 _ (by omega) (by omega) (by omega) (by omega) (by omega) F4.out).mono ?_
        rintro e w' ⟨rfl, rfl⟩
        go_wp2_with fail
        go_round
        case rel => exact ⟨2, by omega, rfl⟩
        case measure => simp [intOf]
      · have hc : W2.cell? ⟨w1.heap.size, 2, none⟩ = some (.func (.func 14) #[] #[]) := HC.out.2.2
        obtain ⟨⟨f1, f2⟩, f3, f4, f5, f6⟩ := Num.opZ_facts 2 x y M (q1 % 1024) hm1
        rw [HM.out] at f3 f4
        obtain ⟨r, hr⟩ : ∃ v, Num.opZ 2 x y M = v := ⟨_, rfl⟩
        rw [hr] at f1 f2 f3 f4
        have F0 := Lib.hid hr
        have F1 := Lib.hid f3
        have F2 := Lib.hid f4
        have F3 := Lib.hid f5
        have F4 := Lib.hid f6
        clear hr f3 f4 f5 f6
        have d1 : decide (r < 0) = false := by simp; omega
        have d2 : decide (M ≤ r) = false := by simp; omega
        go_wp2_with fail
        refine (mul_is x y M r _ (by omega) (by omega) (by omega) (by omega) (by omega) F0.out).mono ?_
        rintro e w' ⟨rfl, rfl⟩
        go_wp2_with fail
        refine (mul_is (x + more) y M r _ (by omega) (by omega) (by omega) (by omega) (by omega) F1.out).mono ?_
        rintro e w' ⟨rfl, rfl⟩
        go_wp2_with fail
        refine (mul_is x (y - more) M r _ (by omega) (by omega) (by omega) (by omega) (by omega) F2.out).mono ?_
        rintro e w' ⟨rfl, rfl⟩
        go_wp2_with fail
        refine (mul_is x y (-M) 0 _ (by omega) (by omega) (by omega) (by omega) (by omega) F3.out).mono ?_
        rintro e w' ⟨rfl, rfl⟩
        go_wp2_with fail
        refine (mul_is x y 0 0 _ (by omega) (by omega) (by omega) (by omega) (by omega) F4.out).mono ?_
        rintro e w' ⟨rfl, rfl⟩
        go_wp2_with fail
        go_round
        case rel => exact ⟨3, by omega, rfl⟩
        case measure => simp [intOf]
    · obtain ⟨⟨f1, f2⟩, f3, f4⟩ := Num.powZ_facts x (y % 64) M (q1 % 1024) hm1 (by omega)
      rw [HM.out] at f3
      obtain ⟨r, hr⟩ : ∃ v, Num.powZ x (y % 64) M = v := ⟨_, rfl⟩
      rw [hr] at f1 f2 f3
      have F0 := Lib.hid hr
      have F1 := Lib.hid f3
      have F2 := Lib.hid f4
      clear hr f3 f4
      have d1 : decide (0 ≤ r) = true := by simp; omega
      have d2 : decide (r < M) = true := by simp; omega
      go_wp2_with fail
      refine (pow_is x (y % 64) M r _ (by omega) (by omega) (by omega) (by omega) F0.out).mono ?_
      rintro e w2 ⟨rfl, hb2⟩
      go_wp2_with fail
      refine (pow_is (x - more) (y % 64) M r _ (by omega) (by omega) (by omega) (by omega) F1.out).mono ?_
      rintro e w3 ⟨rfl, hb3⟩
      go_wp2_with fail
      refine (pow_is x (y % 64) (-M) 0 _ (by omega) (by omega) (by omega) (by omega) F2.out).mono ?_
      rintro e w4 ⟨rfl, hb4⟩
      go_wp2_with fail
      go_ret
      exact ⟨rfl, hbw.trans ((below_join (below_join hb2 hb3) hb4).mono hbw.size)⟩

theorem walk_GroupRanges (x y : Int) (zs : List Int) (hl : zs.length = 2) (hx : (Lit.int .i32 x).wf = true) (hy : (Lit.int .i32 y).wf = true) (hz : ∀ z ∈ zs, (Lit.int .i32 z).wf = true) (w : World) :
    Calls Try.prog 8 #[.int .i32 x, .int .i32 y, .agg (zs.map (Value.int .i32)).toArray] w fun e w' => e = .returned (.bool true) ∧ Below w.heap.size w w' := by
  match zs, hl with
  | [a, b], _ => exact walk2_GroupRanges x y a b hx hy (hz a (by simp)) (hz b (by simp)) w
end Go.Proofs.Yteihhgnpkpamgaa
