/- sanity of the ledger's laws. -/
import Derived.Test.YtfligfompdcddaaGreatDoorLedSmall
namespace Go.Proofs.YtfligfompdcddaaGreatDoor
open Go.RowKit Go.Sort Go.Maps
set_option linter.unusedVariables false
namespace Led
def sa : ByteArray := ⟨#[97]⟩
def sb : ByteArray := ⟨#[98]⟩
def sc : ByteArray := ⟨#[99]⟩
def sd : ByteArray := ⟨#[100]⟩
def se : ByteArray := ⟨#[101]⟩
def sx : ByteArray := ⟨#[120]⟩
def mintS : ByteArray := ⟨#[109, 105, 110, 116]⟩
def potS : ByteArray := ⟨#[112, 111, 116]⟩
def officeS : ByteArray := ⟨#[111, 102, 102, 105, 99, 101]⟩
def q1 : Pst := ⟨sa, mintS, potS, 10⟩
def q2 : Pst := ⟨sb, potS, officeS, 4⟩
def q3 : Pst := ⟨sb, potS, officeS, 5⟩
def q4 : Pst := ⟨sc, officeS, potS, 5⟩
def q5 : Pst := ⟨sc, potS, potS, 1⟩
def q6 : Pst := ⟨sd, potS, sx, 6⟩
def q7 : Pst := ⟨se, potS, sx, 1⟩
def L2 : List Pst := [q1, q2]
theorem e1 : post [] q1 = (0, [q1]) := by kernel_rfl
theorem e2 : post [q1] q2 = (0, L2) := by kernel_rfl
theorem e3 : post L2 q2 = (0, L2) := by kernel_rfl
theorem e4 : post L2 q3 = (33, L2) := by kernel_rfl
theorem e5 : post L2 q4 = (52, L2) := by kernel_rfl
theorem e6 : post L2 q5 = (1, L2) := by kernel_rfl
theorem e7 : all L2 [q6, q7] = (1, 52, L2) := by kernel_rfl
theorem b1 : bal L2 potS = 6 := by kernel_rfl
theorem b2 : bal L2 officeS = 4 := by kernel_rfl
theorem b3 : bal L2 mintS = -10 := by kernel_rfl
theorem s1 : split 10 [1, 1, 1] = some [4, 3, 3] := by kernel_rfl
theorem s2 : split 7 [2, 0, 1] = some [5, 0, 2] := by kernel_rfl
theorem sizes : sa.size ≤ maxLen ∧ sb.size ≤ maxLen ∧ sc.size ≤ maxLen ∧ sd.size ≤ maxLen ∧ se.size ≤ maxLen ∧ sx.size ≤ maxLen ∧ mintS.size ≤ maxLen ∧ potS.size ≤ maxLen ∧ officeS.size ≤ maxLen := by
  refine ⟨?_, ?_, ?_, ?_, ?_, ?_, ?_, ?_, ?_⟩ <;> (unfold maxLen; exact Nat.le_of_ble_eq_true rfl)
end Led
set_option maxHeartbeats 4000000 in
set_option maxRecDepth 100000 in
theorem sanity_any (w : World) : Calls Tryz.prog 7 #[] w fun e w' => e = .returned (.bool true) ∧ Below w.heap.size w w' := by
  obtain ⟨za, zb, zc, zd, ze, zx, zm, zp, zo⟩ := Led.sizes
  go_enter Tryz.func7, Tryz.ntmps7
  go_wp2_with fail
  refine (new_own w w (Below.refl _ _)).mono ?_
  rintro e w1 ⟨rfl, h⟩
  have O1 := Lib.hid h
  clear h
  go_wp2_with fail
  refine (lpost_own O1.out _ _ _ _).mono ?_
  rintro e w2 ⟨rfl, h⟩
  have O2 := Lib.hid h
  clear h O1
  go_wp2_with fail
  refine (post_own O2.out Led.q1 0 Led.e1 (by omega) ⟨za, zm, zp⟩).mono ?_
  rintro e w3 ⟨rfl, h⟩
  have O3 := Lib.hid h
  clear h O2
  go_wp2_with fail
  refine (lpost_own O3.out _ _ _ _).mono ?_
  rintro e w4 ⟨rfl, h⟩
  have O4 := Lib.hid h
  clear h O3
  go_wp2_with fail
  refine (post_own O4.out Led.q2 0 Led.e2 (by omega) ⟨zb, zp, zo⟩).mono ?_
  rintro e w5 ⟨rfl, h⟩
  have O5 := Lib.hid h
  clear h O4
  go_wp2_with fail
  refine (lpost_own O5.out _ _ _ _).mono ?_
  rintro e w6 ⟨rfl, h⟩
  have O6 := Lib.hid h
  clear h O5
  go_wp2_with fail
  refine (post_own O6.out Led.q2 0 Led.e3 (by omega) ⟨zb, zp, zo⟩).mono ?_
  rintro e w7 ⟨rfl, h⟩
  have O7 := Lib.hid h
  clear h O6
  go_wp2_with fail
  refine (lpost_own O7.out _ _ _ _).mono ?_
  rintro e w8 ⟨rfl, h⟩
  have O8 := Lib.hid h
  clear h O7
  go_wp2_with fail
  refine (post_own O8.out Led.q3 33 Led.e4 (by omega) ⟨zb, zp, zo⟩).mono ?_
  rintro e w9 ⟨rfl, h⟩
  have O9 := Lib.hid h
  clear h O8
  go_wp2_with fail
  refine (balance_own O9.out Led.potS (6) Led.b1 zp).mono ?_
  rintro e w' ⟨rfl, rfl⟩
  go_wp2_with fail
  refine (balance_own O9.out Led.officeS (4) Led.b2 zo).mono ?_
  rintro e w' ⟨rfl, rfl⟩
  go_wp2_with fail
  refine (balance_own O9.out Led.mintS (-10) Led.b3 zm).mono ?_
  rintro e w' ⟨rfl, rfl⟩
  go_wp2_with fail
  refine (lpost_own O9.out _ _ _ _).mono ?_
  rintro e w10 ⟨rfl, h⟩
  have O10 := Lib.hid h
  clear h O9
  go_wp2_with fail
  refine (post_own O10.out Led.q4 52 Led.e5 (by omega) ⟨zc, zo, zp⟩).mono ?_
  rintro e w11 ⟨rfl, h⟩
  have O11 := Lib.hid h
  clear h O10
  go_wp2_with fail
  refine (lpost_own O11.out _ _ _ _).mono ?_
  rintro e w12 ⟨rfl, h⟩
  have O12 := Lib.hid h
  clear h O11
  go_wp2_with fail
  refine (post_own O12.out Led.q5 1 Led.e6 (by omega) ⟨zc, zp, zp⟩).mono ?_
  rintro e w13 ⟨rfl, h⟩
  have O13 := Lib.hid h
  clear h O12
  go_wp2_with fail
  refine (lpost_own O13.out _ _ _ _).mono ?_
  rintro e w14 ⟨rfl, h⟩
  have O14 := Lib.hid h
  clear h O13
  go_wp2_with fail
  refine (lpost_own O14.out _ _ _ _).mono ?_
  rintro e w15 ⟨rfl, h⟩
  have O15 := Lib.hid h
  clear h O14
  go_wp2_with fail
  have ba : Below w15.heap.size w15 (w15.alloc (.cells #[.string ⟨#[100]⟩, .string ⟨#[112, 111, 116]⟩, .string ⟨#[120]⟩, .int .i64 6, .string ⟨#[101]⟩, .string ⟨#[112, 111, 116]⟩, .string ⟨#[120]⟩, .int .i64 1] 24)) := (Below.refl _ _).alloc (Nat.le_refl _) _
  have pa : PstsAt (w15.alloc (.cells #[.string ⟨#[100]⟩, .string ⟨#[112, 111, 116]⟩, .string ⟨#[120]⟩, .int .i64 6, .string ⟨#[101]⟩, .string ⟨#[112, 111, 116]⟩, .string ⟨#[120]⟩, .int .i64 1] 24)) (.slice (some ⟨w15.heap.size, 0, none⟩) 2 2) [Led.q6, Led.q7] := by
    refine ⟨_, 2, rfl, .inr ⟨_, rfl, fun i q hq j hj => ?_⟩⟩
    rw [cell_of_row _ _ _ _ _ _ (heap_alloc_new _ _)]
    match i, hq with
    | 0, hq =>
      injection hq with hq
      subst hq
      match j, hj with
      | 0, _ => rfl
      | 1, _ => rfl
      | 2, _ => rfl
      | 3, _ => rfl
    | 1, hq =>
      injection hq with hq
      subst hq
      match j, hj with
      | 0, _ => rfl
      | 1, _ => rfl
      | 2, _ => rfl
      | 3, _ => rfl
    | i + 2, hq => simp at hq
  have CA := Lib.hid (all_own O15.out ba [Led.q6, Led.q7] Led.e7 pa (fun g hg => by injection hg with hg; subst hg; simp) (by simp) (by
    intro q hq
    simp at hq
    rcases hq with rfl | rfl
    · exact ⟨zd, zp, zx⟩
    · exact ⟨ze, zp, zx⟩))
  clear ba pa
  refine CA.out.mono ?_
  rintro e w16 ⟨rfl, h⟩
  have O16 := Lib.hid h
  clear h O15 CA
  go_wp2_with fail
  have bs : Below w16.heap.size w16 (w16.alloc (.cells #[.int .i64 1, .int .i64 1, .int .i64 1] 3)) := (Below.refl _ _).alloc (Nat.le_refl _) _
  have ia : IntsAt (w16.alloc (.cells #[.int .i64 1, .int .i64 1, .int .i64 1] 3)) (.slice (some ⟨w16.heap.size, 0, none⟩) 3 3) [1, 1, 1] := IntsFull.at (xs := [1, 1, 1]) (heap_alloc_new _ _) 3
  refine (split_own Led.s1 ia (by simp)).mono ?_
  rintro e w17 ⟨ga, rfl, fa, hb⟩
  have O17 := Lib.hid ((O16.out.below bs).below hb)
  have FA := Lib.hid fa
  clear bs ia fa hb O16
  go_wp2_with fail
  have bs : Below w17.heap.size w17 (w17.alloc (.cells #[.int .i64 2, .int .i64 0, .int .i64 1] 3)) := (Below.refl _ _).alloc (Nat.le_refl _) _
  have ia : IntsAt (w17.alloc (.cells #[.int .i64 2, .int .i64 0, .int .i64 1] 3)) (.slice (some ⟨w17.heap.size, 0, none⟩) 3 3) [2, 0, 1] := IntsFull.at (xs := [2, 0, 1]) (heap_alloc_new _ _) 3
  refine (split_own Led.s2 ia (by simp)).mono ?_
  rintro e w18 ⟨gb, rfl, fb, hb⟩
  have O18 := Lib.hid ((O17.out.below bs).below hb)
  have FA2 := Lib.hid ((FA.out.below bs).below hb)
  have FB := Lib.hid fb
  clear bs ia fb hb O17 FA
  go_wp2_with fail
  refine (balance_own O18.out Led.potS (6) Led.b1 zp).mono ?_
  rintro e w' ⟨rfl, rfl⟩
  go_wp2_with fail
  have bs : Below w18.heap.size w18 (w18.alloc (.cells #[.int .i64 4, .int .i64 3, .int .i64 3] 3)) := (Below.refl _ _).alloc (Nat.le_refl _) _
  have ia : IntsAt (w18.alloc (.cells #[.int .i64 4, .int .i64 3, .int .i64 3] 3)) (.slice (some ⟨w18.heap.size, 0, none⟩) 3 3) [4, 3, 3] := IntsFull.at (xs := [4, 3, 3]) (heap_alloc_new _ _) 3
  have ib : IntsAt (w18.alloc (.cells #[.int .i64 4, .int .i64 3, .int .i64 3] 3)) (.slice (some ⟨ga, 0, none⟩) 3 3) [4, 3, 3] := IntsFull.at (xs := [4, 3, 3]) (FA2.out.below bs) 3
  refine (ints_any [4, 3, 3] [4, 3, 3] _ _ _ ib ia (by unfold maxLen; simp)).mono ?_
  rintro e w19 ⟨rfl, hb⟩
  have O19 := Lib.hid ((O18.out.below bs).below hb)
  have FB2 := Lib.hid ((FB.out.below bs).below hb)
  clear bs ia ib hb O18 FB FA2
  go_wp2_with fail
  have bs : Below w19.heap.size w19 (w19.alloc (.cells #[.int .i64 5, .int .i64 0, .int .i64 2] 3)) := (Below.refl _ _).alloc (Nat.le_refl _) _
  have ia : IntsAt (w19.alloc (.cells #[.int .i64 5, .int .i64 0, .int .i64 2] 3)) (.slice (some ⟨w19.heap.size, 0, none⟩) 3 3) [5, 0, 2] := IntsFull.at (xs := [5, 0, 2]) (heap_alloc_new _ _) 3
  have ib : IntsAt (w19.alloc (.cells #[.int .i64 5, .int .i64 0, .int .i64 2] 3)) (.slice (some ⟨gb, 0, none⟩) 3 3) [5, 0, 2] := IntsFull.at (xs := [5, 0, 2]) (FB2.out.below bs) 3
  refine (ints_any [5, 0, 2] [5, 0, 2] _ _ _ ib ia (by unfold maxLen; simp)).mono ?_
  rintro e w20 ⟨rfl, hb⟩
  have O20 := Lib.hid ((O19.out.below bs).below hb)
  clear bs ia ib hb O19 FB2
  go_wp2_with fail
  go_ret
  exact ⟨rfl, O20.out.same⟩
end Go.Proofs.YtfligfompdcddaaGreatDoor
