/- Contracts of Inv and Member of package group and of the reference. -/
import Derived.Test.YtfligfompdcddaaPowN
namespace Go.Proofs.Ytfligfompdcddaa
open Go.RowKit
set_option linter.unusedVariables false

/-- what Inv returns -/
def InvEnd (a m : Int) (e : Ending) : Prop := ∃ (i : Int) (ok : Bool), e = .returned (.tuple #[.int .i64 i, .bool ok]) ∧ Num.InvIs a m i ok
theorem invEnd_mk {a m i : Int} {ok : Bool} (h : Num.InvIs a m i ok) : InvEnd a m (.returned (.tuple #[.int .i64 i, .bool ok])) := ⟨i, ok, rfl, h⟩

set_option maxHeartbeats 400000 in
theorem inv_core (a : Int) (r M : Nat) (w : World) (ha : -9223372036854775808 ≤ a) (ha' : a ≤ 9223372036854775807) (h1 : 2 ≤ M) (h2 : M ≤ 9223372036854775807) (hr : Hid (a % (M : Int) = r)) (hrl : r < M) :
    Calls Try.prog 12 #[.int .i64 a, .int .i64 (M : Int)] w fun e w' => InvEnd a M e ∧ Below w.heap.size w w' := by
  have hd1 : decide ((M : Int) < 2) = false := by simp; omega
  have st := Lib.hid (Num.Eu.start a M r hr.out h1)
  go_enter Try.func12, Try.ntmps12
  go_wp2_with fail
  refine (residue_eq a M r _ (by omega) (by omega) (by omega) (by omega) hr.out).mono ?_
  rintro e w' ⟨rfl, rfl⟩
  go_wp2_with fail
  go_loopw [6, 7, 8, 9, 10] (fun x' y' s' t' _ wr => ∃ (x y : Nat) (s t : Int), x ≤ M ∧ -(M : Int) ≤ s ∧ s ≤ M ∧ x' = .int .i64 x ∧ y' = .int .i64 y ∧ s' = .int .i64 s ∧ t' = .int .i64 t ∧ Hid (Num.Eu a M x y s t) ∧ Hid (Nat.gcd x y = Nat.gcd M r) ∧ Below w.heap.size w wr) (fun _ y' _ _ _ _ => (intOf y').toNat)
  case atStart => exact ⟨M, r, 0, 1, Nat.le_refl _, by omega, by omega, rfl, rfl, rfl, rfl, st, rfl, Below.refl _ _⟩
  case round =>
    obtain ⟨x, y, s, t, hxM, hs1, hs2, rfl, rfl, rfl, rfl, HE, HG, hbw⟩ := hrel
    have hb := HE.out.bounds
    obtain ⟨hb1, hb2, hb3⟩ := hb
    by_cases hpos : 0 < y
    · obtain ⟨hE', hq1, hq2, hq3, hq4, hq5, hq6⟩ := HE.out.step' hpos
      have HE' := Lib.hid hE'
      have hxy : y < x := HE.out.2.1
      have hbn := HE'.out.bounds
      obtain ⟨hb6, hb7, _⟩ := hbn
      have HG' := Lib.hid (Num.gcd_step x y _ HG.out)
      have hxl : x ≤ 9223372036854775807 := by omega
      clear hE' hb3
      go_wp2_with fail
      go_quiet (fail)
      go_wp2_with fail
      go_roundw
      case rel => exact ⟨y, x % y, t, _, by omega, hb1, hb2, rfl, by simp, rfl, rfl, HE', HG', below_drewN hbw _⟩
      case measure => simp [intOf]; omega
    · obtain rfl : y = 0 := by omega
      by_cases hx1 : x = 1
      · subst hx1
        have HY := Lib.hid (Num.inv_yes a s M h1 HE.out.2.2.1)
        go_wp2_with fail
        refine (residue_any _ _ _ (by omega) (by omega) (by omega) (by omega)).mono ?_
        rintro e w' ⟨rfl, rfl⟩
        go_wp2_with fail
        go_ret2
        exact ⟨invEnd_mk HY.out, hbw⟩
      · have HX := Lib.hid (Num.inv_no a M r x hr.out h1 HG.out hx1)
        have hne : ((x : Int) != 1) = true := by simp; omega
        go_wp2_with fail
        go_ret2
        exact ⟨invEnd_mk HX.out, hbw⟩

theorem inv_any (a m : Int) (w : World) (ha : -9223372036854775808 ≤ a) (ha' : a ≤ 9223372036854775807) (h2 : m ≤ 9223372036854775807) :
    Calls Try.prog 12 #[.int .i64 a, .int .i64 m] w fun e w' => InvEnd a m e ∧ Below w.heap.size w w' := by
  by_cases h1 : m < 2
  · have hd : decide (m < 2) = true := by simp; omega
    have H := Lib.hid (Num.inv_small a m h1)
    go_enter Try.func12, Try.ntmps12
    go_wp2_with fail
    go_ret2
    exact ⟨invEnd_mk H.out, Below.refl _ _⟩
  · obtain ⟨r, M, rfl, hr, hl, hM⟩ := Num.natres a m (by omega)
    exact inv_core a r M w ha ha' (by omega) (by omega) hr hl

end Go.Proofs.Ytfligfompdcddaa
