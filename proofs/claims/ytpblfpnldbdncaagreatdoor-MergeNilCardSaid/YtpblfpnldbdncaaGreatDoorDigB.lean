/- Contracts of the reference's numbers by digits: cmp, digit. -/
import Derived.Test.YtpblfpnldbdncaaGreatDoorDigA
namespace Go.Proofs.YtpblfpnldbdncaaGreatDoor
open Go.RowKit Go.Sort
set_option linter.unusedVariables false
/-- a comparison of a and b -/
def CmpIs (a b : Nat) (w : World) (e : Ending) (w' : World) : Prop := (∃ c : Int, e = .returned (.int .i64 c) ∧ (c ≤ 0 ↔ a ≤ b) ∧ (0 ≤ c ↔ b ≤ a)) ∧ Below w.heap.size w w'
theorem cmp_short {a b n m : Nat} (hn : (Dg.dg a).length = n) (hm : (Dg.dg b).length = m) (h : n < m) : a < b := by
  have h1 := (Dg.dg_length_le a n).1 (by omega)
  rcases Nat.lt_or_ge a b with h2 | h2
  · exact h2
  · have h3 := (Dg.dg_length_le b n).2 (Nat.lt_of_le_of_lt h2 h1)
    omega
set_option maxHeartbeats 4000000 in
set_option maxRecDepth 100000 in
theorem cmp_any {w : World} {u v : Value} {a b : Nat} (h : DigAt w u (Dg.dg a)) (h' : DigAt w v (Dg.dg b)) (hl : (Dg.dg a).length ≤ 1000) (hl' : (Dg.dg b).length ≤ 1000) :
    Calls Tryz.prog 126 #[u, v] w (CmpIs a b w) := by
  obtain ⟨n, hn⟩ : ∃ n, (Dg.dg a).length = n := ⟨_, rfl⟩
  obtain ⟨m, hm⟩ : ∃ m, (Dg.dg b).length = m := ⟨_, rfl⟩
  obtain ⟨ao, cap, rfl, hnc, hc⟩ := h.slice hn
  obtain ⟨bo, cap2, rfl, hmc, hc2⟩ := h'.slice hm
  rw [hn] at hl
  rw [hm] at hl'
  have HN := Lib.hid hn
  have HM := Lib.hid hm
  have HC := Lib.hid hc
  have HC2 := Lib.hid hc2
  have FU := Lib.hid (Dg.fit_dg a)
  have FV := Lib.hid (Dg.fit_dg b)
  clear h h' hc hc2 hn hm
  by_cases hne : n = m
  · subst hne
    have TOP : Hid (a / 16777216 ^ n = b / 16777216 ^ n) := by
      show _ = _
      rw [Nat.div_eq_of_lt ((Dg.dg_length_le a n).1 (by rw [HN.out]; exact Nat.le_refl _)), Nat.div_eq_of_lt ((Dg.dg_length_le b n).1 (by rw [HM.out]; exact Nat.le_refl _))]
    go_enter Tryz.func126, Tryz.ntmps126
    go_wp2_with fail
    go_loopw [5] (fun i wr => ∃ (k : Nat) (z : Int), k ≤ n ∧ z = (k : Int) - 1 ∧ i = .int .i64 z ∧ a / 16777216 ^ k = b / 16777216 ^ k ∧ Below w.heap.size w wr) (fun i _ => (intOf i + 1).toNat)
    case atStart => exact ⟨n, _, Nat.le_refl _, rfl, rfl, TOP.out, Below.refl _ _⟩
    case round =>
      obtain ⟨k, z, hk, hz, rfl, htop, hb⟩ := hrel
      have HT := Lib.hid htop
      have HB := Lib.hid hb
      clear htop hb
      rcases Nat.eq_zero_or_pos k with h0 | h0
      · subst h0
        have hz' : z = -1 := by simpa using hz
        subst hz'
        clear hz
        have E : Hid (a = b) := by show a = b; have := HT.out; simpa using this
        go_wp2_with fail
        go_ret
        exact ⟨⟨0, rfl, by rw [E.out]; simp, by rw [E.out]; simp⟩, HB.out⟩
      · obtain ⟨i, rfl⟩ : ∃ i, k = i + 1 := ⟨k - 1, by omega⟩
        obtain rfl : z = (i : Int) := by rw [hz]; omega
        clear hz h0
        obtain ⟨x, hx⟩ : ∃ x, (Dg.dg a)[i]? = some x := ⟨(Dg.dg a)[i]'(by rw [HN.out]; omega), List.getElem?_eq_getElem _⟩
        obtain ⟨y, hy⟩ : ∃ y, (Dg.dg b)[i]? = some y := ⟨(Dg.dg b)[i]'(by rw [HM.out]; omega), List.getElem?_eq_getElem _⟩
        have hxb := FU.out x (List.mem_of_getElem? hx)
        have hyb := FV.out y (List.mem_of_getElem? hy)
        have ex := Dg.dg_get i a x hx
        have ey := Dg.dg_get i b y hy
        obtain ⟨g1, rfl, d1⟩ := HC.out i x hx
        obtain ⟨g2, rfl, d2⟩ := HC2.out i y hy
        have kept : ∀ (a : Addr) (v : Value), w.cell? a = some v → ∀ dd os d2 o2, (grow (redrawn (grow (redrawn wr dd) os) d2) o2).cell? a = some v := fun a v ha dd os d2 o2 =>
          ((below_join (below_join HB.out (below_regrown wr dd os)) (below_regrown _ d2 o2)).cell (block_lt_of_cell ha)).trans ha
        have kept1 : ∀ (a : Addr) (v : Value), w.cell? a = some v → ∀ dd os, (grow (redrawn wr dd) os).cell? a = some v := fun a v ha dd os => ((below_join HB.out (below_regrown wr dd os)).cell (block_lt_of_cell ha)).trans ha
        have X1 := kept1 _ _ d1
        have X2 := kept1 _ _ d2
        have Y1 := Lib.hid (kept _ _ d1)
        have Y2 := Lib.hid (kept _ _ d2)
        have r1 : (0 : Int) ≤ (i : Int) := by omega
        have r2 : (i : Int) < (n : Int) := by omega
        have r3 : (i : Int).toNat = i := by omega
        by_cases hxy : x = y
        · subst hxy
          have NX := Lib.hid (Dg.cmp_same HT.out (by rw [← ex, ← ey]))
          have t1 : ((x : Int) != (x : Int)) = false := by simp
          clear kept kept1 d1 d2 hx hy ex ey
          go_wp2_with fail
          refine wp_region_quiet_below (by kernel_rfl) (by kernel_rfl) ?_
          repeat (go_big_quiet_step (fail))
          refine wpQuiet_nil ?_
          intro _ hw'
          obtain ⟨⟨dq, osq⟩, hw''⟩ := hw'
          subst hw''
          have B := Lib.hid (below_join HB.out (below_regrown wr dq osq))
          clear X1 X2
          go_wp2_with fail
          refine ⟨⟨i, _, by omega, rfl, rfl, NX.out, B.out⟩, by simp [intOf]⟩
        · have t1 : ((x : Int) != (y : Int)) = true := by simp; omega
          have LT1 : Hid (x < y → a < b) := fun h => Dg.cmp_at HT.out (by rw [← ex, ← ey]; exact h)
          have LT2 : Hid (y < x → b < a) := fun h => Dg.cmp_at HT.out.symm (by rw [← ex, ← ey]; exact h)
          have NE := Lib.hid hxy
          clear kept kept1 d1 d2 hx hy ex ey hxy
          go_wp2_with fail
          refine wp_region_quiet_below (by kernel_rfl) (by kernel_rfl) ?_
          repeat (go_big_quiet_step (fail))
          refine wpQuiet_nil ?_
          intro _ hw'
          obtain ⟨⟨dq, osq⟩, hw''⟩ := hw'
          subst hw''
          have B := Lib.hid (below_join HB.out (below_regrown wr dq osq))
          have Z1 := Y1.out dq osq
          have Z2 := Y2.out dq osq
          clear X1 X2
          generalize grow (redrawn wr dq) osq = W3 at *
          go_wp2_with fail
          refine wp_region_quiet_below (by kernel_rfl) (by kernel_rfl) ?_
          repeat (go_big_quiet_step (fail))
          refine wpQuiet_nil ?_
          intro _ hw'
          obtain ⟨⟨dq2, osq2⟩, hw''⟩ := hw'
          subst hw''
          have B3 := Lib.hid (below_join B.out (below_regrown W3 dq2 osq2))
          clear Z1 Z2
          have CI : Hid (((x : Int) - (y : Int) ≤ 0 ↔ a ≤ b) ∧ (0 ≤ (x : Int) - (y : Int) ↔ b ≤ a)) := by
            have h1 := NE.out
            rcases Nat.lt_or_ge x y with h | h
            · have := LT1.out h
              exact ⟨⟨fun _ => by omega, fun _ => by omega⟩, ⟨fun _ => by omega, fun _ => by omega⟩⟩
            · have := LT2.out (by omega)
              exact ⟨⟨fun _ => by omega, fun _ => by omega⟩, ⟨fun _ => by omega, fun _ => by omega⟩⟩
          go_wp2_with fail
          go_ret
          exact ⟨⟨_, rfl, CI.out.1, CI.out.2⟩, B3.out⟩
  · have t1 : ((n : Int) != (m : Int)) = true := by simp; omega
    have CI : Hid (((n : Int) - (m : Int) ≤ 0 ↔ a ≤ b) ∧ (0 ≤ (n : Int) - (m : Int) ↔ b ≤ a)) := by
      rcases Nat.lt_or_ge n m with h | h
      · have := cmp_short HN.out HM.out h
        exact ⟨⟨fun _ => by omega, fun _ => by omega⟩, ⟨fun _ => by omega, fun _ => by omega⟩⟩
      · have := cmp_short HM.out HN.out (by omega)
        exact ⟨⟨fun _ => by omega, fun _ => by omega⟩, ⟨fun _ => by omega, fun _ => by omega⟩⟩
    clear hne
    go_enter Tryz.func126, Tryz.ntmps126
    go_wp2_with fail
    go_ret
    exact ⟨⟨_, rfl, CI.out.1, CI.out.2⟩, Below.refl _ _⟩
set_option maxHeartbeats 4000000 in
set_option maxRecDepth 100000 in
theorem digit_any {w : World} {u v : Value} {a b : Nat} (h : DigAt w u (Dg.dg a)) (h' : DigAt w v (Dg.dg b)) (hl : (Dg.dg a).length ≤ 900) (hl' : (Dg.dg b).length ≤ 900) (hb : 0 < b) (hq : a / b < 16777216) :
    Calls Tryz.prog 127 #[u, v] w fun e w' => e = .returned (.int .i64 (a / b : Nat)) ∧ Below w.heap.size w w' := by
  obtain ⟨Q, eQ⟩ : ∃ Q, a / b = Q := ⟨_, rfl⟩
  have KEY : Hid (∀ mid, b * mid ≤ a ↔ mid ≤ Q) := fun mid => by rw [← eQ, Nat.le_div_iff_mul_le hb, Nat.mul_comm]
  have PL : Hid (∀ mid, mid < 16777216 → (Dg.dg (b * mid)).length ≤ 1000) := by
    intro mid hm
    have h1 := (Dg.dg_length_le b (Dg.dg b).length).1 (Nat.le_refl _)
    refine Nat.le_trans ((Dg.dg_length_le (b * mid) ((Dg.dg b).length + 1)).2 ?_) (by omega)
    rw [Nat.pow_succ]
    exact Nat.lt_of_le_of_lt (Nat.mul_le_mul_left b (Nat.le_of_lt hm)) (Nat.mul_lt_mul_of_pos_right h1 (by omega))
  have HU := Lib.hid h
  have HV := Lib.hid h'
  have HL := Lib.hid hl
  have HL' := Lib.hid hl'
  rw [eQ] at hq ⊢
  clear h h' hl hl' eQ hb
  go_enter Tryz.func127, Tryz.ntmps127
  go_wp2_with fail
  go_loopw [5, 6] (fun l h wr => ∃ lo hi : Nat, lo ≤ Q ∧ Q ≤ hi ∧ hi ≤ 16777215 ∧ l = .int .i64 lo ∧ h = .int .i64 hi ∧ Below w.heap.size w wr) (fun l h _ => (intOf h - intOf l).toNat)
  case atStart => exact ⟨0, 16777215, Nat.zero_le _, by omega, Nat.le_refl _, rfl, rfl, Below.refl _ _⟩
  case round =>
    obtain ⟨lo, hi, h1, h2, h3, rfl, rfl, hb⟩ := hrel
    have HB := Lib.hid hb
    clear hb
    by_cases hlt : lo < hi
    · obtain ⟨mid, em⟩ : ∃ mid, (lo + hi + 1) / 2 = mid := ⟨_, rfl⟩
      have em' : ((lo : Int) + (hi : Int) + 1) / 2 = (mid : Int) := by omega
      have m1 : lo < mid := by omega
      have m2 : mid ≤ hi := by omega
      have m3 : (mid : Int) ≤ 16777215 := by omega
      have CT := Lib.hid (times_any (d := mid) (HV.out.below HB.out) (by omega) (by have := HL'.out; omega))
      have HKEY := Lib.hid (KEY.out mid)
      have HPL := Lib.hid (PL.out mid (by omega))
      clear em
      go_wp2_with fail
      refine CT.out.mono ?_
      rintro e w1 ⟨v1, rfl, q1, b1⟩
      have B1 := Lib.hid (below_join HB.out b1)
      have CC := Lib.hid (cmp_any q1 (HU.out.below B1.out) HPL.out (by have := HL.out; omega))
      clear q1 b1 CT
      go_wp2_with fail
      refine CC.out.mono ?_
      rintro e w2 ⟨⟨c, rfl, hc, _⟩, b2⟩
      have B2 := Lib.hid (below_join B1.out b2)
      have HCC := Lib.hid hc
      clear hc b2 CC
      by_cases hcz : c ≤ 0
      · have d1 : decide (c ≤ 0) = true := decide_eq_true hcz
        have hmq := HKEY.out.1 (HCC.out.1 hcz)
        clear hcz
        go_wp2_with fail
        refine ⟨⟨mid, hi, hmq, h2, h3, rfl, rfl, B2.out⟩, by simp [intOf]; omega⟩
      · have d1 : decide (c ≤ 0) = false := decide_eq_false hcz
        have hmq : ¬ mid ≤ Q := fun h => hcz (HCC.out.2 (HKEY.out.2 h))
        obtain ⟨hi', rfl⟩ : ∃ hi', mid = hi' + 1 := ⟨mid - 1, by omega⟩
        clear hcz
        go_wp2_with fail
        refine ⟨⟨lo, hi', h1, by omega, by omega, rfl, by first | rfl | (congr 1; omega), B2.out⟩, by simp [intOf]; omega⟩
    · obtain rfl : lo = hi := by omega
      obtain rfl : lo = Q := by omega
      go_wp2_with fail
      go_ret
      exact ⟨rfl, HB.out⟩
end Go.Proofs.YtpblfpnldbdncaaGreatDoor
