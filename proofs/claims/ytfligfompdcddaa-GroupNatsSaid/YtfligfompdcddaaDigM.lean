/- The contract of the reference's Mul. -/
import Derived.Test.YtfligfompdcddaaDigE
namespace Go.Proofs.Ytfligfompdcddaa
open Go.RowKit Go.Sort
set_option linter.unusedVariables false
/-- small, whatever it answers -/
theorem small_all (a k : Nat) (ha : a < 256 ^ 100) (hk : k ≤ 7) : ∃ (X : Int) (P : Bool), (∀ W, Calls Try.prog 17 #[.string (bstr (Nb.enc a)), .int .i64 k] W fun e w' => e = .returned (.tuple #[.int .i64 X, .bool P]) ∧ w' = W) ∧ (P = true → X = (a : Int) ∧ a < 256 ^ k) := by
  have sa := str_size a 100 ha
  by_cases h : a < 256 ^ k
  · exact ⟨a, true, fun W => small_yes _ a k W (by unfold maxLen; omega) (val_str a) hk h, fun _ => ⟨rfl, h⟩⟩
  · exact ⟨0, false, fun W => small_no _ a k W (by unfold maxLen; omega) (val_str a) hk (by omega), fun h => by cases h⟩
theorem of_dg (a : Nat) (ha : a < 256 ^ 100) (W : World) : Calls Try.prog 18 #[.string (bstr (Nb.enc a))] W fun e w' => ∃ v, e = .returned v ∧ DigAt w' v (Dg.dg a) ∧ Below W.heap.size W w' :=
  ofDigs_any _ a W (by have := str_size a 100 ha; omega) (val_str a)
theorem dg_len {a k : Nat} (h : a < 256 ^ (3 * k)) : (Dg.dg a).length ≤ k := (Dg.dg_length_le a k).2 (by rw [pow24]; exact h)
set_option maxHeartbeats 4000000 in
set_option maxRecDepth 100000 in
theorem nmul_any (a b : Nat) (ha : a < 256 ^ 39) (hb : b < 256 ^ 39) (w : World) :
    Calls Try.prog 7 #[.string (bstr (Nb.enc a)), .string (bstr (Nb.enc b))] w fun e w' => e = .returned (.string (bstr (Nb.enc (a * b)))) ∧ Below w.heap.size w w' := by
  have a100 : a < 256 ^ 100 := Nat.lt_trans ha (by decide)
  have b100 : b < 256 ^ 100 := Nat.lt_trans hb (by decide)
  obtain ⟨X, P, C1, hP⟩ := small_all a 3 a100 (by omega)
  obtain ⟨Y, Q, C2, hQ⟩ := small_all b 4 b100 (by omega)
  have C1 := Lib.hid (C1 w)
  have C2 := Lib.hid (C2 w)
  have OA := Lib.hid (of_dg a a100)
  have OB := Lib.hid (of_dg b b100)
  have LA := Lib.hid (dg_len (k := 13) ha)
  have LB := Lib.hid (dg_len (k := 13) hb)
  generalize bstr (Nb.enc a) = sa at *
  generalize bstr (Nb.enc b) = sb at *
  clear ha hb a100 b100
  have key : P = false ∨ (P = true ∧ Q = false) ∨ (P = true ∧ Q = true) := by cases P <;> cases Q <;> simp
  rcases key with rfl | ⟨rfl, rfl⟩ | ⟨rfl, rfl⟩
  case inr.inr =>
    obtain ⟨rfl, h1⟩ := hP rfl
    obtain ⟨rfl, h2⟩ := hQ rfl
    have hm : a * b ≤ 16777216 * 4294967296 := Nat.mul_le_mul (by omega) (by omega)
    have CO := fun W => of_int ((a : Int) * (b : Int)) (a * b) W (by simp) (by omega)
    have z1 : (a : Int) * (b : Int) = ((a * b : Nat) : Int) := by simp
    have z2 : (a : Int) * (b : Int) ≤ 72057594037927936 := by omega
    have z3 : (0 : Int) ≤ (a : Int) * (b : Int) := by omega
    have CO := Lib.hid (CO w)
    clear hP hQ h1 h2 hm OA OB LA LB z1
    go_enter Try.func7, Try.ntmps7
    go_wp2_with fail
    refine C1.out.mono ?_
    rintro e w' ⟨rfl, rfl⟩
    clear C1
    go_wp2_with fail
    refine C2.out.mono ?_
    rintro e w' ⟨rfl, rfl⟩
    clear C2
    go_wp2_with fail
    refine CO.out.mono ?_
    rintro e w' ⟨rfl, hb⟩
    have HB := Lib.hid hb
    clear CO hb
    go_wp2_with fail
    go_ret
    exact ⟨rfl, HB.out⟩
  all_goals
    clear hP hQ
    go_enter Try.func7, Try.ntmps7
    go_wp2_with fail
    refine C1.out.mono ?_
    rintro e w' ⟨rfl, rfl⟩
    clear C1
    go_wp2_with fail
    refine C2.out.mono ?_
    rintro e w' ⟨rfl, rfl⟩
    clear C2
    go_wp2_with fail
    refine (OA.out _).mono ?_
    rintro e w1 ⟨v1, rfl, q1, b1⟩
    have Q1 := Lib.hid q1
    have B1 := Lib.hid b1
    clear OA q1 b1
    go_wp2_with fail
    refine (OB.out _).mono ?_
    rintro e w2 ⟨v2, rfl, q2, b2⟩
    have BW := Lib.hid (below_join B1.out b2)
    have q1 := Q1.out.below b2
    clear OB B1 b2 Q1
    obtain ⟨n, hn⟩ : ∃ n, (Dg.dg a).length = n := ⟨_, rfl⟩
    obtain ⟨m, hm⟩ : ∃ m, (Dg.dg b).length = m := ⟨_, rfl⟩
    obtain ⟨ao, cap, rfl, hnc, hc⟩ := q1.slice hn
    obtain ⟨bo, cap2, rfl, hmc, hc2⟩ := q2.slice hm
    have hln : n ≤ 13 := by rw [← hn]; exact LA.out
    have hlm : m ≤ 13 := by rw [← hm]; exact LB.out
    have HN := Lib.hid hn
    have HM := Lib.hid hm
    have HC := Lib.hid hc
    have HC2 := Lib.hid hc2
    have FU := Lib.hid (Dg.fit_dg a)
    have FV := Lib.hid (Dg.fit_dg b)
    obtain ⟨i0, hi, hz0, hz1, hz2⟩ := info_parts int_info
    obtain ⟨k, hk⟩ : ∃ k, n + m = k := ⟨_, rfl⟩
    have hk' : (n : Int) + (m : Int) = (k : Int) := by omega
    have hk26 : k ≤ 26 := by omega
    clear LA LB q1 q2 hn hm hc hc2
    go_wp2_with (at_make; refine wpList_make_full _ rfl (.tmp 42) (.tmp 42) 39 rfl w2.heap.size 3 i0 (.int .i64 0) 1 Try.underlying39 hi hz0 hz1 .i64 .i64 _ _ k rfl rfl rfl rfl (by rw [hz2]; omega) (by unfold maxLen; omega) (Nat.le_refl _) ?_)
    intro w3 hown hgrow
    have F := Lib.hid (DigFull.made (by rw [Nat.mul_one]; exact hown))
    have B3 : Hid (Below w2.heap.size w2 w3) := (Below.refl _ _).grown hgrow (Nat.le_refl _) (fun j hj => by cases hj)
    have HC3 : Hid (∀ (j d : Nat), (Dg.dg a)[j]? = some d → ∃ g, ao = some ⟨g, 0, none⟩ ∧ g < w2.heap.size ∧ w3.cell? ⟨g, j, none⟩ = some (.int .i64 (d : Int))) := fun j d hd => by
      obtain ⟨g, h1, h2⟩ := HC.out j d hd
      exact ⟨g, h1, block_lt_of_cell h2, (B3.out.cell (block_lt_of_cell h2)).trans h2⟩
    have HC4 : Hid (∀ (j d : Nat), (Dg.dg b)[j]? = some d → ∃ g, bo = some ⟨g, 0, none⟩ ∧ g < w2.heap.size ∧ w3.cell? ⟨g, j, none⟩ = some (.int .i64 (d : Int))) := fun j d hd => by
      obtain ⟨g, h1, h2⟩ := HC2.out j d hd
      exact ⟨g, h1, block_lt_of_cell h2, (B3.out.cell (block_lt_of_cell h2)).trans h2⟩
    have ST : Hid (Dg.MulOut (Dg.dg a) (Dg.dg b) 0 (List.replicate k 0)) := by
      show Dg.MulOut _ _ _ _
      rw [← hk, ← HN.out, ← HM.out]
      exact Dg.MulOut.start _ _
    have LG := Lib.hid BW.out.size
    have B30 := Lib.hid (Below.refl w2.heap.size w3)
    obtain ⟨G, hG⟩ : ∃ G, w2.heap.size = G := ⟨_, rfl⟩
    rw [hG] at F HC3 HC4 LG B30 ⊢
    have BX := Lib.hid (below_join BW.out B3.out)
    have HK := Lib.hid hk
    clear hown hgrow hi hz0 hz1 hz2 hG HC HC2 BW B3 hk hk' C2
    go_wp2_with fail
    go_loopw [12] (fun i wr => ∃ (p : Nat) (o : List Nat), p ≤ n ∧ i = .int .i64 p ∧ Dg.MulOut (Dg.dg a) (Dg.dg b) p o ∧ DigFull wr G o ∧ Below G w3 wr) (fun i _ => n - (intOf i).toNat)
    case atStart => exact ⟨0, _, Nat.zero_le _, rfl, ST.out, F.out, B30.out⟩
    case round =>
      obtain ⟨p, o, hp, rfl, hM, hF, hB⟩ := hrel
      have MO := Lib.hid hM
      have HF := Lib.hid hF
      have HB := Lib.hid hB
      clear hM hF hB
      by_cases hlt : p < n
      · obtain ⟨x, hx⟩ : ∃ x, (Dg.dg a)[p]? = some x := ⟨(Dg.dg a)[p]'(by rw [HN.out]; exact hlt), List.getElem?_eq_getElem _⟩
        have hxb := FU.out x (List.mem_of_getElem? hx)
        have HX := Lib.hid hx
        obtain ⟨g, rfl, gl, cx⟩ := HC3.out p x hx
        have CX := Lib.hid cx
        have GL := Lib.hid gl
        clear hx cx gl
        go_wp2_with fail
        go_loopw [13, 14] (fun c j wx => ∃ (q c' : Nat) (o : List Nat), q ≤ m ∧ j = .int .i64 q ∧ c = .int .i64 c' ∧ Dg.MulIn (Dg.dg a) (Dg.dg b) p x q c' o ∧ DigFull wx G o ∧ Below G w3 wx) (fun _ j _ => m - (intOf j).toNat)
        case atStart => exact ⟨0, 0, o, Nat.zero_le _, rfl, rfl, MO.out.begin x, HF.out, HB.out⟩
        case round =>
          obtain ⟨q, c, o2, hq, rfl, rfl, hM, hF, hB⟩ := hrel
          have MI := Lib.hid hM
          have HF2 := Lib.hid hF
          have HB2 := Lib.hid hB
          have hcb := hM.car
          clear hM hF hB
          by_cases hlt2 : q < m
          · obtain ⟨y, hy⟩ : ∃ y, (Dg.dg b)[q]? = some y := ⟨(Dg.dg b)[q]'(by rw [HM.out]; exact hlt2), List.getElem?_eq_getElem _⟩
            have hyb := FV.out y (List.mem_of_getElem? hy)
            obtain ⟨g2, rfl, gl2, cy⟩ := HC4.out q y hy
            obtain ⟨z, hz, hzb⟩ := MI.out.at (show p < _ by rw [HN.out]; exact hlt) (show q < _ by rw [HM.out]; exact hlt2)
            have NI := Lib.hid (MI.out.step hxb hy hyb hz hzb)
            have cx2 : _ = _ := (HB2.out.cell (p := ⟨g, p, none⟩) GL.out).trans CX.out
            have cy2 : _ = _ := (HB2.out.cell (p := ⟨g2, q, none⟩) gl2).trans cy
            have cz := HF2.out.cell hz
            have fz := HF2.out.frozen (p + q)
            obtain ⟨t, ht⟩ : ∃ t, p + q = t := ⟨_, rfl⟩
            have ht' : (p : Int) + (q : Int) = (t : Int) := by omega
            have htk : (t : Int) < (k : Int) := by have := HK.out; omega
            have ht0 : (0 : Int) ≤ (t : Int) := by omega
            have ht1 : (t : Int).toNat = t := by omega
            rw [ht] at cz fz NI
            have hP : x * y ≤ 16777215 * 16777215 := Nat.mul_le_mul (by omega) (by omega)
            obtain ⟨P, eP⟩ : ∃ P, x * y = P := ⟨_, rfl⟩
            have eP' : (x : Int) * (y : Int) = (P : Int) := by rw [← eP]; simp
            rw [eP] at hP NI
            have eS : (z : Int) + (P : Int) + (c : Int) = ((z + P + c : Nat) : Int) := by omega
            obtain ⟨r, er⟩ : ∃ r, (z + P + c) % 16777216 = r := ⟨_, rfl⟩
            obtain ⟨qq, eq⟩ : ∃ q, (z + P + c) / 16777216 = q := ⟨_, rfl⟩
            have er' : ((z : Int) + (P : Int) + (c : Int)) % 16777216 = (r : Int) := by omega
            have eq' : ((z : Int) + (P : Int) + (c : Int)) / 16777216 = (qq : Int) := by omega
            rw [er, eq] at NI
            have P1 : (P : Int) ≤ 281474943156225 := by omega
            have P0 : (0 : Int) ≤ (P : Int) := by omega
            have z1 : (z : Int) ≤ 16777215 := by omega
            have z0 : (0 : Int) ≤ (z : Int) := by omega
            have c1 : (c : Int) ≤ 16777215 := by omega
            have x1 : (x : Int) ≤ 16777215 := by omega
            have y1 : (y : Int) ≤ 16777215 := by omega
            have X1 : ∀ dd os, (grow (redrawn wr dd) os).cell? _ = some _ := fun dd os => ((below_regrown wr dd os).cell (block_lt_of_cell cx2)).trans cx2
            have X2 : ∀ dd os, (grow (redrawn wr dd) os).cell? _ = some _ := fun dd os => ((below_regrown wr dd os).cell (block_lt_of_cell cy2)).trans cy2
            have X3 : ∀ dd os, (grow (redrawn wr dd) os).cell? _ = some _ := fun dd os => ((below_regrown wr dd os).cell (block_lt_of_cell cz)).trans cz
            clear hy hz cy gl2 ht eP hP eS er eq cx2 cy2 cz fz
            go_wp2_with fail
            refine wp_region_quiet_below (by kernel_rfl) (by kernel_rfl) ?_
            repeat (go_big_quiet_step (fail))
            refine wpQuiet_nil ?_
            intro _ hw'
            obtain ⟨⟨dq, osq⟩, hw''⟩ := hw'
            subst hw''
            have HF3 := Lib.hid (HF2.out.below (below_regrown wr dq osq))
            have HB3 := Lib.hid (HB2.out.trans ((below_regrown wr dq osq).mono (Nat.le_of_lt HF2.out.lt)))
            have cz3 := X3 dq osq
            clear X1 X2 X3
            generalize grow (redrawn wr dq) osq = W3 at *
            have fz := HF3.out.frozen t
            have SB := Lib.hid ((HB3.out.setCell (p := ⟨G, t, none⟩) (Nat.le_refl _) (.int .i64 (r : Int))))
            have SF := Lib.hid (HF3.out.set t r)
            go_wp2_with fail
            refine ⟨⟨q + 1, qq, _, by omega, by go_num, by rw [eq'], NI.out, SF.out, SB.out⟩, by simp [intOf]; omega⟩
          · obtain rfl : q = m := by omega
            have hz : o2[p + q]? = some 0 := MI.out.zero _ (by rw [HM.out]; exact Nat.le_refl _) (by rw [HN.out, HM.out]; omega)
            have NO : Hid (Dg.MulOut (Dg.dg a) (Dg.dg b) (p + 1) (o2.set (p + q) c)) := by
              show Dg.MulOut _ _ _ _
              have h1 := MI.out
              rw [← HM.out] at h1 ⊢
              exact h1.done HX.out
            have cz : wr.cell? ⟨G, p + q, none⟩ = some (.int .i64 0) := HF2.out.cell hz
            have fz := HF2.out.frozen (p + q)
            obtain ⟨t, ht⟩ : ∃ t, p + q = t := ⟨_, rfl⟩
            have ht' : (p : Int) + (q : Int) = (t : Int) := by omega
            have htk : (t : Int) < (k : Int) := by have := HK.out; omega
            have ht0 : (0 : Int) ≤ (t : Int) := by omega
            have ht1 : (t : Int).toNat = t := by omega
            rw [ht] at cz fz NO
            have SB := Lib.hid ((HB2.out.setCell (p := ⟨G, t, none⟩) (Nat.le_refl _) (.int .i64 (c : Int))))
            have SF := Lib.hid (HF2.out.set t c)
            clear hz ht
            go_wp2_with fail
            refine ⟨⟨p + 1, _, by omega, by go_num, NO.out, SF.out, SB.out⟩, by simp [intOf]; omega⟩
      · obtain rfl : p = n := by omega
        have hv : Dg.dval o = a * b := by
          have h1 := MO.out
          rw [← HN.out] at h1
          rw [h1.whole, Dg.dval_dg, Dg.dval_dg]
        have hlen : o.length = k := by rw [MO.out.len, HN.out, HM.out, HK.out]
        have CN := number_any (HF.out.at hlen) MO.out.fit (by omega)
        rw [hv] at CN
        have CN := Lib.hid CN
        have BY := Lib.hid (BX.out.trans (HB.out.mono LG.out))
        clear hv hlen
        go_wp2_with fail
        refine CN.out.mono ?_
        rintro e w4 ⟨rfl, b4⟩
        have BZ := Lib.hid (below_join BY.out b4)
        clear b4 CN
        go_wp2_with fail
        go_ret
        exact ⟨rfl, BZ.out⟩
end Go.Proofs.Ytfligfompdcddaa
