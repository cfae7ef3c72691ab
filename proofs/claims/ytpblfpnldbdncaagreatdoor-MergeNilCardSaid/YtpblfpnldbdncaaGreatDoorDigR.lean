/- The contract of the reference's Quo, at any numbers. -/
import Derived.Test.YtpblfpnldbdncaaGreatDoorDigQ
import Derived.Deep.RegionHeld
namespace Go.Proofs.YtpblfpnldbdncaaGreatDoor
open Go.RowKit Go.Sort
set_option linter.unusedVariables false
set_option maxRecDepth 1000000
theorem DigAt.set_far {w : World} {g G n cap : Nat} {l : List Nat} (h : DigAt w (.slice (some ⟨g, 0, none⟩) n cap) l) (hne : g ≠ G) (t : Nat) (x : Value) : DigAt (w.setCell ⟨G, t, none⟩ x) (.slice (some ⟨g, 0, none⟩) n cap) l := by
  obtain ⟨ao, c, e, hc, hr⟩ := h
  refine ⟨ao, c, e, hc, ?_⟩
  injection e with e1 e2 e3
  rcases hr with h | ⟨g', h1, h2⟩
  · exact .inl h
  · refine .inr ⟨g', h1, fun j d hd => ?_⟩
    rw [← e1] at h1
    injection h1 with h1
    injection h1 with h1
    subst h1
    rw [World.cell?_setCell_far _ _ _ _ (by intro h; exact hne h.symm)]
    exact h2 j d hd
theorem run_append_no {w : World} {base : Nat} {t ty e : TypeId} {i : TypeInfo} {size c : Nat} (ht : Tryz.prog.underlying t = some (.slice e)) (hi : Tryz.prog.info? e = some i)
    (v : Value) (n : Nat) (xs : List Value) (hown : w.ownsRow base e size v n xs) :
    (Builtin.append_ #[t, t] ty #[v, .slice none 0 c]).run Tryz.prog w = .ok v w := by
  rcases hown.2 with ⟨rfl, rfl⟩ | ⟨g, cap, cur, rfl, _, _, hnc, _⟩
  · simp [Builtin.append_, run_underlying ht, sizeOf, typeInfo, hi, Builtin.lenOf, Builtin.firstCells]
  · simp [Builtin.append_, run_underlying ht, sizeOf, typeInfo, hi, Builtin.lenOf, Builtin.firstCells, hnc, storeCells]
/-- one digit, and more digits behind it -/
theorem wpList_append_digs {ops : Array Oper} {rest : List Oper} {o : Oper} {a : Act} {w : World} {Q : Exit → Act → World → Prop} (hgd : o.guard = none) (s x : Operand)
    (ho : o.op = Op.call { callee := Callee.builtin Builtin.append, args := #[s, x], argTypes := #[69, 69] })
    (base : Nat) (v u : Value) (y : Nat) (l : List Nat) (hsv : a.eval s = v) (hx : a.eval x = u) (hown : w.ownsRow base 3 1 v 1 (dvals [y])) (hu : DigAt w u l) (hl : l.length ≤ 100000) (hb : base ≤ w.heap.size)
    (h : ∀ v' w', w'.ownsRow base 3 1 v' (y :: l).length (dvals (y :: l)) → w.grownBy w' v.ownBlock → wpList Tryz.prog ops Q rest (a.put o.dst v') w') :
    wpList Tryz.prog ops Q (o :: rest) a w := by
  obtain ⟨i0, hi, hz0, hz1, hz2⟩ := info_parts int_info
  obtain ⟨ao, cap, rfl, hc, hr⟩ := hu
  have hsame : Below w.heap.size w w := Below.refl _ _
  rcases ao with _ | ad
  · have hnil : l = [] := by
      rcases hr with h1 | ⟨g, h1, _⟩
      · exact h1
      · cases h1
    subst hnil
    refine wpList_plain hgd fun K hK => ?_
    have hrun := run_append_no (c := cap) (ty := o.type) (Tryz.underlying69) hi v 1 (dvals [y]) hown
    unfold Oper.wp
    have hx' : a.eval x = .slice none 0 cap := hx
    simp [execOp, ho, resolve, invoke, builtin, hsv, hx', hrun, Result.andThen]
    exact hK _ _ (h v w hown (World.grownBy.refl w _))
  · refine wpList_append_own (P := Tryz.prog) w hgd s x 69 ho base 3 i0 _ 1 8 Tryz.underlying69 hi hz0 hz1 hz2 rfl (by omega) v 1 (dvals [y]) hsv hown ad l.length cap (dvals l) hx (by simp [dvals]) ?_
      (dvals_one l) (by unfold maxLen; omega) (by omega) hb (fun v' w' h1 h2 _ => h v' w' ?_ h2)
    · intro j u hj
      rcases hr with h1 | ⟨g, h1, h2⟩
      · subst h1; simp [dvals] at hj
      · injection h1 with h1
        subst h1
        rw [dvals, List.getElem?_map] at hj
        cases hd : l[j]? with
        | none => rw [hd] at hj; cases hj
        | some d =>
          rw [hd] at hj
          injection hj with hj
          subst hj
          have := h2 j d hd
          have hadd : (⟨g, 0, none⟩ : Addr).add j = ⟨g, j, none⟩ := by unfold Addr.add; split <;> simp_all
          rw [hadd]
          exact this
    · rw [List.length_cons, Nat.add_comm]
      exact h1
set_option maxHeartbeats 4000000 in

theorem quo_any (a b : Nat) (ha : a < 256 ^ 39) (hb : b < 256 ^ 39) (hb0 : 0 < b) : QuoOk a b := by
  intro w
  have a100 : a < 256 ^ 100 := Nat.lt_trans ha (by decide)
  have b100 : b < 256 ^ 100 := Nat.lt_trans hb (by decide)
  by_cases hs : a < 256 ^ 7 ∧ b < 256 ^ 7
  · exact quo_small a b hs.1 hs.2 (by omega) w
  obtain ⟨X, P, C1, hP⟩ := small_all a 7 a100 (by omega)
  obtain ⟨Y, Q, C2, hQ⟩ := small_all b 7 b100 (by omega)
  have key : P = false ∨ (P = true ∧ Q = false) := by
    rcases P with _ | _
    · exact .inl rfl
    · rcases Q with _ | _
      · exact .inr ⟨rfl, rfl⟩
      · exact absurd ⟨(hP rfl).2, (hQ rfl).2⟩ hs
  have sb100 := str_size b 100 b100
  have C0 := Lib.hid (canon_num _ b w (by unfold maxLen; omega) (val_str b))
  have C1 := Lib.hid (C1 w)
  have C2 := Lib.hid (C2 w)
  have OA := Lib.hid (of_dg a a100)
  have OB := Lib.hid (of_dg b b100)
  have LA := Lib.hid (dg_len (k := 13) ha)
  have LB := Lib.hid (dg_len (k := 13) hb)
  have nb : (bstr (Nb.enc b)).size ≠ 0 := by
    rw [bstr_size]
    intro e
    have : Nb.enc b = [] := List.eq_nil_of_length_eq_zero e
    have h1 := Nb.val_enc b
    rw [this] at h1
    have h2 : Nb.val [] = 0 := rfl
    omega
  generalize bstr (Nb.enc a) = sa at *
  generalize bstr (Nb.enc b) = sb at *
  obtain ⟨qa, eqa⟩ : ∃ x, bstr (Nb.enc (a / b)) = x := ⟨_, rfl⟩
  obtain ⟨ra, era⟩ : ∃ x, bstr (Nb.enc (a % b)) = x := ⟨_, rfl⟩
  have EQ := Lib.hid eqa
  have ER := Lib.hid era
  rw [eqa, era]
  have e0 : (sb.size == 0) = false := beq_eq_false_iff_ne.2 nb
  have e1 : ((sb.size : Int) == 0) = false := beq_eq_false_iff_ne.2 (by omega)
  clear ha hb a100 b100 hP hQ hs nb eqa era sb100
  rcases key with rfl | ⟨rfl, rfl⟩
  all_goals
    go_enter Tryz.func102, Tryz.ntmps102
    go_wp2_with fail
    refine C0.out.mono ?_
    rintro e w' ⟨rfl, rfl⟩
    clear C0
    go_wp2_with fail
    refine C1.out.mono ?_
    rintro e w' ⟨rfl, rfl⟩
    clear C1
    go_wp2_with fail
    refine C2.out.mono ?_
    rintro e w' ⟨rfl, rfl⟩
    clear C2
    go_wp2_with fail
    refine (OA.out _).mono ?_
    rintro e w1 ⟨v1, rfl, q1, b1⟩
    have Q1 := Lib.hid q1
    have B1 := Lib.hid b1
    clear OA q1 b1
    go_wp2_with fail
    refine (OB.out _).mono ?_
    rintro e w2 ⟨v2, rfl, q2, b2⟩
    have BW := Lib.hid (below_join B1.out b2)
    have q1 := Q1.out.below b2
    clear OB B1 b2 Q1
    obtain ⟨n, hn⟩ : ∃ n, (Dg.dg a).length = n := ⟨_, rfl⟩
    obtain ⟨ao, cap, rfl, hnc, hc⟩ := q1.slice hn
    have hln : n ≤ 13 := by rw [← hn]; exact LA.out
    have HN := Lib.hid hn
    have HC := Lib.hid hc
    have DV := Lib.hid q2
    have FU := Lib.hid (Dg.fit_dg a)
    obtain ⟨i0, hi, hz0, hz1, hz2⟩ := info_parts int_info
    clear LA q1 q2 hn hc
    go_wp2_with (at_make; refine wpList_make_full _ rfl (.tmp 48) (.tmp 48) 69 rfl w2.heap.size 3 i0 (.int .i64 0) 1 Tryz.underlying69 hi hz0 hz1 .i64 .i64 _ _ n rfl rfl rfl rfl (by rw [hz2]; omega) (by unfold maxLen; omega) (Nat.le_refl _) ?_)
    intro w3 hown hgrow
    have F := Lib.hid (DigFull.made (by rw [Nat.mul_one]; exact hown))
    have B3 : Hid (Below w2.heap.size w2 w3) := (Below.refl _ _).grown hgrow (Nat.le_refl _) (fun j hj => by cases hj)
    have HC3 : Hid (∀ (j d : Nat), (Dg.dg a)[j]? = some d → ∃ g, ao = some ⟨g, 0, none⟩ ∧ g < w2.heap.size ∧ w3.cell? ⟨g, j, none⟩ = some (.int .i64 (d : Int))) := fun j d hd => by
      obtain ⟨g, h1, h2⟩ := HC.out j d hd
      exact ⟨g, h1, block_lt_of_cell h2, (B3.out.cell (block_lt_of_cell h2)).trans h2⟩
    have ST : Hid (Dg.QuoAt a b n n (List.replicate n 0)) := Dg.QuoAt.start ((Dg.dg_length_le a n).1 (by rw [HN.out]; exact Nat.le_refl _))
    have LG := Lib.hid BW.out.size
    have B30 := Lib.hid (Below.refl w2.heap.size w3)
    obtain ⟨G, hG⟩ : ∃ G, w2.heap.size = G := ⟨_, rfl⟩
    have DV2 : Hid (∀ wx, Below G w3 wx → DigAt wx v2 (Dg.dg b)) := fun wx h => DV.out.below (by rw [← hG] at h; exact B3.out.trans h)
    rw [hG] at F HC3 LG B30 ⊢
    have BX := Lib.hid (below_join BW.out B3.out)
    clear hown hgrow hi hz0 hz1 hz2 hG HC BW B3 DV
    go_wp2_with fail
    go_loopw [14, 15] (fun r kv wr => ∃ (k : Nat) (z : Int) (o : List Nat), k ≤ n ∧ z = (k : Int) - 1 ∧ kv = .int .i64 z ∧ Dg.QuoAt a b n k o ∧ DigFull wr G o ∧ DigAt wr r (Dg.dg (a / 16777216 ^ k % b)) ∧ Below G w3 wr) (fun _ kv _ => (intOf kv + 1).toNat)
    case atStart =>
      refine ⟨n, _, _, Nat.le_refl _, rfl, rfl, ST.out, F.out, ?_, B30.out⟩
      rw [Nat.div_eq_of_lt ((Dg.dg_length_le a n).1 (by rw [HN.out]; exact Nat.le_refl _)), Nat.zero_mod, Dg.dg_zero]
      exact ⟨none, 0, rfl, Nat.le_refl _, .inl rfl⟩
    case round =>
      obtain ⟨k, z, o, hk, hz, rfl, hM, hF, hD, hB⟩ := hrel
      have MO := Lib.hid hM
      have HF := Lib.hid hF
      have HD := Lib.hid hD
      have HB := Lib.hid hB
      clear hM hF hD hB
      rcases Nat.eq_zero_or_pos k with h0 | h0
      · subst h0
        have hz' : z = -1 := by simpa using hz
        subst hz'
        clear hz
        have hv : Dg.dval o = a / b := MO.out.whole
        have hr := HD.out
        rw [Nat.pow_zero, Nat.div_one] at hr
        have CN := dnumber_any (HF.out.at MO.out.len) MO.out.fit (by have := MO.out.len; omega)
        rw [hv, EQ.out] at CN
        have hlr : (Dg.dg (a % b)).length ≤ 100 := by
          refine Nat.le_trans ((Dg.dg_length_le _ 13).2 ?_) (by omega)
          exact Nat.lt_trans (Nat.mod_lt _ hb0) ((Dg.dg_length_le b 13).1 LB.out)
        have CR : Hid (∀ W, Below wr.heap.size wr W → Calls Tryz.prog 130 #[u14] W fun e w' => e = .returned (.string ra) ∧ Below W.heap.size W w') := fun W hW => by
          have := dnumber_any (hr.below hW) (Dg.fit_dg _) hlr
          rw [Dg.dval_dg, ER.out] at this
          exact this
        have CN := Lib.hid CN
        have BY := Lib.hid (BX.out.trans (HB.out.mono LG.out))
        clear hv hr hlr
        go_wp2_with fail
        refine CN.out.mono ?_
        rintro e w4 ⟨rfl, b4⟩
        have CR4 := Lib.hid (CR.out w4 b4)
        have BZ := Lib.hid (below_join BY.out b4)
        clear b4 CN CR
        go_wp2_with fail
        refine CR4.out.mono ?_
        rintro e w5 ⟨rfl, b5⟩
        have BZ5 := Lib.hid (below_join BZ.out b5)
        clear b5 CR4
        go_wp2_with fail
        go_ret3
        exact ⟨rfl, BZ5.out⟩
      · obtain ⟨j, rfl⟩ : ∃ j, k = j + 1 := ⟨k - 1, by omega⟩
        obtain rfl : z = (j : Int) := by rw [hz]; omega
        clear hz h0
        obtain ⟨x, hx⟩ : ∃ x, (Dg.dg a)[j]? = some x := ⟨(Dg.dg a)[j]'(by rw [HN.out]; omega), List.getElem?_eq_getElem _⟩
        have hxb := FU.out x (List.mem_of_getElem? hx)
        have ex := Dg.dg_get j a x hx
        obtain ⟨g, rfl, gl, cx⟩ := HC3.out j x hx
        have cx2 : _ = _ := (HB.out.cell (p := ⟨g, j, none⟩) gl).trans cx
        obtain ⟨q1, q2, q3⟩ := Dg.quo_parts hb0 ex
        obtain ⟨R, eR⟩ : ∃ R, a / 16777216 ^ (j + 1) % b = R := ⟨_, rfl⟩
        have hRb : R < b := by rw [← eR]; exact Nat.mod_lt _ hb0
        have hlr : (Dg.dg R).length ≤ 13 := (Dg.dg_length_le _ 13).2 (Nat.lt_trans hRb ((Dg.dg_length_le b 13).1 LB.out))
        have r1 : (0 : Int) ≤ (j : Int) := by omega
        have r2 : (j : Int) < (n : Int) := by omega
        have r3 : (j : Int).toNat = j := by omega
        have EX := Lib.hid ex
        have Q3 := Lib.hid q3
        have Q2 := Lib.hid q2
        rw [eR] at HD Q2 Q3
        have HLR := Lib.hid hlr
        have ER2 := Lib.hid eR
        clear hx ex gl cx q1 q2 q3 eR hlr hRb
        have OW := Lib.hid (World.ownsRow_lit (base := wr.heap.size) (e := 3) (size := 1) wr #[.int .i64 (x : Int)] 1 (Nat.le_refl _) (by unfold maxLen; omega) rfl)
        have bal : Below wr.heap.size wr (wr.alloc (.cells #[.int .i64 (x : Int)] 3)) := (Below.refl _ _).alloc (Nat.le_refl _) _
        have DA := Lib.hid (HD.out.below bal)
        have BAL := Lib.hid bal
        clear bal
        go_wp2_with (at_builtin; (refine wpList_append_digs rfl (.tmp 61) (.tmp 62) rfl wr.heap.size _ u14 x (Dg.dg R) rfl rfl OW.out DA.out (by have := HLR.out; omega) BAL.out.size ?_); intro v4 w4 h4 g4; have H4 := Lib.hid h4; have B4 := Lib.hid (BAL.out.grown g4 BAL.out.size (fun b e => (owns_lt_d OW.out b e).1)); clear h4 g4)
        rcases H4.out.2 with ⟨_, h0⟩ | ⟨g4, cap4, cur, rfl, hg4, _, h3, _⟩
        · simp at h0
        have G4 : Hid (g4 ≠ G) := by
          have := HF.out.lt
          show g4 ≠ G
          omega
        have cells : ∀ (i d : Nat), (x :: Dg.dg R)[i]? = some d → w4.cell? ⟨g4, i, none⟩ = some (.int .i64 (d : Int)) := fun i d hd => by
          have hk := (List.getElem?_eq_some_iff.1 hd).1
          rw [H4.out.cellAt i (by omega), dvals, List.getElem?_map, hd]
          rfl
        have CT := trim_at (w := w4) (ao := some ⟨g4, 0, none⟩) (cap := cap4) (l := x :: Dg.dg R) rfl h3 (fun i d hd => ⟨g4, rfl, cells i d hd⟩) (by rw [List.length_cons]; have := HLR.out; omega)
        rw [Dg.trim_cons hxb] at CT
        have CT := Lib.hid CT
        obtain ⟨N, eN⟩ : ∃ N, x + 16777216 * R = N := ⟨_, rfl⟩
        have hNl : (Dg.dg N).length ≤ cap4 := by
          rw [← eN, ← Dg.trim_cons hxb]
          refine Nat.le_trans ?_ h3
          refine Nat.le_of_not_lt fun hlt => ?_
          have h7 := trimL_sub (x :: Dg.dg R) (x :: Dg.dg R).length _ (List.getElem?_eq_getElem hlt)
          rw [List.getElem?_eq_none (Nat.le_refl _)] at h7
          cases h7
        rw [eN] at CT Q2 Q3
        have D4 : Hid (DigAt w4 (.slice (some ⟨g4, 0, none⟩) (Dg.dg N).length cap4) (Dg.dg N)) := by
          refine ⟨_, _, rfl, hNl, .inr ⟨g4, rfl, fun i d hd => cells i d (trimL_sub _ _ _ ?_)⟩⟩
          rw [Dg.trim_cons hxb, eN]
          exact hd
        have N13 : Hid ((Dg.dg N).length ≤ 14) := by
          refine (Dg.dg_length_le N 14).2 ?_
          have h8 := (Nat.div_lt_iff_lt_mul hb0).1 Q3.out
          refine Nat.lt_of_lt_of_le h8 ?_
          have h9 := (Dg.dg_length_le b 13).1 LB.out
          have h10 := Nat.mul_le_mul_left 16777216 (Nat.le_of_lt h9)
          exact h10
        have BW4 := Lib.hid (HB.out.trans (B4.out.mono (Nat.le_of_lt HF.out.lt)))
        have F4 := Lib.hid (HF.out.below B4.out)
        obtain ⟨M, eM⟩ : ∃ M, (Dg.dg N).length = M := ⟨_, rfl⟩
        rw [eM] at CT D4
        have EN := Lib.hid eN
        clear eM eN
        have STEP : Hid (Dg.QuoAt a b n j (o.set j (N / b))) := by
          have h11 := MO.out.step hb0 EX.out
          rw [ER2.out, EN.out] at h11
          exact h11
        have SKIP : Hid (N < b → Dg.QuoAt a b n j o) := fun h => MO.out.skip hb0 EX.out (by rw [ER2.out, EN.out]; exact h)
        clear H4 cells hNl h3 hg4 OW DA BAL B4 HLR
        refine CT.out.mono ?_
        rintro e w5 ⟨rfl, rfl⟩
        clear CT
        have CC := Lib.hid (cmp_any D4.out (DV2.out _ BW4.out) (by have := N13.out; omega) (by have := LB.out; omega))
        go_wp2_with fail
        refine CC.out.mono ?_
        rintro e w6 ⟨⟨c, rfl, _, hc⟩, b6⟩
        have HCC := Lib.hid hc
        have D6 := Lib.hid (D4.out.below b6)
        have F6 := Lib.hid (F4.out.below b6)
        have BW6 := Lib.hid (BW4.out.trans (b6.mono (Nat.le_of_lt F4.out.lt)))
        clear hc b6 CC D4 F4 BW4
        by_cases hcz : 0 ≤ c
        · have d1 : decide ((0 : Int) ≤ c) = true := decide_eq_true hcz
          clear hcz
          have CD := digit_any D6.out (DV2.out _ BW6.out) (by have := N13.out; omega) (by have := LB.out; omega) hb0 Q3.out
          have SUB : Hid (N - b * (N / b) = a / 16777216 ^ j % b) := by
            show _ = _
            rw [Q2.out, Nat.mod_def]
          have LE : Hid (b * (N / b) ≤ N) := Nat.mul_div_le N b
          obtain ⟨q, eq⟩ : ∃ q, N / b = q := ⟨_, rfl⟩
          rw [eq] at CD STEP SUB LE Q3
          have CD := Lib.hid CD
          clear eq
          have q16 : (q : Int) ≤ 16777215 := by have := Q3.out; omega
          go_wp2_with fail
          refine CD.out.mono ?_
          rintro e w7 ⟨rfl, b7⟩
          have cz : w7.cell? ⟨G, j, none⟩ = some (.int .i64 0) := (F6.out.below b7).cell (MO.out.zero j (Nat.lt_succ_self j))
          have fz := (F6.out.below b7).frozen j
          have SF := Lib.hid ((F6.out.below b7).set j q)
          have SB := Lib.hid ((BW6.out.trans (b7.mono (Nat.le_of_lt F6.out.lt))).setCell (p := ⟨G, j, none⟩) (Nat.le_refl _) (.int .i64 (q : Int)))
          have cq : (w7.setCell ⟨G, j, none⟩ (.int .i64 (q : Int))).cell? ⟨G, j, none⟩ = some (.int .i64 (q : Int)) := SF.out.cell (by rw [List.getElem?_set_self]; rw [MO.out.len]; omega)
          have D8 := Lib.hid ((D6.out.below b7).set_far G4.out j (.int .i64 (q : Int)))
          have CTM := Lib.hid (times_any (DV2.out _ SB.out) Q3.out (by have := LB.out; omega))
          clear b7 CD F6 BW6 D6
          go_wp2_with fail
          refine CTM.out.mono ?_
          rintro e w8 ⟨v8, rfl, q8, b8⟩
          have D9 := Lib.hid (D8.out.below b8)
          have CM := Lib.hid (minus_any D9.out q8 LE.out (by have := N13.out; omega))
          have F8 := Lib.hid (SF.out.below b8)
          have B8 := Lib.hid (SB.out.trans (b8.mono (Nat.le_of_lt SF.out.lt)))
          clear q8 b8 CTM SF SB cq cz fz D8
          go_wp2_with fail
          refine CM.out.mono ?_
          rintro e w9 ⟨v9, rfl, q9, b9⟩
          rw [SUB.out] at q9
          have D10 := Lib.hid q9
          have F9 := Lib.hid (F8.out.below b9)
          have B9 := Lib.hid (B8.out.trans (b9.mono (Nat.le_of_lt F8.out.lt)))
          clear q9 b9 CM F8 B8 D9
          go_wp2_with fail
          refine ⟨⟨j, _, _, by omega, rfl, rfl, STEP.out, F9.out, D10.out, B9.out⟩, ?_⟩
          show ((j : Int) - 1 + 1).toNat < ((j : Int) + 1).toNat
          omega
        · have d1 : decide ((0 : Int) ≤ c) = false := decide_eq_false hcz
          have hlt : N < b := by
            refine Nat.lt_of_not_le fun h => hcz (HCC.out.2 h)
          have SK := Lib.hid (SKIP.out hlt)
          have Q4 : Hid (a / 16777216 ^ j % b = N) := Q2.out.trans (Nat.mod_eq_of_lt hlt)
          clear hcz hlt
          go_wp2_with fail
          refine ⟨⟨j, _, o, by omega, rfl, rfl, SK.out, F6.out, by rw [Q4.out]; exact D6.out, BW6.out⟩, ?_⟩
          show ((j : Int) - 1 + 1).toNat < ((j : Int) + 1).toNat
          omega
end Go.Proofs.YtpblfpnldbdncaaGreatDoor
