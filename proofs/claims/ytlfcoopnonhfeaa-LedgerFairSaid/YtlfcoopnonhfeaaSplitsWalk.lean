/- The walk of the law LedgerSplits. -/
import Derived.Test.YtlfcoopnonhfeaaLedSan
import Derived.Test.YtlfcoopnonhfeaaRSplit
import Derived.Test.YtlfcoopnonhfeaaArgInts
import Derived.WalkLawsBesides
import Derived.Laws.AppendOwnNone
namespace Go.Proofs.Ytlfcoopnonhfeaa
open Go.RowKit Go.Sort Go.WideShapes Go.ChangeShapes
set_option linter.unusedVariables false
/-- a Split's answer, with its parts and its verdict by name -/
def Answer (ps : List Int) (b : Bool) (w : World) (e : Ending) (w' : World) : Prop := ∃ v, e = .returned (.tuple #[v, .bool b]) ∧ IntsAt w' v ps ∧ Below w.heap.size w w'
theorem SplitR.answer {a : Int} {ws ps : List Int} {b : Bool} {w w' : World} {e : Ending} (h : SplitR a ws w e w') (hs : Led.split a ws = if b then some ps else none) (hb : b = false → ps = []) : Answer ps b w e w' := by
  unfold SplitR at h
  rw [hs] at h
  cases b with
  | true => exact h
  | false => exact ⟨_, h.1, ⟨none, 0, by rw [hb rfl]; rfl, .inl (hb rfl)⟩, h.2⟩
theorem answer_exists (a : Int) (ws : List Int) : ∃ (ps : List Int) (b : Bool), Led.split a ws = (if b then some ps else none) ∧ ((b = false → ps = []) ∧ ps.length ≤ ws.length) := by
  cases h : Led.split a ws with
  | none => exact ⟨[], false, rfl, (fun _ => rfl), Nat.zero_le _⟩
  | some ps =>
    refine ⟨ps, true, rfl, (fun h => by cases h), ?_⟩
    unfold Led.split at h
    split at h
    · injection h with h; rw [← h, Led.parts_length]; exact Nat.le_refl _
    · cases h
def amended (more : Int) (z : Int) : Int := z % 1000001 * (more % 2)
theorem IntsAt.nil (w : World) (ao : Option Addr) (cap : Nat) : IntsAt w (.slice ao 0 cap) [] := ⟨ao, cap, rfl, .inl rfl⟩
theorem owns_at {w : World} {base : Nat} {v : Value} {xs : List Int} (h : w.ownsRow base 3 1 v xs.length (xs.map (Value.int .i64))) : IntsAt w v xs := IntsAt.of_owns h
theorem owns_set {w : World} {base g m cap : Nat} {xs : List Int} (h : w.ownsRow base 3 1 (.slice (some ⟨g, 0, none⟩) m cap) m (xs.map (Value.int .i64))) (i : Nat) (y : Int) :
    (w.setCell ⟨g, i, none⟩ (.int .i64 y)).ownsRow base 3 1 (.slice (some ⟨g, 0, none⟩) m cap) m ((xs.set i y).map (Value.int .i64)) := by
  rcases h.2 with ⟨h1, _⟩ | ⟨g', cap', cur, h1, h2, h3, h4, h5, h6, h7⟩
  · cases h1
  · injection h1 with h1 _ hc
    injection h1 with h1
    injection h1 with h1
    subst h1 hc
    refine ⟨by simpa using h.1, .inr ⟨g, cap, _, rfl, h2, heap_setCell_same _ _ _ _ _ _ h3, h4, h5, by simpa using h6, ?_⟩⟩
    rw [Array.toList_setIfInBounds, List.take_set, h7, List.map_set]
theorem owns_cell {w : World} {base g m cap : Nat} {xs : List Int} (h : w.ownsRow base 3 1 (.slice (some ⟨g, 0, none⟩) m cap) m (xs.map (Value.int .i64))) (i : Nat) (hi : i < m) :
    w.cell? ⟨g, i, none⟩ = some (.int .i64 (xs.getD i 0)) ∧ w.frozen? ⟨g, i, none⟩ = false ∧ base ≤ g := by
  have hl : xs.length = m := by have := h.1; simpa using this
  rcases h.2 with ⟨h1, _⟩ | ⟨g', cap', cur, h1, h2, h3, h4, h5, h6, h7⟩
  · cases h1
  · injection h1 with h1 _ hc
    injection h1 with h1
    injection h1 with h1
    subst h1 hc
    refine ⟨?_, frozen_of_row _ _ _ _ _ h3, h2⟩
    rw [cell_of_row _ _ _ _ _ _ h3]
    have : (cur.toList.take (m * 1))[i]? = (xs.map (Value.int .i64))[i]? := by rw [h7]
    rw [List.getElem?_take, if_pos (by omega), Array.getElem?_toList] at this
    rw [this]
    simp [hl, hi]
theorem owns_some {w : World} {base m cap : Nat} {ao : Option Addr} {xs : List Value} (h : w.ownsRow base 3 1 (.slice ao m cap) m xs) (h0 : 0 < m) : ∃ g, ao = some ⟨g, 0, none⟩ := by
  rcases h.2 with ⟨_, h1⟩ | ⟨g', cap', cur, h1, _⟩
  · omega
  · injection h1 with h1
    exact ⟨g', h1⟩
theorem amend_step {ws : List Int} {more : Int} {j : Nat} (hj : j < ws.length) :
    ((ws.map (amended more)).take j ++ ws.drop j).getD j 0 = ws.getD j 0 ∧ ((ws.map (amended more)).take j ++ ws.drop j).set j (amended more (ws.getD j 0)) = (ws.map (amended more)).take (j + 1) ++ ws.drop (j + 1) := by
  have hl : ((ws.map (amended more)).take j).length = j := by rw [List.length_take, List.length_map]; omega
  constructor
  · rw [List.getD_eq_getElem?_getD, List.getElem?_append_right (by omega), hl]
    simp [hj]
  · apply List.ext_getElem?
    intro i
    rw [List.getElem?_set]
    by_cases e : j = i
    · subst e
      have h1 : j < ((ws.map (amended more)).take j ++ ws.drop j).length := by rw [List.length_append, hl, List.length_drop]; omega
      rw [if_pos rfl, if_pos h1, List.getElem?_append_left (by rw [List.length_take, List.length_map]; omega)]
      simp [hj]
    · rw [if_neg e]
      by_cases h2 : i < j
      · rw [List.getElem?_append_left (by omega), List.getElem?_append_left (by rw [List.length_take, List.length_map]; omega), List.getElem?_take, List.getElem?_take, if_pos h2, if_pos (by omega)]
      · rw [List.getElem?_append_right (by omega), List.getElem?_append_right (by rw [List.length_take, List.length_map]; omega), hl, List.getElem?_drop, List.getElem?_drop, List.length_take, List.length_map]
        congr 1
        omega
theorem owns_below {w w' : World} {base : Nat} {v : Value} {n : Nat} {xs : List Value} (h : w.ownsRow base 3 1 v n xs) (hb : Below w.heap.size w w') : w'.ownsRow base 3 1 v n xs :=
  owns_kept h (row := none) ⟨hb.os, hb.tape, hb.output, hb.size, fun k hk _ => hb.block k hk⟩ (fun b hb e => by cases e)
theorem split_ans {a : Int} {ws ps : List Int} {b : Bool} {w : World} {v : Value} (hv : IntsAt w v ws) (hn : ws.length ≤ 19) (hs : Led.split a ws = if b then some ps else none) (hb : b = false → ps = []) : Calls Try.prog 8 #[.int .i64 a, v] w (Answer ps b w) :=
  (split_any a ws w v hv hn).mono fun _ _ h => h.weak.answer hs hb
theorem rsplit_ans {a : Int} {ws ps : List Int} {b : Bool} {w : World} {v : Value} (hv : IntsAt w v ws) (hn : ws.length ≤ 19) (hs : Led.split a ws = if b then some ps else none) (hb : b = false → ps = []) : Calls Try.prog 9 #[.int .i64 a, v] w (Answer ps b w) :=
  (rsplit_any a ws w v hv hn).mono fun _ _ h => h.answer hs hb
theorem ints_same (ps : List Int) (w : World) (v1 v2 : Value) (h1 : IntsAt w v1 ps) (h2 : IntsAt w v2 ps) (hl : ps.length ≤ maxLen) :
    Calls Try.prog 10 #[v1, v2] w fun e w' => e = .returned (.bool true) ∧ Below w.heap.size w w' := by
  refine (ints_any ps ps w v1 v2 h1 h2 hl).mono ?_
  rintro e w' ⟨rfl, hb⟩
  exact ⟨by simp, hb⟩
set_option maxHeartbeats 4000000 in
set_option maxRecDepth 100000 in
theorem walk_LedgerSplits (amt : Int) (ao : Option Addr) (n c : Nat) (zs : List Int) (more : Int) (W : World) (w0 : (Lit.int .i64 amt).wf = true) (hA : ArgInts .i64 W ao n c zs) (w2 : (Lit.int .i64 more).wf = true) :
    Calls Try.prog 3 #[.int .i64 amt, .slice ao n c, .int .i64 more] W fun e w' => e = .returned (.bool true) ∧ Below W.heap.size W w' := by
  obtain ⟨hnc, hc, hzl, hzw, hnil, hcell⟩ := hA
  obtain ⟨m, hm⟩ : ∃ m, min n 12 = m := ⟨_, rfl⟩
  have hm12 : m ≤ 12 := by omega
  have hmn : m ≤ n := by omega
  have mc : m ≤ c := by omega
  have HZL := Lib.hid hzl
  have HCELL := Lib.hid hcell
  have hmi : min (n : Int) 12 = (m : Int) := by omega
  have HNIL := Lib.hid hnil
  have HM := Lib.hid hm
  have zl : Hid ((zs.take m).length = m) := by show _ = _; rw [List.length_take]; omega
  obtain ⟨ws, hws⟩ : ∃ ws, zs.take m = ws := ⟨_, rfl⟩
  rw [hws] at zl
  have HWS := Lib.hid hws
  clear hzl hzw hcell hnil hm hws w0 w2
  go_enter Try.func3, Try.ntmps3
  go_wp2_with fail
  refine (sanity_any W).mono ?_
  rintro e w1 ⟨rfl, hb⟩
  have B1 := Lib.hid hb
  clear hb
  obtain ⟨i0, hi, hz0, hz1, hz2⟩ := info_parts int_info
  go_upto_region 2 with fail
  go_cut [8] (fun v8 wx => wx.ownsRow W.heap.size 3 1 v8 ws.length (ws.map (Value.int .i64)) ∧ Below W.heap.size W wx)
  case first =>
    have NW := Lib.hid (heap_alloc_new w1 (.cells #[] 3))
    have BA : Hid (Below W.heap.size W (w1.alloc (.cells #[] 3))) := B1.out.alloc B1.out.size _
    have OA : Hid ((w1.alloc (.cells #[] 3)).ownsRow W.heap.size 3 1 (.slice (some ⟨w1.heap.size, 0, none⟩) 0 0) 0 []) := ⟨rfl, .inr ⟨_, 0, #[], rfl, B1.out.size, NW.out, Nat.le_refl _, by unfold maxLen; omega, rfl, rfl⟩⟩
    cases ao with
    | none =>
      obtain ⟨rfl, rfl⟩ := HNIL.out rfl
      obtain rfl : m = 0 := by omega
      go_wp2_with (at_builtin; refine wpList_append_own_none rfl (.tmp 20) (.tmp 25) 22 rfl W.heap.size 3 i0 1 Try.underlying22 hi (.slice (some ⟨w1.heap.size, 0, none⟩) 0 0) 0 [] rfl OA.out rfl ?_)
      go_meet
      obtain rfl : ws = [] := List.eq_nil_of_length_eq_zero zl.out
      exact ⟨OA.out, BA.out⟩
    | some ad =>
      have cells : ∀ (j : Nat) (u : Value), (ws.map (Value.int .i64))[j]? = some u → (w1.alloc (.cells #[] 3)).cell? (ad.add j) = some u := by
        intro j u hu
        rw [List.getElem?_map] at hu
        obtain ⟨z, hz, rfl⟩ := Option.map_eq_some_iff.1 hu
        have hj : j < ws.length := (List.getElem?_eq_some_iff.1 hz).1
        rw [zl.out] at hj
        obtain ⟨b, off, he, hcl⟩ := HCELL.out (by omega)
        injection he with he
        subst he
        have h1 := hcl j (by omega)
        rw [add_plain, BA.out.cell (p := ⟨b, off + j, none⟩) (block_lt_of_cell h1), h1]
        congr 2
        rw [← HWS.out, List.getElem?_take, if_pos hj] at hz
        rw [List.getD_eq_getElem?_getD, hz]
        rfl
      have CELLS := Lib.hid cells
      have LW : Hid ((ws.map (Value.int .i64)).length = m * 1) := by show _ = _; rw [List.length_map, zl.out, Nat.mul_one]
      clear cells
      go_wp2_with (at_builtin; go_loud (refine wpList_append_own (P := Try.prog) (w1.alloc (.cells #[] 3)) rfl (.tmp 20) (.tmp 25) 22 rfl W.heap.size 3 i0 _ 1 8 Try.underlying22 hi hz0 hz1 hz2 rfl (by omega) (.slice (some ⟨w1.heap.size, 0, none⟩) 0 0) 0 [] rfl OA.out ad m c (ws.map (Value.int .i64)) rfl LW.out CELLS.out (by intro u hu; obtain ⟨z, _, rfl⟩ := List.mem_map.1 hu; rfl) (by unfold maxLen; omega) (by omega) BA.out.size ?_); intro v2 w2 hown2 hg2 hn2)
      go_meet
      refine ⟨?_, BA.out.grown hg2 BA.out.size (fun b e => (owns_lt OA.out b e).1)⟩
      rw [zl.out]
      rw [Nat.zero_add] at hown2
      exact hown2
  case rest =>
    obtain ⟨hO, hB⟩ := hcut
    have HO := Lib.hid hO
    have HB := Lib.hid hB
    obtain ⟨ps, b, hs, hbn, hpl⟩ := answer_exists amt ws
    obtain ⟨qs, b2, hs2, hbn2, hql⟩ := answer_exists (amt % 1000000001) (ws.map (amended more))
    have S1 := Lib.hid hs
    have S2 := Lib.hid hbn
    have T1 := Lib.hid hs2
    have T2 := Lib.hid hbn2
    have L1 : Hid (ps.length ≤ maxLen) := by show _ ≤ _; rw [zl.out] at hpl; unfold maxLen; omega
    have L2 : Hid (qs.length ≤ maxLen) := by show _ ≤ _; rw [List.length_map, zl.out] at hql; unfold maxLen; omega
    have W19 : Hid (ws.length ≤ 19) := by show _ ≤ _; rw [zl.out]; omega
    obtain ⟨ao8, cap8, hu8⟩ := (owns_at hO).slice
    rw [zl.out] at hu8
    subst hu8
    clear hO hB hs hbn hpl hs2 hbn2 hql hi hz0 hz1 hz2 hmi
    go_wp2_with fail
    refine (split_ans (owns_at HO.out) W19.out S1.out S2.out).mono ?_
    rintro e w3 ⟨v3, rfl, h3, hb3⟩
    have I3 := Lib.hid h3
    have O3 := Lib.hid (owns_below HO.out hb3)
    have B3 : Hid (Below W.heap.size W w3) := HB.out.trans (hb3.mono HB.out.size)
    clear h3 hb3 HO HB
    go_wp2_with fail
    refine (rsplit_ans (owns_at O3.out) W19.out S1.out S2.out).mono ?_
    rintro e w4 ⟨v4, rfl, h4, hb4⟩
    have I4 := Lib.hid h4
    have I3' := Lib.hid (I3.out.below hb4)
    have O4 := Lib.hid (owns_below O3.out hb4)
    have B4 : Hid (Below W.heap.size W w4) := B3.out.trans (hb4.mono B3.out.size)
    clear h4 hb4 I3 O3 B3
    have hbb : (b != b) = false := by cases b <;> rfl
    go_wp2_with fail
    refine (ints_same ps w4 v3 v4 I3'.out I4.out L1.out).mono ?_
    rintro e w5 ⟨rfl, hb5⟩
    have O5 := Lib.hid (owns_below O4.out hb5)
    have B5 : Hid (Below W.heap.size W w5) := B4.out.trans (hb5.mono B4.out.size)
    clear hb5 I3' I4 O4 B4 hbb
    go_wp2_with fail
    go_loopw [13] (fun i wr => ∃ j : Nat, j ≤ m ∧ i = .int .i64 j ∧ wr.ownsRow W.heap.size 3 1 (.slice ao8 m cap8) m (((ws.map (amended more)).take j ++ ws.drop j).map (Value.int .i64)) ∧ Below W.heap.size W wr) (fun i _ => m - (intOf i).toNat)
    case atStart =>
      refine ⟨0, Nat.zero_le _, rfl, ?_, B5.out⟩
      rw [List.take_zero, List.nil_append, List.drop_zero]
      have := O5.out
      rw [zl.out] at this
      exact this
    case round =>
      obtain ⟨j, hj, rfl, hO, hB⟩ := hrel
      have HO := Lib.hid hO
      have HB := Lib.hid hB
      clear hO hB O5 B5
      by_cases hlt : j < m
      · obtain ⟨g, rfl⟩ := owns_some HO.out (by omega)
        obtain ⟨cj, fj, hg⟩ := owns_cell HO.out j hlt
        obtain ⟨e1, e2⟩ := amend_step (ws := ws) (more := more) (j := j) (by rw [zl.out]; exact hlt)
        rw [e1] at cj
        have E2 := Lib.hid e2
        have G := Lib.hid hg
        clear e1 e2 hg
        have r0 := Int.emod_nonneg (ws.getD j 0) (show (1000001 : Int) ≠ 0 by omega)
        have r1 := Int.emod_lt_of_pos (ws.getD j 0) (show (0 : Int) < 1000001 by omega)
        have t0 := Int.emod_nonneg more (show (2 : Int) ≠ 0 by omega)
        have t1 := Int.emod_lt_of_pos more (show (0 : Int) < 2 by omega)
        have m0 : 0 ≤ ws.getD j 0 % 1000001 * (more % 2) := Int.mul_nonneg r0 t0
        have m1 : ws.getD j 0 % 1000001 * (more % 2) ≤ 1000001 := by
          have h1 := Int.mul_le_mul (show ws.getD j 0 % 1000001 ≤ 1000001 by omega) (show more % 2 ≤ 1 by omega) t0 (by omega)
          omega
        have EA : Hid (amended more (ws.getD j 0) = ws.getD j 0 % 1000001 * (more % 2)) := rfl
        generalize ws.getD j 0 = z at *
        go_wp2_with fail
        refine (mod_any z 1000001 _ (by omega) (by omega)).mono ?_
        rintro e w' ⟨rfl, rfl⟩
        go_wp2_with fail
        refine (mod_any more 2 _ (by omega) (by omega)).mono ?_
        rintro e w' ⟨rfl, rfl⟩
        go_wp2_with fail
        go_roundw
        case rel =>
          refine ⟨j + 1, by omega, by go_num, ?_, HB.out.setCell G.out _⟩
          rw [← E2.out, EA.out]
          exact owns_set HO.out j _
        case measure => simp [intOf]; omega
      · obtain rfl : j = m := by omega
        have e1 : (ws.map (amended more)).take j ++ ws.drop j = ws.map (amended more) := by
          rw [List.take_of_length_le (by rw [List.length_map, zl.out]; exact Nat.le_refl _), List.drop_of_length_le (by rw [zl.out]; exact Nat.le_refl _), List.append_nil]
        have h6 := HO.out
        rw [e1] at h6
        have zl2 : (ws.map (amended more)).length = j := by rw [List.length_map, zl.out]
        have W192 : Hid ((ws.map (amended more)).length ≤ 19) := by show _ ≤ _; rw [zl2]; omega
        rw [← zl2] at h6
        have HO6 : Hid (wr.ownsRow W.heap.size 3 1 (.slice ao8 (ws.map (amended more)).length cap8) (ws.map (amended more)).length ((ws.map (amended more)).map (Value.int .i64))) := h6
        rw [zl2] at HO6
        have ZL2 := Lib.hid zl2
        clear h6 e1 HO zl2
        go_wp2_with fail
        refine (mod_any amt 1000000001 _ (by omega) (by omega)).mono ?_
        rintro e w' ⟨rfl, rfl⟩
        go_wp2_with fail
        have at6 : ∀ w2, w2.ownsRow W.heap.size 3 1 (.slice ao8 j cap8) j ((ws.map (amended more)).map (Value.int .i64)) → IntsAt w2 (.slice ao8 j cap8) (ws.map (amended more)) := fun w2 h => owns_at (by rw [ZL2.out]; exact h)
        have AT := Lib.hid at6
        clear at6
        refine (split_ans (AT.out _ HO6.out) W192.out T1.out T2.out).mono ?_
        rintro e w3 ⟨v3, rfl, h3, hb3⟩
        have I3 := Lib.hid h3
        have O3 := Lib.hid (owns_below HO6.out hb3)
        have B3 : Hid (Below W.heap.size W w3) := HB.out.trans (hb3.mono HB.out.size)
        clear h3 hb3 HO6 HB
        go_wp2_with fail
        refine (rsplit_ans (AT.out _ O3.out) W192.out T1.out T2.out).mono ?_
        rintro e w4 ⟨v4, rfl, h4, hb4⟩
        have I4 := Lib.hid h4
        have I3' := Lib.hid (I3.out.below hb4)
        have B4 : Hid (Below W.heap.size W w4) := B3.out.trans (hb4.mono B3.out.size)
        clear h4 hb4 I3 O3 B3
        have hbb : (b2 == b2) = true := by cases b2 <;> rfl
        go_wp2_with fail
        refine (ints_same qs w4 v3 v4 I3'.out I4.out L2.out).mono ?_
        rintro e w5 ⟨rfl, hb5⟩
        have B5 : Hid (Below W.heap.size W w5) := B4.out.trans (hb5.mono B4.out.size)
        clear hb5
        go_wp2_with fail
        go_ret
        exact ⟨rfl, B5.out⟩
end Go.Proofs.Ytlfcoopnonhfeaa
