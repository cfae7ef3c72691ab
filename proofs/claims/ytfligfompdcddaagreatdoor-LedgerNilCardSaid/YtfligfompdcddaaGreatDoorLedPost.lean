/- The contract of Post. -/
import Derived.Test.YtfligfompdcddaaGreatDoorLedMid
import Derived.Deep.AppendLies
namespace Go.Proofs.YtfligfompdcddaaGreatDoor
open Go.RowKit Go.Sort Go.Maps
set_option linter.unusedVariables false
set_option maxHeartbeats 4000000 in
set_option maxRecDepth 100000 in
theorem post_at {w : World} {p : Nat} {vs vk vb : Value} {L : List Pst} {c : Nat} (h : LedAt w p vs vk vb L c) (q : Pst) (hc : c ≤ 1000000000) (hz : q.key.size ≤ maxLen ∧ q.src.size ≤ maxLen ∧ q.dst.size ≤ maxLen) :
    Calls Tryz.prog 11 #[.pointer (some ⟨p, 0, none⟩), .agg q.arr] w (Posted p (Led.post L q) (c + 2) (Foot p vs vk vb) w) := by
  obtain ⟨k, s, d, n⟩ := q
  obtain ⟨zk, zs, zd⟩ := hz
  show Calls Tryz.prog 11 #[.pointer (some ⟨p, 0, none⟩), .agg #[.string k, .string s, .string d, .int .i64 n]] w _
  have ba : Below w.heap.size w (w.alloc (.cells #[.string k, .string s, .string d, .int .i64 n] 24)) := (Below.refl _ _).alloc (Nat.le_refl _) _
  have hq := heap_alloc_new w (.cells #[.string k, .string s, .string d, .int .i64 n] 24)
  have c0 := (cell_of_row _ _ 0 _ _ _ hq).trans rfl
  have c1 := (cell_of_row _ _ 1 _ _ _ hq).trans rfl
  have c2 := (cell_of_row _ _ 2 _ _ _ hq).trans rfl
  have c3 := (cell_of_row _ _ 3 _ _ _ hq).trans rfl
  have HQ := Lib.hid hq
  have BA := Lib.hid ba
  have LA := Lib.hid (h.below ba)
  obtain ⟨b, eb⟩ : ∃ b, Led.right ⟨k, s, d, n⟩ = b := ⟨_, rfl⟩
  have CR := Lib.hid (fun W => isRight_any ⟨k, s, d, n⟩ W b eb)
  have EB := Lib.hid eb
  have H := Lib.hid h
  clear h hq ba eb
  go_enter Tryz.func11, Tryz.ntmps11
  go_wp2_with fail
  generalize w.alloc (.cells #[.string k, .string s, .string d, .int .i64 n] 24) = W at *
  refine (CR.out _).mono ?_
  rintro e W1 ⟨rfl, hb1⟩
  have B1 := Lib.hid (below_join BA.out hb1)
  have HQ1 := Lib.hid (heap_below HQ.out hb1)
  have L1 := Lib.hid (LA.out.below hb1)
  clear hb1 c0 c1 c2 c3 CR BA HQ LA
  cases b with
  | false =>
    go_wp2_with fail
    go_ret
    have e : Led.post L ⟨k, s, d, n⟩ = (1, L) := by rw [Led.post, if_pos EB.out]
    rw [e]
    exact Posted.same H.out (by omega) B1.out
  | true =>
    have x0 : W1.cell? ⟨w.heap.size, 0, none⟩ = some (.string k) := (cell_of_row _ _ 0 _ _ _ HQ1.out).trans rfl
    have x1 : W1.cell? ⟨p, 1, none⟩ = some vk := (cell_of_row _ _ 1 _ _ _ L1.out.cells).trans rfl
    have p0 : ∀ dd os, (grow (redrawn W1 dd) os).cell? ⟨w.heap.size, 0, none⟩ = some (.string k) := fun dd os => ((below_regrown W1 dd os).cell (p := ⟨w.heap.size, 0, none⟩) (block_lt_of_cell x0)).trans x0
    have p1 : ∀ dd os, (grow (redrawn W1 dd) os).cell? ⟨p, 1, none⟩ = some vk := fun dd os => ((below_regrown W1 dd os).cell (p := ⟨p, 1, none⟩) (block_lt_of_cell x1)).trans x1
    have p2 := fun dd os => (L1.out.below (below_regrown W1 dd os)).key zk
    generalize hkn : (keysF L k).isSome = kn at *
    generalize hix : (keysF L k).getD 0 = ix at *
    have KN := Lib.hid hkn
    have IX := Lib.hid hix
    clear x0 x1 hkn hix
    go_wp2_with fail
    refine wp_region_quiet_below (by kernel_rfl) (by kernel_rfl) ?_
    repeat (go_big_quiet_step (fail))
    refine wpQuiet_nil ?_
    intro _ hw'
    obtain ⟨⟨dq, osq⟩, hw''⟩ := hw'
    subst hw''
    have hb2 := below_regrown W1 dq osq
    have B2 := Lib.hid (below_join B1.out hb2)
    have HQ2 := Lib.hid (heap_below HQ1.out hb2)
    have L2 := Lib.hid (L1.out.below hb2)
    clear hb2 p0 p1 p2 B1 HQ1 L1
    generalize grow (redrawn W1 dq) osq = W2 at *
    cases kn with
    | true =>
      obtain ⟨i, hfi⟩ : ∃ i, Led.find L k = some i := by
        have := KN.out
        unfold keysF at this
        cases hf : Led.find L k with
        | none => rw [hf] at this; cases this
        | some i => exact ⟨i, rfl⟩
      have hix : ix = (i : Int) := by rw [← IX.out, keysF, hfi]; rfl
      subst hix
      have hil : i < L.length := by
        have := List.findIdx?_eq_some_iff_findIdx_eq.1 hfi
        exact this.1
      obtain ⟨q, hqi⟩ : ∃ q, L[i]? = some q := ⟨L[i], List.getElem?_eq_getElem hil⟩
      have hrow := L2.out.row
      rcases hrow.2 with ⟨_, h0⟩ | ⟨g, cap, cur, hvs, _, hg, hnc, hcm, hcs, ht⟩
      · omega
      have cellsq : ∀ j, j < 4 → W2.cell? ⟨g, i * 4 + j, none⟩ = q.arr[j]? := by
        intro j hj
        rw [cell_of_row _ _ _ _ _ _ hg, ← rowP_get L i j q hqi hj, ← ht, List.getElem?_take, if_pos (by omega), Array.getElem?_toList]
      obtain ⟨k2, s2, d2, n2⟩ := q
      have y0 : W2.cell? ⟨p, 0, none⟩ = some vs := (cell_of_row _ _ 0 _ _ _ L2.out.cells).trans rfl
      have g0 : W2.cell? ⟨g, i * 4 + 0, none⟩ = some (.string k2) := (cellsq 0 (by omega)).trans rfl
      have g1 : W2.cell? ⟨g, i * 4 + 1, none⟩ = some (.string s2) := (cellsq 1 (by omega)).trans rfl
      have g2 : W2.cell? ⟨g, i * 4 + 2, none⟩ = some (.string d2) := (cellsq 2 (by omega)).trans rfl
      have g3 : W2.cell? ⟨g, i * 4 + 3, none⟩ = some (.int .i64 n2) := (cellsq 3 (by omega)).trans rfl
      have x0 : W2.cell? ⟨w.heap.size, 0, none⟩ = some (.string k) := (cell_of_row _ _ 0 _ _ _ HQ2.out).trans rfl
      have x1 : W2.cell? ⟨w.heap.size, 1, none⟩ = some (.string s) := (cell_of_row _ _ 1 _ _ _ HQ2.out).trans rfl
      have x2 : W2.cell? ⟨w.heap.size, 2, none⟩ = some (.string d) := (cell_of_row _ _ 2 _ _ _ HQ2.out).trans rfl
      have x3 : W2.cell? ⟨w.heap.size, 3, none⟩ = some (.int .i64 n) := (cell_of_row _ _ 3 _ _ _ HQ2.out).trans rfl
      rw [hvs] at y0
      have kept : ∀ (a : Addr) (v : Value), W2.cell? a = some v → ∀ dd os, (grow (redrawn W2 dd) os).cell? a = some v := fun a v ha dd os => ((below_regrown W2 dd os).cell (block_lt_of_cell ha)).trans ha
      have Y0 := kept _ _ y0
      have G0 := kept _ _ g0
      have G1 := kept _ _ g1
      have G2 := kept _ _ g2
      have G3 := kept _ _ g3
      have X0 := kept _ _ x0
      have X1 := kept _ _ x1
      have X2 := kept _ _ x2
      have X3 := kept _ _ x3
      rw [Nat.add_zero] at G0
      have heq := fun W => pst_eql ⟨k2, s2, d2, n2⟩ ⟨k, s, d, n⟩ W
      generalize heqb : decide (Pst.mk k2 s2 d2 n2 = Pst.mk k s d n) = eqb at *
      have r1 : (0 : Int) ≤ (i : Int) := by omega
      have r2 : (i : Int) < (L.length : Int) := by omega
      have r3 : (i : Int).toNat = i := by omega
      have EQB := Lib.hid heqb
      have HQI := Lib.hid hqi
      have HFI := Lib.hid hfi
      obtain ⟨m, em⟩ : ∃ m, L.length = m := ⟨_, rfl⟩
      rw [em] at Y0 r2
      clear cellsq kept y0 g0 g1 g2 g3 x0 x1 x2 x3 heqb hqi hfi hrow hvs hg hnc hcm hcs ht hil em KN IX
      go_wp2_with fail
      refine wp_region_quiet_below (by kernel_rfl) (by kernel_rfl) ?_
      repeat (go_big_quiet_step (fail))
      refine wpQuiet_nil ?_
      intro _ hw'
      obtain ⟨⟨dq, osq⟩, hw''⟩ := hw'
      subst hw''
      have B3 := Lib.hid (below_join B2.out (below_regrown W2 dq osq))
      clear Y0 G0 G1 G2 G3 X0 X1 X2 X3 heq
      generalize grow (redrawn W2 dq) osq = W3 at *
      have ep : Led.post L ⟨k, s, d, n⟩ = (if eqb then 0 else 33, L) := by
        unfold Led.post
        rw [if_neg (by rw [EB.out]; simp), HFI.out]
        simp only [HQI.out, Option.some.injEq, ← EQB.out, decide_eq_true_eq]
      have EP := Lib.hid ep
      clear ep
      cases eqb with
      | true =>
        go_wp2_with fail
        go_ret
        rw [EP.out]
        exact Posted.same H.out (by omega) B3.out
      | false =>
        go_wp2_with fail
        go_ret
        rw [EP.out]
        exact Posted.same H.out (by omega) B3.out
    | false =>
      have hfn : Led.find L k = none := by
        have := KN.out
        unfold keysF at this
        cases hf : Led.find L k with
        | none => rfl
        | some i => rw [hf] at this; cases this
      have HFN := Lib.hid hfn
      obtain ⟨ao, cap, hvs⟩ := L2.out.slice
      obtain ⟨m, em⟩ : ∃ m, L.length = m := ⟨_, rfl⟩
      rw [em] at hvs
      subst hvs
      have EM := Lib.hid em
      have y0 : W2.cell? ⟨p, 0, none⟩ = some (.slice ao m cap) := (cell_of_row _ _ 0 _ _ _ L2.out.cells).trans rfl
      clear hfn em KN IX
      by_cases hm : 100000 ≤ m
      · have d1 : decide ((100000 : Int) ≤ (m : Int)) = true := by simp; omega
        have d2 : decide (100000 ≤ m) = true := by simp; omega
        have ep : Hid (Led.post L ⟨k, s, d, n⟩ = (2, L)) := by
          show _ = _
          unfold Led.post
          rw [if_neg (by rw [EB.out]; simp), HFN.out]
          simp only [EM.out, if_pos hm]
        clear hm
        go_wp2_with fail
        go_ret
        rw [ep.out]
        exact Posted.same H.out (by omega) B2.out
      · have d1 : decide ((100000 : Int) ≤ (m : Int)) = false := by simp; omega
        have d2 : decide (100000 ≤ m) = false := by simp; omega
        have x1 : W2.cell? ⟨w.heap.size, 1, none⟩ = some (.string s) := (cell_of_row _ _ 1 _ _ _ HQ2.out).trans rfl
        have x3 : W2.cell? ⟨w.heap.size, 3, none⟩ = some (.int .i64 n) := (cell_of_row _ _ 3 _ _ _ HQ2.out).trans rfl
        have y2 : W2.cell? ⟨p, 2, none⟩ = some vb := (cell_of_row _ _ 2 _ _ _ L2.out.cells).trans rfl
        have kept : ∀ (a : Addr) (v : Value), W2.cell? a = some v → ∀ dd os, (grow (redrawn W2 dd) os).cell? a = some v := fun a v ha dd os => ((below_regrown W2 dd os).cell (block_lt_of_cell ha)).trans ha
        have X1 := kept _ _ x1
        have X3 := kept _ _ x3
        have Y2 := kept _ _ y2
        have LB := fun dd os => (L2.out.below (below_regrown W2 dd os)).bal zs
        generalize hbl : Led.bal L s = bl at *
        have HBL := Lib.hid hbl
        have CP : Hid (∀ V, Calls Tryz.prog 30 #[.string s, .string ⟨#[109, 105, 110, 116]⟩] V fun e w' => e = .returned (.bool (Led.mint s)) ∧ Below V.heap.size V w') := fun V => (Tryz.strings_HasPrefix s ⟨#[109, 105, 110, 116]⟩ V).mono fun e w' ⟨he, hw⟩ => ⟨he, by rw [hw]; exact Below.refl _ _⟩
        generalize hmt : Led.mint s = mt at *
        have HMT := Lib.hid hmt
        have HM := Lib.hid hm
        clear kept x1 x3 y2 hbl hmt hm
        by_cases hfu : mt = false ∧ bl < n
        · obtain ⟨rfl, hbn⟩ := hfu
          have d3 : decide (bl < n) = true := by simp; omega
          have ep : Hid (Led.post L ⟨k, s, d, n⟩ = (52, L)) := by
            show _ = _
            unfold Led.post
            rw [if_neg (by rw [EB.out]; simp), HFN.out]
            simp only [EM.out, if_neg HM.out, HMT.out, HBL.out, hbn, and_self, if_true]
          clear hbn
          go_wp2_with fail
          refine wp_region_quiet_below (by kernel_rfl) (by kernel_rfl) ?_
          repeat (go_big_quiet_step (with_reducible exact Calls.regrown_of (CP.out _)))
          refine wpQuiet_nil ?_
          intro _ hw'
          obtain ⟨⟨dq, osq⟩, hw''⟩ := hw'
          subst hw''
          have B3 := Lib.hid (below_join B2.out (below_regrown W2 dq osq))
          go_wp2_with fail
          go_ret
          rw [ep.out]
          exact Posted.same H.out (by omega) B3.out
        · have ep : Hid (Led.post L ⟨k, s, d, n⟩ = (0, L ++ [⟨k, s, d, n⟩])) := by
            show _ = _
            unfold Led.post
            rw [if_neg (by rw [EB.out]; simp), HFN.out]
            simp only [EM.out, if_neg HM.out, HMT.out, HBL.out, if_neg hfu]
          go_upto_region 10 with fail
          go_cut [55] (fun v55 wx => v55 = .bool false ∧ Below W2.heap.size W2 wx)
          case first =>
            cases mt with
            | true =>
              go_wp2_with fail
              refine wp_region_quiet_below (by kernel_rfl) (by kernel_rfl) ?_
              repeat (go_big_quiet_step (with_reducible exact Calls.regrown_of (CP.out _)))
              refine wpQuiet_nil ?_
              intro _ hw'
              obtain ⟨⟨dq, osq⟩, hw''⟩ := hw'
              subst hw''
              have B3 := Lib.hid (below_regrown W2 dq osq)
              go_wp2_with fail
              go_meet
              exact ⟨rfl, B3.out⟩
            | false =>
              have hbn : ¬ bl < n := fun h => hfu ⟨rfl, h⟩
              have d3 : decide (bl < n) = false := by simp; omega
              clear hfu
              go_wp2_with fail
              refine wp_region_quiet_below (by kernel_rfl) (by kernel_rfl) ?_
              repeat (go_big_quiet_step (with_reducible exact Calls.regrown_of (CP.out _)))
              refine wpQuiet_nil ?_
              intro _ hw'
              obtain ⟨⟨dq, osq⟩, hw''⟩ := hw'
              subst hw''
              have B3 := Lib.hid (below_regrown W2 dq osq)
              go_wp2_with fail
              go_meet
              exact ⟨rfl, B3.out⟩
          case rest =>
            obtain ⟨rfl, hb3⟩ := hcut
            have B3 := Lib.hid (below_join B2.out hb3)
            have L3 := Lib.hid (L2.out.below hb3)
            have HQ3 := Lib.hid (heap_below HQ2.out hb3)
            clear hb3 X1 X3 Y2 LB CP B2 L2 HQ2 y0 hfu
            have hq0 := right_ne EB.out
            have HNE : Hid (s ≠ d) := hq0
            have hamt := Led.right_amt EB.out
            have hn1 : 1 ≤ n := hamt.1
            have hn2 : n ≤ 1000000000 := hamt.2
            have hlen : m < 100000 := by have := HM.out; omega
            have bs := Led.bal_le L3.out.ok.1 s
            have bd := Led.bal_le L3.out.ok.1 d
            rw [EM.out] at bs bd
            rw [HBL.out] at bs
            obtain ⟨bl2, hbl2⟩ : ∃ x, Led.bal L d = x := ⟨_, rfl⟩
            rw [hbl2] at bd
            have HBL2 := Lib.hid hbl2
            have bs1 : -100000000000000 ≤ bl := by omega
            have bs2 : bl ≤ 100000000000000 := by omega
            have bd1 : -100000000000000 ≤ bl2 := by omega
            have bd2 : bl2 ≤ 100000000000000 := by omega
            have OKS := Lib.hid (ok_snoc L3.out.ok EB.out (by rw [EM.out]; exact hlen) HFN.out)
            obtain ⟨kb, hkb⟩ : ∃ kb, vk = .map kb := by
              rcases L3.out.maps with ⟨h, _⟩ | ⟨bk, bb, f, h, _⟩
              · exact ⟨_, h⟩
              · exact ⟨_, h⟩
            subst hkb
            have y1 : wc.cell? ⟨p, 1, none⟩ = some (.map kb) := (cell_of_row _ _ 1 _ _ _ L3.out.cells).trans rfl
            have hmk := @run_makeMap Tryz.prog
            have hme := run_eql_map_nil (P := Tryz.prog) wc 49 9 3 kb Tryz.underlying49
            obtain ⟨nb, hnb⟩ : ∃ nb : Bool, (nb = true ∧ kb = none ∧ vb = .map none ∧ L = []) ∨ (nb = false ∧ ∃ bk bb f, kb = some bk ∧ vb = .map (some bb) ∧ bk ≠ bb ∧ MapAt wc bk c (keysF L) ∧ MapAt wc bb c f ∧ ∀ a, (f a).getD 0 = Led.bal L a) := by
              rcases L3.out.maps with ⟨h, h2⟩ | ⟨bk, bb, f, h, h2⟩
              · injection h with h
                exact ⟨true, .inl ⟨rfl, h, h2⟩⟩
              · injection h with h
                exact ⟨false, .inr ⟨rfl, bk, bb, f, h, h2⟩⟩
            have enb : kb.isNone = nb := by
              rcases hnb with ⟨rfl, rfl, _⟩ | ⟨rfl, bk, bb, f, rfl, _⟩ <;> rfl
            rw [enb] at hme
            have HNB := Lib.hid hnb
            have HLT := Lib.hid H.out.foot_lt
            clear hnb enb hq0 hamt bs bd hbl2
            go_upto_if 60 with fail
            go_cut [] (fun wx => MidX w p (.slice ao m cap) L c ⟨k, s, d, n⟩ (Foot p (.slice ao m cap) (.map kb) vb) wx)
            case first =>
              clear hn1 hn2 hlen bs1 bs2 bd1 bd2
              rcases HNB.out with ⟨rfl, rfl, rfl, hL⟩ | ⟨rfl, bk, bb, f, rfl, rfl, hne, m1, m2, hf⟩
              · have HL := Lib.hid hL
                clear hL
                have hl := (Array.getElem?_eq_some_iff.1 L3.out.cells).1
                have h1 : (wc.alloc (.map #[] 0)).heap[p]? = some (.cells #[.slice ao m cap, .map none, .map none] 51 (0, 0)) := (Below.heap_alloc _ _ _ hl).trans L3.out.cells
                have z1 : (wc.alloc (.map #[] 0)).cell? ⟨p, 1, none⟩ = some (.map none) := (cell_of_row _ _ 1 _ _ _ h1).trans rfl
                have f1 : (wc.alloc (.map #[] 0)).frozen? ⟨p, 1, none⟩ = false := by simp only [World.frozen?, h1]; rfl
                have h2 := heap_setCell_same (wc.alloc (.map #[] 0)) p 1 _ _ (.map (some wc.heap.size)) h1
                have h3 : (((wc.alloc (.map #[] 0)).setCell ⟨p, 1, none⟩ (.map (some wc.heap.size))).alloc (.map #[] 0)).heap[p]? = _ := (Below.heap_alloc _ _ _ (by simp; omega)).trans h2
                have z2 : (((wc.alloc (.map #[] 0)).setCell ⟨p, 1, none⟩ (.map (some wc.heap.size))).alloc (.map #[] 0)).cell? ⟨p, 2, none⟩ = some (.map none) := (cell_of_row _ _ 2 _ _ _ h3).trans rfl
                have f2 : (((wc.alloc (.map #[] 0)).setCell ⟨p, 1, none⟩ (.map (some wc.heap.size))).alloc (.map #[] 0)).frozen? ⟨p, 2, none⟩ = false := by simp only [World.frozen?, h3]; rfl
                clear h1 h2 h3 hl
                go_wp2_with fail
                go_meet
                exact ⟨_, _, _, mid_nil L3.out HL.out B3.out HQ3.out rfl HLT.out, fun a => by rw [HL.out]; rfl⟩
              · have HF := Lib.hid hf
                have M1 := Lib.hid m1
                have M2 := Lib.hid m2
                have HNEB := Lib.hid hne
                clear hf m1 m2 hne
                go_wp2_with fail
                go_meet
                exact ⟨_, _, _, mid_some L3.out HNEB.out M1.out M2.out B3.out HQ3.out rfl HLT.out, HF.out⟩
            case rest =>
              obtain ⟨bk, bb, f, hmid, hf⟩ := hcut
              have MD := Lib.hid hmid
              have HF := Lib.hid hf
              clear hmid hf hme y1 HNB B3 L3 HQ3 hmk
              have w1 : (Lit.int .i64 (m : Int)).wf = true := WalkArith.wf_i64 (by omega)
              have w2 : (Lit.int .i64 (bl - n)).wf = true := WalkArith.wf_i64 (by omega)
              have w3 : (Lit.int .i64 (bl2 + n)).wf = true := WalkArith.wf_i64 (by omega)
              have W1' := Lib.hid w1
              have W2' := Lib.hid w2
              have W3' := Lib.hid w3
              have C1 : Hid (c < maxLen) := by show _ < _; unfold maxLen; omega
              have C2 : Hid (c + 1 < maxLen) := by show _ < _; unfold maxLen; omega
              have LL : Hid (L.length ≤ 100000) := by show _ ≤ _; rw [EM.out]; omega
              clear w1 w2 w3
              have x0 : wc.cell? ⟨w.heap.size, 0, none⟩ = some (.string k) := (cell_of_row _ _ 0 _ _ _ MD.out.box).trans rfl
              have y0 : wc.cell? ⟨p, 0, none⟩ = some (.slice ao m cap) := (cell_of_row _ _ 0 _ _ _ MD.out.cells).trans rfl
              have y1 : wc.cell? ⟨p, 1, none⟩ = some (.map (some bk)) := (cell_of_row _ _ 1 _ _ _ MD.out.cells).trans rfl
              have kept : ∀ (a : Addr) (v : Value), wc.cell? a = some v → ∀ dd os, (grow (redrawn wc dd) os).cell? a = some v := fun a v ha dd os => ((below_regrown wc dd os).cell (block_lt_of_cell ha)).trans ha
              have X0 := kept _ _ x0
              have Y0 := kept _ _ y0
              have Y1 := kept _ _ y1
              clear kept x0 y0 y1
              go_wp2_with fail
              refine wp_region_tail_below 11 (by kernel_rfl) (by kernel_rfl) ?_
              simp only [List.take_succ_cons, List.take_zero, List.drop_succ_cons, List.drop_zero]
              repeat (go_big_quiet_step (fail))
              refine wpQuiet_nil ?_
              intro _ hw'
              obtain ⟨⟨dq, osq⟩, hw''⟩ := hw'
              subst hw''
              have M1 := Lib.hid (MD.out.below (below_regrown wc dq osq))
              clear X0 Y0 Y1 MD
              generalize grow (redrawn wc dq) osq = W4 at *
              go_wp2_with (refine wpList_put rfl rfl (.tmp 72) (.tmp 74) (.tmp 79) rfl rfl M1.out.m1 rfl zk C1.out rfl W1'.out ?_; intro w5 hm5 hg5; have M5 := Lib.hid (M1.out.map1 hg5 hm5); clear hm5 hg5 M1)
              have x0 : w5.cell? ⟨w.heap.size, 0, none⟩ = some (.string k) := (cell_of_row _ _ 0 _ _ _ M5.out.box).trans rfl
              have x1 : w5.cell? ⟨w.heap.size, 1, none⟩ = some (.string s) := (cell_of_row _ _ 1 _ _ _ M5.out.box).trans rfl
              have x2 : w5.cell? ⟨w.heap.size, 2, none⟩ = some (.string d) := (cell_of_row _ _ 2 _ _ _ M5.out.box).trans rfl
              have x3 : w5.cell? ⟨w.heap.size, 3, none⟩ = some (.int .i64 n) := (cell_of_row _ _ 3 _ _ _ M5.out.box).trans rfl
              have y0 : w5.cell? ⟨p, 0, none⟩ = some (.slice ao m cap) := (cell_of_row _ _ 0 _ _ _ M5.out.cells).trans rfl
              have ba : Below w5.heap.size w5 (w5.alloc (.cells #[.string k, .string s, .string d, .int .i64 n] 24)).drew := ((Below.refl _ _).alloc (Nat.le_refl _) _).drew
              have y0a : (w5.alloc (.cells #[.string k, .string s, .string d, .int .i64 n] 24)).drew.cell? ⟨p, 0, none⟩ = some (.slice ao m cap) := (ba.cell (p := ⟨p, 0, none⟩) (block_lt_of_cell y0)).trans y0
              have MA := Lib.hid (M5.out.below ba)
              have NB : Hid ((w5.alloc (.cells #[.string k, .string s, .string d, .int .i64 n] 24)).drew.heap[w5.heap.size]? = some (.cells #[.string k, .string s, .string d, .int .i64 n] 24 (0, 0))) := heap_alloc_new w5 _
              clear ba
              go_region_law (refine step_append_pst (by rfl) (.tmp 84) (.tmp 86) (by rfl) (.slice ao m cap) L ⟨k, s, d, n⟩ w5.heap.size (by rfl) (by rfl) MA.out.row NB.out LL.out ?_; intro v6 w6 hown6 hg6 hv6 hform6; obtain ⟨g6, cap6, rfl⟩ := hform6; have c6 : w6.heap[p]? = some (.cells #[.slice ao m cap, .map (some bk), .map (some bb)] 51 (0, 0)) := (hg6.block p (Array.getElem?_eq_some_iff.1 MA.out.cells).1 (Ne.symm (row_ne MA.out.cells MA.out.row))).trans MA.out.cells; have z6 : w6.cell? ⟨p, 0, none⟩ = some (.slice ao m cap) := (cell_of_row _ _ 0 _ _ _ c6).trans rfl; have f6 : w6.frozen? ⟨p, 0, none⟩ = false := (by simp only [World.frozen?, c6]; rfl); have M6 := Lib.hid (MA.out.push hg6 hown6 hv6); clear c6 hown6 hg6 hv6)
              all_goals
                clear x0 x1 x2 x3 y0 y0a MA NB z6 f6
                generalize w6.setCell ⟨p, 0, none⟩ (.slice (some ⟨g6, 0, none⟩) (L.length + 1) cap6) = W7 at *
                have x1 : W7.cell? ⟨w.heap.size, 1, none⟩ = some (.string s) := (cell_of_row _ _ 1 _ _ _ M6.out.box).trans rfl
                have x3 : W7.cell? ⟨w.heap.size, 3, none⟩ = some (.int .i64 n) := (cell_of_row _ _ 3 _ _ _ M6.out.box).trans rfl
                have y2 : W7.cell? ⟨p, 2, none⟩ = some (.map (some bb)) := (cell_of_row _ _ 2 _ _ _ M6.out.cells).trans rfl
                have kept : ∀ (a : Addr) (v : Value), W7.cell? a = some v → ∀ dd os, (grow (redrawn W7 dd) os).cell? a = some v := fun a v ha dd os => ((below_regrown W7 dd os).cell (block_lt_of_cell ha)).trans ha
                have X1 := kept _ _ x1
                have X3 := kept _ _ x3
                have Y2 := kept _ _ y2
                have LB := fun dd os => (M6.out.m2.below (below_regrown W7 dd os)).look zs
                have hbl := HF.out s
                rw [HBL.out] at hbl
                rw [hbl] at LB
                clear kept x1 x3 y2 hbl
                go_wp2_with fail
                refine wp_region_tail_below 10 (by kernel_rfl) (by kernel_rfl) ?_
                simp only [List.take_succ_cons, List.take_zero, List.drop_succ_cons, List.drop_zero]
                repeat (go_big_quiet_step (fail))
                refine wpQuiet_nil ?_
                intro _ hw'
                obtain ⟨⟨dq, osq⟩, hw''⟩ := hw'
                subst hw''
                have M8 := Lib.hid (M6.out.below (below_regrown W7 dq osq))
                clear X1 X3 Y2 LB M6
                generalize grow (redrawn W7 dq) osq = W8 at *
                go_wp2_with (refine wpList_put rfl rfl (.tmp 93) (.tmp 95) (.tmp 99) rfl rfl M8.out.m2 rfl zs C1.out rfl W2'.out ?_; intro w9 hm9 hg9; have M9 := Lib.hid (M8.out.map2 hg9 hm9); clear hm9 hg9 M8)
                have x2 : w9.cell? ⟨w.heap.size, 2, none⟩ = some (.string d) := (cell_of_row _ _ 2 _ _ _ M9.out.box).trans rfl
                have x3 : w9.cell? ⟨w.heap.size, 3, none⟩ = some (.int .i64 n) := (cell_of_row _ _ 3 _ _ _ M9.out.box).trans rfl
                have y2 : w9.cell? ⟨p, 2, none⟩ = some (.map (some bb)) := (cell_of_row _ _ 2 _ _ _ M9.out.cells).trans rfl
                have kept : ∀ (a : Addr) (v : Value), w9.cell? a = some v → ∀ dd os, (grow (redrawn w9 dd) os).cell? a = some v := fun a v ha dd os => ((below_regrown w9 dd os).cell (block_lt_of_cell ha)).trans ha
                have X2 := kept _ _ x2
                have X3 := kept _ _ x3
                have Y2 := kept _ _ y2
                have LB := fun dd os => (M9.out.m2.below (below_regrown w9 dd os)).look zd
                have hbl : (setS f s (bl - n) d).getD 0 = bl2 := by unfold setS; rw [if_neg (Ne.symm HNE.out), HF.out, HBL2.out]
                rw [hbl] at LB
                clear kept x2 x3 y2 hbl
                go_wp2_with fail
                refine wp_region_tail_below 10 (by kernel_rfl) (by kernel_rfl) ?_
                simp only [List.take_succ_cons, List.take_zero, List.drop_succ_cons, List.drop_zero]
                repeat (go_big_quiet_step (fail))
                refine wpQuiet_nil ?_
                intro _ hw'
                obtain ⟨⟨dq, osq⟩, hw''⟩ := hw'
                subst hw''
                have M10 := Lib.hid (M9.out.below (below_regrown w9 dq osq))
                clear X2 X3 Y2 LB M9
                generalize grow (redrawn w9 dq) osq = W10 at *
                go_wp2_with (refine wpList_put rfl rfl (.tmp 103) (.tmp 105) (.tmp 109) rfl rfl M10.out.m2 rfl zd C2.out rfl W3'.out ?_; intro w11 hm11 hg11; have M11 := Lib.hid (M10.out.map2 hg11 hm11); clear hm11 hg11 M10)
                go_ret
                rw [ep.out]
                exact (M11.out.mono1 (by omega)).posted (fun a => by rw [← EM.out]; exact keysF_snoc (q := ⟨k, s, d, n⟩) HFN.out a) (fun a => by rw [← HBL.out, ← HBL2.out]; exact bal_after (q := ⟨k, s, d, n⟩) HF.out HNE.out a) OKS.out
end Go.Proofs.YtfligfompdcddaaGreatDoor
