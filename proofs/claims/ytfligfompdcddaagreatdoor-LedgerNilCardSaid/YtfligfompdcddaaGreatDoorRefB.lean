/- The model of the ledger: Post. -/
import Derived.Test.YtfligfompdcddaaGreatDoorRefA
namespace Go.Proofs.YtfligfompdcddaaGreatDoor
open Go.RowKit Go.Sort Go.Maps
set_option linter.unusedVariables false
theorem Thing.has {P : Thing} {w : World} {F : Nat → Prop} (h : P.On w F) : Has P { w with heap := #[] } w :=
  ⟨F, h, fun k _ => Nat.zero_le _, ⟨rfl, rfl, rfl, Nat.zero_le _, fun k hk => absurd hk (Nat.not_lt_zero k)⟩⟩
theorem Stp.before {P : Thing} {F : Nat → Prop} {w wx w' : World} (hb : Below w.heap.size w wx) (h : Stp P F wx w') : Stp P F w w' := by
  obtain ⟨F', a1, a2, a3⟩ := h
  refine ⟨F', a1, (Turned.of_below (F := F) hb).trans a2 (fun k hk => .inl hk), fun k hk => ?_⟩
  rcases a3 k hk with g | g
  · exact .inl g
  · exact .inr (Nat.le_trans hb.size g)
theorem ref_row_ne {w : World} {m : Nat} {vs : Value} {n : Nat} {xs cs : List Value} (hc : w.heap[m]? = some (.cells cs.toArray 60 (0, 0))) (hr : w.ownsRow 0 24 4 vs n xs) : vs.ownBlock ≠ some m := by
  rcases hr.2 with ⟨rfl, _⟩ | ⟨g, cap, cur, rfl, _, hg, _⟩
  · simp [Value.ownBlock]
  · intro e
    have : g = m := by simpa [Value.ownBlock] using e
    subst this
    rw [hc] at hg
    injection hg with hg
    injection hg with _ hg
    exact absurd hg (by decide)
theorem RefT.push {m : Nat} {L : List Pst} {q : Pst} {F : Nat → Prop} {wx w1 : World} {vs v' : Value} (hc : wx.heap[m]? = some (.cells #[vs] 60 (0, 0))) (hr0 : wx.ownsRow 0 24 4 vs L.length (rowP L)) (hF : ∀ k, F k ↔ (k = m ∨ vs.ownBlock = some k))
    (hg : wx.grownBy w1 vs.ownBlock) (hr : w1.ownsRow 0 24 4 v' (L ++ [q]).length (rowP (L ++ [q]))) (hv : v'.ownBlock = vs.ownBlock ∨ ∃ k, v'.ownBlock = some k ∧ wx.heap.size ≤ k) (ok : Led.Ok (L ++ [q])) :
    Stp (RefT m (L ++ [q])) F wx (w1.setCell ⟨m, 0, none⟩ v') := by
  have hml := (Array.getElem?_eq_some_iff.1 hc).1
  have rn : vs.ownBlock ≠ some m := ref_row_ne (cs := [vs]) hc hr0
  have c1 : w1.heap[m]? = some (.cells #[vs] 60 (0, 0)) := (hg.block m hml (Ne.symm rn)).trans hc
  have c2 := heap_setCell_same w1 m 0 _ _ v' c1
  have g2 := grownBy_setCellP w1 m 0 v'
  have vn : v'.ownBlock ≠ some m := ref_row_ne (cs := [vs]) c1 hr
  refine ⟨fun k => k = m ∨ v'.ownBlock = some k, ⟨v', c2, hr.kept g2 (.inr vn), ok, fun k => Iff.rfl⟩, ?_, ?_⟩
  · exact (Turned.of_grown (F := F) hg (fun k e => (hF k).2 (.inr e))).trans (Turned.of_grown (F := F) g2 (fun k e => (hF k).2 (.inl (by injection e with e; exact e.symm)))) (fun k h => .inl h)
  · rintro k (rfl | hk)
    · exact .inl ((hF k).2 (.inl rfl))
    · rcases hv with e | ⟨j, e, hj⟩
      · exact .inl ((hF k).2 (.inr (by rw [← e]; exact hk)))
      · rw [e] at hk; injection hk with hk; exact .inr (by omega)
theorem RefT.after {m j cap : Nat} {ao : Option Addr} {L : List Pst} {q : Pst} {F : Nat → Prop} {w W : World} (hc : W.heap[m]? = some (.cells #[.slice ao j cap] 60 (0, 0))) (hr0 : W.ownsRow 0 24 4 (.slice ao j cap) L.length (rowP L)) (hF : ∀ k, F k ↔ (k = m ∨ (Value.slice ao j cap).ownBlock = some k))
    (hb : Below w.heap.size w W) (ok : Led.Ok (L ++ [q])) : ∀ (v' : Value) (w1 : World), w1.ownsRow 0 24 4 v' (L ++ [q]).length (rowP (L ++ [q])) → W.grownBy w1 (Value.slice ao j cap).ownBlock → (v'.ownBlock = (Value.slice ao j cap).ownBlock ∨ ∃ k, v'.ownBlock = some k ∧ W.heap.size ≤ k) →
      w1.cell? ⟨m, 0, none⟩ = some (.slice ao j cap) ∧ w1.frozen? ⟨m, 0, none⟩ = false ∧ Hid (Stp (RefT m (L ++ [q])) F w (w1.setCell ⟨m, 0, none⟩ v')) := by
  intro v' w1 hr hg hv
  have c6 : w1.heap[m]? = some (.cells #[.slice ao j cap] 60 (0, 0)) := (hg.block m (Array.getElem?_eq_some_iff.1 hc).1 (Ne.symm (ref_row_ne (cs := [.slice ao j cap]) hc hr0))).trans hc
  exact ⟨(cell_of_row _ _ 0 _ _ _ c6).trans rfl, by simp only [World.frozen?, c6]; rfl, Lib.hid (Stp.before hb (RefT.push hc hr0 hF hg hr hv ok))⟩
theorem str_eql (x y : ByteArray) (w : World) (b : Bool) (hb : decide (x = y) = b) : (binOp .eql 9 (.string x) (.string y)).run Tryz.prog w = .ok (.bool b) w := by
  have u9 := Tryz.underlying9
  have a9 := Tryz.isAgg9
  have z9 := Tryz.sizeOf9
  rw [← hb, ← byte_test]
  go_simp
def RefPosted (m : Nat) (r : Int × List Pst) (F : Nat → Prop) (w : World) (e : Ending) (w' : World) : Prop := ∃ T, (e = .returned (.int .i64 r.1) ∧ T = RefT m r.2) ∧ Stp T F w w'
theorem RefPosted.same {m : Nat} {L : List Pst} {n : Int} {F : Nat → Prop} {w w' : World} (h : (RefT m L).On w F) (hb : Below w.heap.size w w') : RefPosted m (n, L) F w (.returned (.int .i64 n)) w' := ⟨_, ⟨rfl, rfl⟩, Stp.keep _ h hb⟩
theorem find_first {L : List Pst} {a : ByteArray} {j : Nat} {q : Pst} (h : ∀ (k : Nat) (p : Pst), k < j → L[k]? = some p → ¬ p.key = a) (hq : L[j]? = some q) (hk : q.key = a) : Led.find L a = some j := by
  unfold Led.find
  rw [List.findIdx?_eq_some_iff_getElem]
  obtain ⟨hj, hq2⟩ := List.getElem?_eq_some_iff.1 hq
  refine ⟨hj, by rw [hq2]; simpa using hk, fun k hkj => ?_⟩
  have := h k L[k] hkj (List.getElem?_eq_getElem _)
  simpa using this
theorem find_nowhere {L : List Pst} {a : ByteArray} (h : ∀ (k : Nat) (p : Pst), k < L.length → L[k]? = some p → ¬ p.key = a) : Led.find L a = none := by
  unfold Led.find
  rw [List.findIdx?_eq_none_iff]
  intro p hp
  obtain ⟨k, hk⟩ := List.mem_iff_getElem?.1 hp
  simpa using h k p (List.getElem?_eq_some_iff.1 hk).1 hk
set_option maxHeartbeats 4000000 in
set_option maxRecDepth 100000 in
theorem refPost_on {m : Nat} {L : List Pst} {F : Nat → Prop} {w : World} (h : (RefT m L).On w F) (q : Pst) (hz : q.key.size ≤ maxLen ∧ q.src.size ≤ maxLen ∧ q.dst.size ≤ maxLen) :
    Calls Tryz.prog 12 #[.pointer (some ⟨m, 0, none⟩), ArrQ q] w (RefPosted m (Led.post L q) F w) := by
  obtain ⟨k, s, d, n⟩ := q
  obtain ⟨zk, zs, zd⟩ := hz
  simp only [ArrQ]
  have ba : Below w.heap.size w (w.alloc (.cells #[.string k, .string s, .string d, .int .i64 n] 24)) := (Below.refl _ _).alloc (Nat.le_refl _) _
  have hq := heap_alloc_new w (.cells #[.string k, .string s, .string d, .int .i64 n] 24)
  have c0 := (cell_of_row _ _ 0 _ _ _ hq).trans rfl
  have c1 := (cell_of_row _ _ 1 _ _ _ hq).trans rfl
  have c2 := (cell_of_row _ _ 2 _ _ _ hq).trans rfl
  have c3 := (cell_of_row _ _ 3 _ _ _ hq).trans rfl
  have HQ := Lib.hid hq
  have BA := Lib.hid ba
  have H := Lib.hid h
  obtain ⟨b1, e1⟩ : ∃ b, Led.name k = b := ⟨_, rfl⟩
  obtain ⟨b2, e2⟩ : ∃ b, Led.name s = b := ⟨_, rfl⟩
  obtain ⟨b3, e3⟩ : ∃ b, Led.name d = b := ⟨_, rfl⟩
  have C1 := Lib.hid (fun W => refName_any k W zk b1 e1)
  have C2 := Lib.hid (fun W => refName_any s W zs b2 e2)
  have C3 := Lib.hid (fun W => refName_any d W zd b3 e3)
  have EB : Hid (Led.right ⟨k, s, d, n⟩ = (b1 && b2 && b3 && !(decide (s = d)) && decide (1 ≤ n) && decide (n ≤ 1000000000))) := by
    show _ = _
    rw [Led.right, e1, e2, e3]
  have BAD : Hid (Led.right ⟨k, s, d, n⟩ = false → RefPosted m (Led.post L ⟨k, s, d, n⟩) F w (.returned (.int .i64 1)) (w.alloc (.cells #[.string k, .string s, .string d, .int .i64 n] 24))) := by
    intro hr
    have e : Led.post L ⟨k, s, d, n⟩ = (1, L) := by rw [Led.post, if_pos hr]
    rw [e]
    exact RefPosted.same H.out BA.out
  clear h hq ba e1 e2 e3
  go_enter Tryz.func12, Tryz.ntmps12
  go_wp2_with fail
  generalize hWW : w.alloc (.cells #[.string k, .string s, .string d, .int .i64 n] 24) = W at *
  clear hWW
  refine (C1.out _).mono ?_
  rintro e w' ⟨rfl, rfl⟩
  cases b1 with
  | false =>
    go_wp2_with fail
    go_ret
    exact BAD.out (by rw [EB.out]; rfl)
  | true =>
    go_wp2_with fail
    refine (C2.out _).mono ?_
    rintro e w' ⟨rfl, rfl⟩
    cases b2 with
    | false =>
      go_wp2_with fail
      go_ret
      exact BAD.out (by rw [EB.out]; rfl)
    | true =>
      go_wp2_with fail
      refine (C3.out _).mono ?_
      rintro e w' ⟨rfl, rfl⟩
      cases b3 with
      | false =>
        go_wp2_with fail
        go_ret
        exact BAD.out (by rw [EB.out]; rfl)
      | true =>
        by_cases hsd : s = d
        · subst hsd
          have q := bytes_eq s
          go_wp2_with fail
          go_ret
          exact BAD.out (by rw [EB.out]; simp)
        · have qsd := bytes_neq s d hsd
          have HSD := Lib.hid hsd
          clear hsd
          by_cases h1 : 1 ≤ n
          · have d1 : decide (n < 1) = false := by simp; omega
            by_cases h2 : n ≤ 1000000000
            · have d2 : decide (1000000000 < n) = false := by simp; omega
              have d2' : decide (n > 1000000000) = false := by simp; omega
              have RT : Hid (Led.right ⟨k, s, d, n⟩ = true) := by show _ = _; rw [EB.out, decide_eq_false HSD.out, decide_eq_true h1, decide_eq_true h2]; rfl
              clear BAD
              obtain ⟨vs, k1, k2, k3, k4⟩ := H.out
              obtain ⟨ao, cap, rfl, hcq⟩ := psts_cells k2
              have x0 : w.cell? ⟨m, 0, none⟩ = some (.slice ao L.length cap) := (cell_of_row _ _ 0 _ _ _ k1).trans rfl
              have HM := Lib.hid k1
              have HR := Lib.hid k2
              have OK := Lib.hid k3
              have HF := Lib.hid k4
              have HCQ := Lib.hid hcq
              have hl : L.length ≤ 100000 := k3.2.1
              obtain ⟨l, el⟩ : ∃ l, L.length = l := ⟨_, rfl⟩
              rw [el] at x0 hl
              have EL := Lib.hid el
              have X0 := Lib.hid x0
              clear k1 k2 k3 k4 hcq el x0
              go_wp2_with fail
              obtain ⟨B, hB⟩ : ∃ B, w.heap.size = B := ⟨_, rfl⟩
              have EBB := Lib.hid hB
              clear c0 c1 c2 c3 d1 d2 d2' C1 C2 C3 qsd h1 h2
              obtain ⟨V, hV⟩ : ∃ V : World, V = w' := ⟨_, rfl⟩
              rw [← hV] at BA HQ ⊢
              clear hV
              have hb0 : Below V.heap.size V V := Below.refl _ _
              rw [hB] at HQ ⊢
              clear hB
              go_loopw [5] (fun i wr => ∃ j : Nat, j ≤ l ∧ i = .int .i64 j ∧ (∀ (k' : Nat) (p : Pst), k' < j → L[k']? = some p → ¬ p.key = k) ∧ Below V.heap.size V wr) (fun i _ => l - (intOf i).toNat)
              case atStart => exact ⟨0, Nat.zero_le _, rfl, fun k' p hk => by omega, hb0⟩
              case round =>
                clear hb0
                obtain ⟨j, hj, rfl, hall, hb⟩ := hrel
                have ALL := Lib.hid hall
                have BV := Lib.hid hb
                have BW := Lib.hid (below_join BA.out hb)
                have HQr := Lib.hid (heap_below HQ.out hb)
                clear hall hb
                have x0 : wr.cell? ⟨m, 0, none⟩ = some (.slice ao l cap) := (BW.out.cell (p := ⟨m, 0, none⟩) (block_lt_of_cell X0.out)).trans X0.out
                have kept : ∀ (a : Addr) (v : Value), wr.cell? a = some v → ∀ dd os, (grow (redrawn wr dd) os).cell? a = some v := fun a v ha dd os => ((below_regrown wr dd os).cell (block_lt_of_cell ha)).trans ha
                have y0 : wr.cell? ⟨B, 0, none⟩ = some (.string k) := (cell_of_row _ _ 0 _ _ _ HQr.out).trans rfl
                have y1 : wr.cell? ⟨B, 1, none⟩ = some (.string s) := (cell_of_row _ _ 1 _ _ _ HQr.out).trans rfl
                have y2 : wr.cell? ⟨B, 2, none⟩ = some (.string d) := (cell_of_row _ _ 2 _ _ _ HQr.out).trans rfl
                have y3 : wr.cell? ⟨B, 3, none⟩ = some (.int .i64 n) := (cell_of_row _ _ 3 _ _ _ HQr.out).trans rfl
                by_cases hjl : j < l
                · obtain ⟨q, hq⟩ : ∃ q, L[j]? = some q := ⟨L[j]'(by rw [EL.out]; exact hjl), List.getElem?_eq_getElem _⟩
                  obtain ⟨g4, rfl, cq⟩ := HCQ.out j q hq
                  obtain ⟨k2, s2, d2, n2⟩ := q
                  have HQJ := Lib.hid hq
                  have up : ∀ (j' : Nat) (v : Value), w.cell? ⟨g4, j * 4 + j', none⟩ = some v → wr.cell? ⟨g4, j * 4 + j', none⟩ = some v := fun j' v hv => (BW.out.cell (p := ⟨g4, j * 4 + j', none⟩) (block_lt_of_cell hv)).trans hv
                  have g0 := up 0 (.string k2) ((cq 0 (by omega)).trans rfl)
                  have g1 := up 1 (.string s2) ((cq 1 (by omega)).trans rfl)
                  have g2 := up 2 (.string d2) ((cq 2 (by omega)).trans rfl)
                  have g3 := up 3 (.int .i64 n2) ((cq 3 (by omega)).trans rfl)
                  rw [Nat.add_zero] at g0
                  have X0' := kept _ _ x0
                  have Y0 := kept _ _ y0
                  have G0 := kept _ _ g0
                  have r1 : (0 : Int) ≤ (j : Int) := by omega
                  have r2 : (j : Int) < (l : Int) := by omega
                  have r3 : (j : Int).toNat = j := by omega
                  have UP := Lib.hid (And.intro g1 (And.intro g2 g3))
                  have UY := Lib.hid (And.intro y1 (And.intro y2 y3))
                  have G0r := Lib.hid g0
                  have X0r := Lib.hid x0
                  have Y0r := Lib.hid y0
                  clear kept y0 y1 y2 y3 g0 g1 g2 g3 up cq hq
                  by_cases e1 : k2 = k
                  · have dd1 : (k2.toList == k.toList) = true := by rw [byte_test, decide_eq_true e1]
                    have FF := Lib.hid (find_first ALL.out HQJ.out e1)
                    clear e1
                    go_wp2_with fail
                    refine wp_region_quiet_below (by kernel_rfl) (by kernel_rfl) ?_
                    repeat (go_big_quiet_step (fail))
                    refine wpQuiet_nil ?_
                    intro _ hw'
                    obtain ⟨⟨dq, osq⟩, hw''⟩ := hw'
                    subst hw''
                    have hbq := below_regrown wr dq osq
                    have B2 := Lib.hid (below_join BW.out hbq)
                    have kept2 : ∀ (a : Addr) (v : Value), wr.cell? a = some v → ∀ d1 o1 d2 o2, (grow (redrawn (grow (redrawn wr d1) o1) d2) o2).cell? a = some v := fun a v ha d1 o1 d2 o2 => ((below_regrown _ d2 o2).cell (block_lt_of_cell (((below_regrown wr d1 o1).cell (block_lt_of_cell ha)).trans ha))).trans (((below_regrown wr d1 o1).cell (block_lt_of_cell ha)).trans ha)
                    have Z0 := kept2 _ _ X0r.out dq osq
                    have Z1 := kept2 _ _ Y0r.out dq osq
                    have Z2 := kept2 _ _ UY.out.1 dq osq
                    have Z3 := kept2 _ _ UY.out.2.1 dq osq
                    have Z4 := kept2 _ _ UY.out.2.2 dq osq
                    have Z5 := kept2 _ _ G0r.out dq osq
                    have Z6 := kept2 _ _ UP.out.1 dq osq
                    have Z7 := kept2 _ _ UP.out.2.1 dq osq
                    have Z8 := kept2 _ _ UP.out.2.2 dq osq
                    have heq := fun W => pst_eql ⟨k2, s2, d2, n2⟩ ⟨k, s, d, n⟩ W
                    generalize heqb : decide (Pst.mk k2 s2 d2 n2 = Pst.mk k s d n) = eqb at *
                    have EQB := Lib.hid heqb
                    clear heqb kept2 hbq X0' Y0 G0 x0
                    generalize grow (redrawn wr dq) osq = W3 at *
                    go_wp2_with fail
                    refine wp_region_quiet_below (by kernel_rfl) (by kernel_rfl) ?_
                    repeat (go_big_quiet_step (fail))
                    refine wpQuiet_nil ?_
                    intro _ hw'
                    obtain ⟨⟨dq2, osq2⟩, hw''⟩ := hw'
                    subst hw''
                    have B3 := Lib.hid (below_join B2.out (below_regrown W3 dq2 osq2))
                    clear Z0 Z1 Z2 Z3 Z4 Z5 Z6 Z7 Z8 heq
                    have ep : Hid (Led.post L ⟨k, s, d, n⟩ = (if eqb then 0 else 33, L)) := by
                      show _ = _
                      unfold Led.post
                      rw [if_neg (by rw [RT.out]; simp), FF.out]
                      simp only [HQJ.out, Option.some.injEq, ← EQB.out, decide_eq_true_eq]
                    cases eqb with
                    | true =>
                      go_wp2_with fail
                      go_ret
                      rw [ep.out]
                      exact RefPosted.same H.out B3.out
                    | false =>
                      go_wp2_with fail
                      go_ret
                      rw [ep.out]
                      exact RefPosted.same H.out B3.out
                  · have dd1 : (k2.toList == k.toList) = false := by rw [byte_test, decide_eq_false e1]
                    have E1 := Lib.hid e1
                    clear e1
                    go_wp2_with fail
                    refine wp_region_quiet_below (by kernel_rfl) (by kernel_rfl) ?_
                    repeat (go_big_quiet_step (fail))
                    refine wpQuiet_nil ?_
                    intro _ hw'
                    obtain ⟨⟨dq, osq⟩, hw''⟩ := hw'
                    subst hw''
                    have B2 := Lib.hid (below_join BV.out (below_regrown wr dq osq))
                    clear X0' Y0 G0 x0
                    go_wp2_with fail
                    refine ⟨⟨j + 1, by omega, by go_num, fun k' p hk hp => ?_, B2.out⟩, by simp [intOf]; omega⟩
                    by_cases e : k' = j
                    · subst e; rw [HQJ.out] at hp; injection hp with hp; subst hp; exact E1.out
                    · exact ALL.out k' p (by omega) hp
                · obtain rfl : j = l := by omega
                  have FN := Lib.hid (find_nowhere (L := L) (a := k) (by rw [EL.out]; exact ALL.out))
                  by_cases hm : 100000 ≤ j
                  · have d1 : decide ((100000 : Int) ≤ (j : Int)) = true := by simp; omega
                    have d2 : decide (100000 ≤ j) = true := by simp; omega
                    have ep : Hid (Led.post L ⟨k, s, d, n⟩ = (2, L)) := by
                      show _ = _
                      unfold Led.post
                      rw [if_neg (by rw [RT.out]; simp), FN.out]
                      simp only [EL.out, if_pos hm]
                    clear hm kept y0 y1 y2 y3
                    go_wp2_with fail
                    go_ret
                    rw [ep.out]
                    exact RefPosted.same H.out BW.out
                  · have d1 : decide ((100000 : Int) ≤ (j : Int)) = false := by simp; omega
                    have d2 : decide (100000 ≤ j) = false := by simp; omega
                    have X1 := kept _ _ y1
                    have X3 := kept _ _ y3
                    generalize hmt : Led.mint s = mt at *
                    obtain ⟨bl, hbl⟩ : ∃ bl, Led.bal L s = bl := ⟨_, rfl⟩
                    have CS : Hid (∀ V, Calls Tryz.prog 32 #[.string s] V fun e w' => e = .returned (.bool mt) ∧ Below V.heap.size V w') := fun V => (source_any s V zs mt hmt).mono fun e w' ⟨he, hw⟩ => ⟨he, by rw [hw]; exact Below.refl _ _⟩
                    have CB : Hid (∀ dd os, Calls Tryz.prog 14 #[.pointer (some ⟨m, 0, none⟩), .string s] (grow (redrawn wr dd) os) fun e w' => e = .returned (.int .i64 bl) ∧ Below (grow (redrawn wr dd) os).heap.size (grow (redrawn wr dd) os) w') := fun dd os =>
                      (refBalance_on ((Thing.has ((RefT m L).below H.out BW.out)).below (below_regrown wr dd os)) s bl hbl).mono fun e w' ⟨he, hw⟩ => ⟨he, by rw [hw]; exact Below.refl _ _⟩
                    have HBL := Lib.hid hbl
                    have HMT := Lib.hid hmt
                    have HM' := Lib.hid hm
                    clear kept y0 y1 y2 y3 hbl hmt hm
                    by_cases hfu : mt = false ∧ bl < n
                    · obtain ⟨rfl, hbn⟩ := hfu
                      have d3 : decide (bl < n) = true := by simp; omega
                      have ep : Hid (Led.post L ⟨k, s, d, n⟩ = (52, L)) := by
                        show _ = _
                        unfold Led.post
                        rw [if_neg (by rw [RT.out]; simp), FN.out]
                        simp only [EL.out, if_neg HM'.out, HMT.out, HBL.out, hbn, and_self, if_true]
                      clear hbn
                      go_wp2_with fail
                      refine wp_region_quiet_below (by kernel_rfl) (by kernel_rfl) ?_
                      repeat (first | (go_big_quiet_step (first | (with_reducible exact Calls.regrown_of (CS.out _)) | (with_reducible exact Calls.regrown_of (CB.out _ _)))))
                      refine wpQuiet_nil ?_
                      intro _ hw'
                      obtain ⟨⟨dq, osq⟩, hw''⟩ := hw'
                      subst hw''
                      have B3 := Lib.hid (below_join BW.out (below_regrown wr dq osq))
                      go_wp2_with fail
                      go_ret
                      rw [ep.out]
                      exact RefPosted.same H.out B3.out
                    · have ep : Hid (Led.post L ⟨k, s, d, n⟩ = (0, L ++ [⟨k, s, d, n⟩])) := by
                        show _ = _
                        unfold Led.post
                        rw [if_neg (by rw [RT.out]; simp), FN.out]
                        simp only [EL.out, if_neg HM'.out, HMT.out, HBL.out, if_neg hfu]
                      go_upto_region 12 with fail
                      go_cut [86] (fun v86 wx => v86 = .bool false ∧ Below wr.heap.size wr wx)
                      case first =>
                        cases mt with
                        | true =>
                          go_wp2_with fail
                          refine wp_region_quiet_below (by kernel_rfl) (by kernel_rfl) ?_
                          repeat (go_big_quiet_step (first | (with_reducible exact Calls.regrown_of (CS.out _)) | (with_reducible exact Calls.regrown_of (CB.out _ _))))
                          refine wpQuiet_nil ?_
                          intro _ hw'
                          obtain ⟨⟨dq, osq⟩, hw''⟩ := hw'
                          subst hw''
                          have B3 := Lib.hid (below_regrown wr dq osq)
                          go_wp2_with fail
                          go_meet
                          exact ⟨rfl, B3.out⟩
                        | false =>
                          have hbn : ¬ bl < n := fun h => hfu ⟨rfl, h⟩
                          have d3 : decide (bl < n) = false := by simp; omega
                          clear hfu
                          go_wp2_with fail
                          refine wp_region_quiet_below (by kernel_rfl) (by kernel_rfl) ?_
                          repeat (go_big_quiet_step (first | (with_reducible exact Calls.regrown_of (CS.out _)) | (with_reducible exact Calls.regrown_of (CB.out _ _))))
                          refine wpQuiet_nil ?_
                          intro _ hw'
                          obtain ⟨⟨dq, osq⟩, hw''⟩ := hw'
                          subst hw''
                          have B3 := Lib.hid (below_regrown wr dq osq)
                          go_wp2_with fail
                          go_meet
                          exact ⟨rfl, B3.out⟩
                      case rest =>
                        obtain ⟨rfl, hb3⟩ := hcut
                        have B3 := Lib.hid (below_join BW.out hb3)
                        have HQ3 := Lib.hid (heap_below HQr.out hb3)
                        have HM3 := Lib.hid (heap_below HM.out B3.out)
                        have HR3 := Lib.hid (rows_below HR.out B3.out)
                        have OKS := Lib.hid (ok_snoc OK.out RT.out (by rw [EL.out]; have := HM'.out; omega) FN.out)
                        have x0 : wc.cell? ⟨B, 0, none⟩ = some (.string k) := (cell_of_row _ _ 0 _ _ _ HQ3.out).trans rfl
                        have x1 : wc.cell? ⟨B, 1, none⟩ = some (.string s) := (cell_of_row _ _ 1 _ _ _ HQ3.out).trans rfl
                        have x2 : wc.cell? ⟨B, 2, none⟩ = some (.string d) := (cell_of_row _ _ 2 _ _ _ HQ3.out).trans rfl
                        have x3 : wc.cell? ⟨B, 3, none⟩ = some (.int .i64 n) := (cell_of_row _ _ 3 _ _ _ HQ3.out).trans rfl
                        have y0 : wc.cell? ⟨m, 0, none⟩ = some (.slice ao j cap) := (cell_of_row _ _ 0 _ _ _ HM3.out).trans (by rw [EL.out]; rfl)
                        have ba : Below wc.heap.size wc (wc.alloc (.cells #[.string k, .string s, .string d, .int .i64 n] 24)).drew := ((Below.refl _ _).alloc (Nat.le_refl _) _).drew
                        have y0a : (wc.alloc (.cells #[.string k, .string s, .string d, .int .i64 n] 24)).drew.cell? ⟨m, 0, none⟩ = some (.slice ao j cap) := (ba.cell (p := ⟨m, 0, none⟩) (block_lt_of_cell y0)).trans y0
                        have hma : (wc.alloc (.cells #[.string k, .string s, .string d, .int .i64 n] 24)).drew.heap[m]? = some (.cells #[.slice ao j cap] 60 (0, 0)) := by have := heap_below HM3.out ba; rw [EL.out] at this; exact this
                        have RA : Hid ((wc.alloc (.cells #[.string k, .string s, .string d, .int .i64 n] 24)).drew.ownsRow 0 24 4 (.slice ao j cap) L.length (rowP L)) := by have := rows_below HR3.out ba; show World.ownsRow _ _ _ _ _ _ _; rw [EL.out] at this ⊢; exact this
                        have hF2 := HF.out
                        rw [EL.out] at hF2
                        have AFT := Lib.hid (RefT.after hma RA.out hF2 (below_join B3.out ba) OKS.out)
                        have NB : Hid ((wc.alloc (.cells #[.string k, .string s, .string d, .int .i64 n] 24)).drew.heap[wc.heap.size]? = some (.cells #[.string k, .string s, .string d, .int .i64 n] 24 (0, 0))) := heap_alloc_new wc _
                        have LL : Hid (L.length ≤ 100000) := by show _ ≤ _; rw [EL.out]; omega
                        clear ba hb3 hfu CS CB X1 X3 x0 BV HQr hma hF2
                        have x0 : wc.cell? ⟨B, 0, none⟩ = some (.string k) := (cell_of_row _ _ 0 _ _ _ HQ3.out).trans rfl
                        go_wp2_with fail
                        go_region_law (refine step_append_pst (by rfl) (.tmp 91) (.tmp 93) (by rfl) (.slice ao j cap) L ⟨k, s, d, n⟩ wc.heap.size (by rfl) (by rfl) RA.out NB.out LL.out ?_; intro v6 w6 hown6 hg6 hv6 hform6; obtain ⟨g6, cap6, rfl⟩ := hform6; obtain ⟨z6, f6, M6⟩ := AFT.out _ w6 hown6 hg6 hv6; clear hown6 hg6 hv6)
                        all_goals
                          clear x0 x1 x2 x3 y0 y0a z6 f6
                          go_wp2_with fail
                          go_ret
                          rw [ep.out]
                          exact ⟨_, ⟨rfl, rfl⟩, M6.out⟩
            · have d2 : decide (1000000000 < n) = true := by simp; omega
              have d2' : decide (n > 1000000000) = true := by simp; omega
              go_wp2_with fail
              go_ret
              exact BAD.out (by rw [EB.out, decide_eq_false (by omega : ¬ n ≤ 1000000000)]; simp)
          · have d1 : decide (n < 1) = true := by simp; omega
            go_wp2_with fail
            go_ret
            exact BAD.out (by rw [EB.out, decide_eq_false (by omega : ¬ 1 ≤ n)]; simp)
end Go.Proofs.YtfligfompdcddaaGreatDoor
