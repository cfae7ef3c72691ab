/- The contract of undo. -/
import Derived.Test.YtfligfompdcddaaGreatDoorLedMid
namespace Go.Proofs.YtfligfompdcddaaGreatDoor
open Go.RowKit Go.Sort Go.Maps
set_option linter.unusedVariables false
def Undone (p : Nat) (L : List Pst) (c : Nat) (F : Nat → Prop) (w : World) (e : Ending) (w' : World) : Prop := e = .returned (.tuple #[]) ∧ Step p L c F w w'
set_option maxHeartbeats 4000000 in
set_option maxRecDepth 100000 in
theorem undo_any {w : World} {p : Nat} {vs vk vb : Value} {L : List Pst} {q : Pst} {c : Nat} (h : LedAt w p vs vk vb (L ++ [q]) c) (hc : c ≤ 1000000000) :
    Calls Tryz.prog 41 #[.pointer (some ⟨p, 0, none⟩)] w (Undone p L (c + 2) (Foot p vs vk vb) w) := by
  obtain ⟨hokL, hright, hfind, hlen⟩ := ok_prefix h.ok
  have hzz := Led.right_sizes hright
  have zk : q.key.size ≤ maxLen := by unfold maxLen; omega
  have zs : q.src.size ≤ maxLen := by unfold maxLen; omega
  have zd : q.dst.size ≤ maxLen := by unfold maxLen; omega
  have hq0 := right_ne hright
  have HNE : Hid (q.src ≠ q.dst) := hq0
  have OKL := Lib.hid hokL
  have HFN := Lib.hid hfind
  obtain ⟨n1, n2⟩ := Led.right_amt hright
  obtain ⟨m, em⟩ : ∃ m, L.length = m := ⟨_, rfl⟩
  have EM := Lib.hid em
  have bs := Led.bal_le h.ok.1 q.src
  have bd := Led.bal_le h.ok.1 q.dst
  simp only [List.length_append, List.length_singleton, em] at bs bd
  rw [em] at hlen
  rcases h.row.2 with ⟨_, h0⟩ | ⟨g, cap, cur, hvs, _, hg, hnc, hcm, hcs, ht⟩
  · simp at h0
  rw [List.length_append, List.length_singleton, em] at hvs hnc
  subst hvs
  rcases h.maps with ⟨_, _, h0⟩ | ⟨bk, bb, f, rfl, rfl, hne, m1, m2, hf⟩
  · simp at h0
  have MD := Lib.hid (mid_undo h em hne m1 m2)
  have HF := Lib.hid hf
  have cellsq : ∀ j, j < 4 → w.cell? ⟨g, m * 4 + j, none⟩ = q.arr[j]? := by
    intro j hj
    have hi : (L ++ [q])[m]? = some q := by rw [← em]; simp
    rw [cell_of_row _ _ _ _ _ _ hg, ← rowP_get (L ++ [q]) m j q hi hj, ← ht, List.getElem?_take, if_pos (by simp; omega), Array.getElem?_toList]
  obtain ⟨k, s, d, n⟩ := q
  have y0 : w.cell? ⟨p, 0, none⟩ = some (.slice (some ⟨g, 0, none⟩) (m + 1) cap) := (cell_of_row _ _ 0 _ _ _ h.cells).trans rfl
  have g0 : w.cell? ⟨g, m * 4, none⟩ = some (.string k) := (cellsq 0 (by omega)).trans rfl
  have g1 : w.cell? ⟨g, m * 4 + 1, none⟩ = some (.string s) := (cellsq 1 (by omega)).trans rfl
  have g2 : w.cell? ⟨g, m * 4 + 2, none⟩ = some (.string d) := (cellsq 2 (by omega)).trans rfl
  have g3 : w.cell? ⟨g, m * 4 + 3, none⟩ = some (.int .i64 n) := (cellsq 3 (by omega)).trans rfl
  have hpl := (Array.getElem?_eq_some_iff.1 h.cells).1
  have hA : (w.alloc (.cells #[.string k, .string s, .string d, .int .i64 n] 24)).heap[p]? = some (.cells #[.slice (some ⟨g, 0, none⟩) (m + 1) cap, .map (some bk), .map (some bb)] 51 (0, 0)) := (Below.heap_alloc _ _ _ hpl).trans h.cells
  have yA : (w.alloc (.cells #[.string k, .string s, .string d, .int .i64 n] 24)).cell? ⟨p, 0, none⟩ = some (.slice (some ⟨g, 0, none⟩) (m + 1) cap) := (cell_of_row _ _ 0 _ _ _ hA).trans rfl
  have fA : (w.alloc (.cells #[.string k, .string s, .string d, .int .i64 n] 24)).frozen? ⟨p, 0, none⟩ = false := by simp only [World.frozen?, hA]; rfl
  have cm : m + 1 ≤ cap := hnc
  obtain ⟨bl, hbl⟩ : ∃ x, Led.bal (L ++ [⟨k, s, d, n⟩]) s = x := ⟨_, rfl⟩
  obtain ⟨bl2, hbl2⟩ : ∃ x, Led.bal (L ++ [⟨k, s, d, n⟩]) d = x := ⟨_, rfl⟩
  have HBL := Lib.hid hbl
  have HBL2 := Lib.hid hbl2
  have bs1 : -200000000000000 ≤ bl := by rw [← hbl]; have := bs.1; simp only at this; omega
  have bs2 : bl ≤ 200000000000000 := by rw [← hbl]; have := bs.2; simp only at this; omega
  have bd1 : -200000000000000 ≤ bl2 := by rw [← hbl2]; have := bd.1; simp only at this; omega
  have bd2 : bl2 ≤ 200000000000000 := by rw [← hbl2]; have := bd.2; simp only at this; omega
  have n1' : 1 ≤ n := n1
  have n2' : n ≤ 1000000000 := n2
  clear n1 n2
  have w2 : (Lit.int .i64 (bl + n)).wf = true := WalkArith.wf_i64 (by omega)
  have w3 : (Lit.int .i64 (bl2 - n)).wf = true := WalkArith.wf_i64 (by omega)
  have W2' := Lib.hid w2
  have W3' := Lib.hid w3
  have C1 : Hid (c < maxLen) := by show _ < _; unfold maxLen; omega
  have C2 : Hid (c + 1 < maxLen) := by show _ < _; unfold maxLen; omega
  unfold maxLen at hcm
  clear hokL hright hfind hzz hq0 bs bd hg hcs ht hne m1 m2 hf cellsq hpl hA hnc w2 w3 h em hbl hbl2
  go_enter Tryz.func41, Tryz.ntmps41
  go_wp2_with fail
  clear yA fA y0 g0 g1 g2 g3
  have MD1 : Hid (Mid w p (.slice (some ⟨g, 0, none⟩) m cap) L.length (rowP L) ⟨k, s, d, n⟩ (Foot p (.slice (some ⟨g, 0, none⟩) (m + 1) cap) (.map (some bk)) (.map (some bb))) ((w.alloc (.cells #[.string k, .string s, .string d, .int .i64 n] 24)).setCell ⟨p, 0, none⟩ (.slice (some ⟨g, 0, none⟩) m cap)) bk bb c c (keysF (L ++ [⟨k, s, d, n⟩])) f) := MD.out
  clear MD
  generalize (w.alloc (.cells #[.string k, .string s, .string d, .int .i64 n] 24)).setCell ⟨p, 0, none⟩ (.slice (some ⟨g, 0, none⟩) m cap) = W3 at *
  have x0 : W3.cell? ⟨w.heap.size, 0, none⟩ = some (.string k) := (cell_of_row _ _ 0 _ _ _ MD1.out.box).trans rfl
  have y1 : W3.cell? ⟨p, 1, none⟩ = some (.map (some bk)) := (cell_of_row _ _ 1 _ _ _ MD1.out.cells).trans rfl
  have kept : ∀ (a : Addr) (v : Value), W3.cell? a = some v → ∀ dd os, (grow (redrawn W3 dd) os).cell? a = some v := fun a v ha dd os => ((below_regrown W3 dd os).cell (block_lt_of_cell ha)).trans ha
  have X0 := kept _ _ x0
  have Y1 := kept _ _ y1
  clear kept x0 y1
  refine wp_region_tail_below 6 (by kernel_rfl) (by kernel_rfl) ?_
  simp only [List.take_succ_cons, List.take_zero, List.drop_succ_cons, List.drop_zero]
  repeat (go_big_quiet_step (fail))
  refine wpQuiet_nil ?_
  intro _ hw'
  obtain ⟨⟨dq, osq⟩, hw''⟩ := hw'
  subst hw''
  have M4 := Lib.hid (MD1.out.below (below_regrown W3 dq osq))
  clear X0 Y1 MD1
  generalize grow (redrawn W3 dq) osq = W4 at *
  go_wp2_with (refine wpList_del rfl rfl (.tmp 29) (.tmp 31) rfl rfl M4.out.m1 rfl zk ?_; intro w5 hm5 hg5; have M6 := Lib.hid (M4.out.map1 hg5 hm5); clear hm5 hg5 M4)
  have x1 : w5.cell? ⟨w.heap.size, 1, none⟩ = some (.string s) := (cell_of_row _ _ 1 _ _ _ M6.out.box).trans rfl
  have x3 : w5.cell? ⟨w.heap.size, 3, none⟩ = some (.int .i64 n) := (cell_of_row _ _ 3 _ _ _ M6.out.box).trans rfl
  have y2 : w5.cell? ⟨p, 2, none⟩ = some (.map (some bb)) := (cell_of_row _ _ 2 _ _ _ M6.out.cells).trans rfl
  have kept : ∀ (a : Addr) (v : Value), w5.cell? a = some v → ∀ dd os, (grow (redrawn w5 dd) os).cell? a = some v := fun a v ha dd os => ((below_regrown w5 dd os).cell (block_lt_of_cell ha)).trans ha
  have X1 := kept _ _ x1
  have X3 := kept _ _ x3
  have Y2 := kept _ _ y2
  have LB := fun dd os => (M6.out.m2.below (below_regrown w5 dd os)).look zs
  have hbl := HF.out s
  rw [HBL.out] at hbl
  simp only [hbl] at LB
  clear kept x1 x3 y2 hbl
  go_wp2_with fail
  refine wp_region_tail_below 10 (by kernel_rfl) (by kernel_rfl) ?_
  simp only [List.take_succ_cons, List.take_zero, List.drop_succ_cons, List.drop_zero]
  repeat (go_big_quiet_step (fail))
  refine wpQuiet_nil ?_
  intro _ hw'
  obtain ⟨⟨dq, osq⟩, hw''⟩ := hw'
  subst hw''
  have M8 := Lib.hid (M6.out.below (below_regrown w5 dq osq))
  clear X1 X3 Y2 LB M6
  generalize grow (redrawn w5 dq) osq = W8 at *
  go_wp2_with (refine wpList_put rfl rfl (.tmp 35) (.tmp 37) (.tmp 41) rfl rfl M8.out.m2 rfl zs C1.out rfl W2'.out ?_; intro w9 hm9 hg9; have M9 := Lib.hid (M8.out.map2 hg9 hm9); clear hm9 hg9 M8)
  have x2 : w9.cell? ⟨w.heap.size, 2, none⟩ = some (.string d) := (cell_of_row _ _ 2 _ _ _ M9.out.box).trans rfl
  have x3 : w9.cell? ⟨w.heap.size, 3, none⟩ = some (.int .i64 n) := (cell_of_row _ _ 3 _ _ _ M9.out.box).trans rfl
  have y2 : w9.cell? ⟨p, 2, none⟩ = some (.map (some bb)) := (cell_of_row _ _ 2 _ _ _ M9.out.cells).trans rfl
  have kept : ∀ (a : Addr) (v : Value), w9.cell? a = some v → ∀ dd os, (grow (redrawn w9 dd) os).cell? a = some v := fun a v ha dd os => ((below_regrown w9 dd os).cell (block_lt_of_cell ha)).trans ha
  have X2 := kept _ _ x2
  have X3 := kept _ _ x3
  have Y2 := kept _ _ y2
  have LB := fun dd os => (M9.out.m2.below (below_regrown w9 dd os)).look zd
  have hbl : (setS f s (bl + n) d).getD 0 = bl2 := by
    unfold setS
    rw [if_neg (Ne.symm HNE.out), HF.out, HBL2.out]
  simp only [hbl] at LB
  clear kept x2 x3 y2 hbl
  go_wp2_with fail
  refine wp_region_tail_below 10 (by kernel_rfl) (by kernel_rfl) ?_
  simp only [List.take_succ_cons, List.take_zero, List.drop_succ_cons, List.drop_zero]
  repeat (go_big_quiet_step (fail))
  refine wpQuiet_nil ?_
  intro _ hw'
  obtain ⟨⟨dq, osq⟩, hw''⟩ := hw'
  subst hw''
  have M10 := Lib.hid (M9.out.below (below_regrown w9 dq osq))
  clear X2 X3 Y2 LB M9
  generalize grow (redrawn w9 dq) osq = W10 at *
  go_wp2_with (refine wpList_put rfl rfl (.tmp 45) (.tmp 47) (.tmp 51) rfl rfl M10.out.m2 rfl zd C2.out rfl W3'.out ?_; intro w11 hm11 hg11; have M11 := Lib.hid (M10.out.map2 hg11 hm11); clear hm11 hg11 M10)
  go_end0
  exact ⟨rfl, (M11.out.mono1 (by omega)).step (fun a => keysF_undo (q := ⟨k, s, d, n⟩) HFN.out a) (fun a => by rw [← HBL.out, ← HBL2.out]; exact bal_undo (q := ⟨k, s, d, n⟩) HF.out HNE.out a) OKL.out⟩
end Go.Proofs.YtfligfompdcddaaGreatDoor
