/- The contract of CheckGrowth's second closure. -/
import Derived.Test.YtjedhmoehepbnaaDoorTreeGWalk
namespace Go.Proofs.YtjedhmoehepbnaaDoor
open Go.RowKit Go.Sort
set_option linter.unusedVariables false
theorem setRow_same {w : World} {g : Nat} {cs : Array Value} {t : TypeId} {fr : Nat × Nat} (h : w.heap[g]? = some (.cells cs t fr)) : w.setRow g cs = w := by
  have e : (w.heap.modify g fun | .cells _ elem frozen => .cells cs elem frozen | o => o) = w.heap := by
    apply Array.ext_getElem?
    intro i
    rw [Array.getElem?_modify]
    split
    · rename_i hi; subst hi; rw [h]; rfl
    · rfl
  exact congrArg (fun h => { w with heap := h }) e
attribute [local go_sem ↓] wp_alloc_hash Go.wp_at_zero Go.wp_at_succ wp_load_at wp_store_at

set_option maxHeartbeats 4000000 in
set_option maxRecDepth 100000 in
theorem gwalk1_left (w0 : World) (U E P R G K : Nat) (vp : Value) (hs : List Tree.H) (old : Tree.H) (hp : IsHs w0 vp hs) (hT0 : Tabs w0) (m n k u : Nat) (b e : Bool) (a1 a2 : Tree.H) (ru : Nat) (re : Bool) (w : World)
    (h1 : 1 ≤ m) (hmn : m < n) (hn : n ≤ 9223372036854775807) (hk0 : 1 ≤ k) (hk1 : k < n) (hk : Tree.half n = k) (hmk : m ≤ k) (la1 : a1.length = 32) (la2 : a2.length = 32) (lru : ru ≤ hs.length) (hv : Vars w0 U E P u e vp w) (hb : GBoxes w0 U E P R G K old w)
    (CA : ∀ W, Vars w0 U E P u e vp W → GBoxes w0 U E P R G K old W → Calls Tryd.prog 60 #[.int .i64 (m : Nat), .int .i64 (k : Nat), .bool b, .pointer (some ⟨R, 0, none⟩), .pointer (some ⟨K, 0, none⟩), .pointer (some ⟨G, 0, none⟩)] W (Takes2 w0 U E P vp ((a1, a2), ru, re) W)) :
    Calls Tryd.prog 60 #[.int .i64 (m : Int), .int .i64 (n : Int), .bool b, .pointer (some ⟨R, 0, none⟩), .pointer (some ⟨K, 0, none⟩), .pointer (some ⟨G, 0, none⟩)] w (Takes2 w0 U E P vp ((a1, Tree.node a2 (Tree.takeH hs (ru, re)).1), (Tree.takeH hs (ru, re)).2) w) := by
  have b0 : Below w.heap.size w ((w.alloc (.cells (hashArr Tree.zero) 24)).alloc (.cells (hashArr Tree.zero) 24)) := ((Below.refl _ _).alloc (Nat.le_refl _) _).alloc (by simp) _
  have hd1 : ((m : Int) == (n : Int)) = false := by simp; omega
  have hd2 : decide ((m : Int) ≤ (k : Int)) = true := by simp; omega
  have H1 := Lib.hid (heap2_old w (.cells (hashArr Tree.zero) 24) (.cells (hashArr Tree.zero) 24))
  have H2 := Lib.hid (heap2_new w (.cells (hashArr Tree.zero) 24) (.cells (hashArr Tree.zero) 24))
  have hg0 := (hb.kept (Kept.of_below b0)).g
  have ch := fun W => half_any n W (by omega) (by omega)
  rw [hk] at ch
  have CH := Lib.hid ch
  have CW := Lib.hid (CA _ (hv.mono b0) (hb.kept (Kept.of_below b0)))
  have CT := Lib.hid (fun W (hW : Vars w0 U E P ru re vp W) => take2_any w0 U E P ru re vp hs W hp lru hW)
  have lta := take_length hs ru re hp.1 lru
  generalize Tree.takeH hs (ru, re) = y at *
  obtain ⟨ta, tu, te⟩ := y
  have LTA : Hid (ta.length = 32) := lta
  have LA1 := Lib.hid la1
  have LA2 := Lib.hid la2
  have HV := Lib.hid hv
  have HB := Lib.hid hb
  have B0 := Lib.hid b0
  have LZ0 := Lib.hid zero_length
  have HT0 := Lib.hid hT0
  clear hv hb b0 lta hp lru CA ch hk hT0 la1 la2
  go_enter Tryd.func60, Tryd.ntmps60
  go_wp2_with fail
  with_reducible refine (CH.out _).mono ?_
  rintro e w' ⟨rfl, rfl⟩
  go_wp2_with fail
  with_reducible refine CW.out.mono ?_
  rintro ed w1 ⟨rfl, hkw1, hv1⟩
  have hne : w.heap.size ≠ U ∧ w.heap.size ≠ E ∧ w.heap.size + 1 ≠ U ∧ w.heap.size + 1 ≠ E := by
    have l1 := lt_of_block HV.out.atU
    have l2 := lt_of_block HV.out.atE
    omega
  have HNE := Lib.hid hne
  have R1 := Lib.hid (hkw1.heap H1.out hne.1 hne.2.1)
  have R2 := Lib.hid (hkw1.heap H2.out hne.2.2.1 hne.2.2.2)
  have R3 := Lib.hid ((setRow_other w1 w.heap.size (w.heap.size + 1) (hashArr a1) (by omega)).trans R2.out)
  have KW := Lib.hid ((((Kept.of_below B0.out).trans hkw1).setRow (Nat.le_refl _) (hashArr a1)).setRow (g := w.heap.size + 1) (by omega) (hashArr a2))
  have VW : Hid (Vars w0 U E P ru re vp ((w1.setRow w.heap.size (hashArr a1)).setRow (w.heap.size + 1) (hashArr a2))) := by
    have l1 := lt_of_block HV.out.atU
    have l2 := lt_of_block HV.out.atE
    have l3 := lt_of_block HV.out.atP
    have l4 := HV.out.below.size
    exact (hv1.setRow (by omega) (by omega) (by omega) (by omega) _).setRow (by omega) (by omega) (by omega) (by omega) _
  have hk2 := (HB.out.kept KW.out).k
  have hr2 := pair_rows (hashArr a1) (hashArr a2) R1.out R2.out (by omega)
  have S1 := Lib.hid hr2.1
  have S2 := Lib.hid hr2.2
  clear hkw1 hv1 hne hr2 H1 H2 B0
  go_wp2_with (first
    | ((with_reducible refine op_is ⟨none, .store 24 (.tmp 9) (.tmp 35), _, _, _, _⟩ ?_); refine wpList_store_row rfl 24 (.tmp 9) (.tmp 35) rfl w.heap.size (hashArr a1) rfl rfl 24 _ R1.out (hash_info _ LA1.out) (by rw [hashArr_size, hashArr_size, LA1.out, LZ0.out]) (hashArr_one _) ?_)
    | ((with_reducible refine op_is ⟨none, .store 24 (.tmp 10) (.tmp 36), _, _, _, _⟩ ?_); refine wpList_store_row rfl 24 (.tmp 10) (.tmp 36) rfl (w.heap.size + 1) (hashArr a2) rfl rfl 24 _ R3.out (hash_info _ LA2.out) (by rw [hashArr_size, hashArr_size, LA2.out, LZ0.out]) (hashArr_one _) ?_))
  clear R1 R2 R3
  generalize (w1.setRow w.heap.size (hashArr a1)).setRow (w.heap.size + 1) (hashArr a2) = W2 at *
  have dr := (Below.refl W2.heap.size W2).drew
  have hl1 := isHashAt LA1.out (heap_below S1.out dr)
  have ho1 := hashOf_at (heap_below S1.out dr)
  have hl2 := isHashAt LA2.out (heap_below S2.out dr)
  have ho2 := hashOf_at (heap_below S2.out dr)
  have hz1 := setRow_same (heap_below S1.out dr)
  have hn6 := isHash LA1.out
  have hbk := blockOf_at w.heap.size
  have DR := Lib.hid dr
  clear dr
  go_region_law (first
    | (go_simp; go_at_call 59; (with_reducible refine (CT.out _ (VW.out.mono DR.out)).mono ?_); rintro ed w3 ⟨rfl, hkw3, hv3⟩; have T1 := Lib.hid (hkw3.heap (heap_below S1.out DR.out) HNE.out.1 HNE.out.2.1); have T2 := Lib.hid (hkw3.heap (heap_below S2.out DR.out) HNE.out.2.2.1 HNE.out.2.2.2); have hl3 := isHashAt LA1.out T1.out; have ho3 := hashOf_at T1.out; have hl4 := isHashAt LA2.out T2.out; have ho4 := hashOf_at T2.out; have hz3 := setRow_same T1.out)
    | (go_simp; go_at_call 18; (with_reducible refine (node_any a2 ta _ LA2.out LTA.out _ (HT0.out.below hv3.below) rfl).mono ?_); rintro ed w4 ⟨rfl, hb4⟩; have X1 := Lib.hid (heap_below T1.out hb4); have X2 := Lib.hid (heap_below T2.out hb4); have hl5 := isHashAt LA1.out X1.out; have ho5 := hashOf_at X1.out; have hl6 := isHashAt LA2.out X2.out; have hn5 := isHash (Tree.node_length a2 ta); have hz5 := setRow_same X1.out; have hbk2 := blockOf_at (w.heap.size + 1)))
  all_goals
    go_wp2_with fail
    refine bodyPost_ret (v := .tuple #[.agg (hashArr a1), .agg (hashArr (Tree.node a2 ta))]) (results_two Tryd.results60 _ _ w.heap.size (w.heap.size + 1) a1 (Tree.node a2 ta) rfl rfl LA1.out (Tree.node_length a2 ta) ((setRow_other _ _ _ _ (by omega)).trans X1.out) (setRow_heap _ _ _ _ _ _ X2.out)) rfl ?_
    have hq := gwalk_end (x := a1) (y := Tree.node a2 ta) (((KW.out.trans (Kept.of_below DR.out)).trans hkw3).trans (Kept.of_below hb4)) (hv3.mono hb4) (lt_of_block HV.out.atU) (lt_of_block HV.out.atE) (lt_of_block HV.out.atP) HV.out.below.size
    rw [hz5] at hq
    exact hq
end Go.Proofs.YtjedhmoehepbnaaDoor
