/- The contract of CheckGrowth's second closure. -/
import Derived.Test.YtjedhmoehepbnaaDoorTreeGWalk
namespace Go.Proofs.YtjedhmoehepbnaaDoor
open Go.RowKit Go.Sort
set_option linter.unusedVariables false
/-- the memory between the last calls: its two results, and the hash taken -/
structure Cur (w0 w : World) (U E P u : Nat) (e : Bool) (vp : Value) (X : Nat) (a2 ta : Tree.H) (V : World) (x : Tree.H) : Prop where
  kept : Kept U E w V
  vars : Vars w0 U E P u e vp V
  b1 : V.heap[w.heap.size]? = some (.cells (hashArr x) 24 (0, 0))
  b2 : V.heap[w.heap.size + 1]? = some (.cells (hashArr a2) 24 (0, 0))
  x : V.heap[X]? = some (.cells (hashArr ta) 24 (0, 0))
theorem Cur.below {w0 w : World} {U E P u : Nat} {e : Bool} {vp : Value} {X : Nat} {a2 ta : Tree.H} {V V' : World} {x : Tree.H} (h : Cur w0 w U E P u e vp X a2 ta V x) (hb : Below V.heap.size V V') : Cur w0 w U E P u e vp X a2 ta V' x :=
  ⟨h.kept.trans (Kept.of_below hb), h.vars.mono hb, heap_below h.b1 hb, heap_below h.b2 hb, heap_below h.x hb⟩
structure Far (w0 w : World) (U E P X : Nat) : Prop where
  u : U < w.heap.size
  e : E < w.heap.size
  p : P < w.heap.size
  o : w0.heap.size ≤ w.heap.size
  x : w.heap.size + 1 < X
theorem Cur.set {w0 w : World} {U E P u : Nat} {e : Bool} {vp : Value} {X : Nat} {a2 ta : Tree.H} {V : World} {x : Tree.H} (h : Cur w0 w U E P u e vp X a2 ta V x) (f : Far w0 w U E P X) (y : Tree.H) : Cur w0 w U E P u e vp X a2 ta (V.setRow w.heap.size (hashArr y)) y :=
  ⟨h.kept.setRow (Nat.le_refl _) _, h.vars.setRow f.o (by have := f.u; omega) (by have := f.e; omega) (by have := f.p; omega) _, setRow_heap _ _ _ _ _ _ h.b1, (setRow_other _ _ _ _ (by omega)).trans h.b2, (setRow_other _ _ _ _ (by have := f.x; omega)).trans h.x⟩
theorem Cur.last {w0 w : World} {U E P u : Nat} {e : Bool} {vp : Value} {X : Nat} {a2 ta : Tree.H} {V : World} {x y : Tree.H} (h : Cur w0 w U E P u e vp X a2 ta V x) (f : Far w0 w U E P X) :
    Takes2 w0 U E P vp ((x, y), u, e) w (.returned (.tuple #[.agg (hashArr x), .agg (hashArr y)])) (V.setRow (w.heap.size + 1) (hashArr y)) :=
  ⟨rfl, h.kept.setRow (by omega) _, h.vars.setRow (by have := f.o; omega) (by have := f.u; omega) (by have := f.e; omega) (by have := f.p; omega) _⟩
attribute [local go_sem ↓] wp_alloc_hash Go.wp_at_zero Go.wp_at_succ wp_load_at wp_store_at

set_option maxHeartbeats 4000000 in
set_option maxRecDepth 100000 in
theorem gwalk1_right (w0 : World) (U E P R G K : Nat) (vp : Value) (hs : List Tree.H) (old : Tree.H) (hp : IsHs w0 vp hs) (hT0 : Tabs w0) (m n k u : Nat) (b e : Bool) (a1 a2 : Tree.H) (ru : Nat) (re : Bool) (w : World)
    (h1 : 1 ≤ m) (hmn : m < n) (hn : n ≤ 9223372036854775807) (hk0 : 1 ≤ k) (hk1 : k < n) (hk : Tree.half n = k) (hmk : k < m) (la1 : a1.length = 32) (la2 : a2.length = 32) (lru : ru ≤ hs.length) (hv : Vars w0 U E P u e vp w) (hb : GBoxes w0 U E P R G K old w)
    (CA : ∀ W, Vars w0 U E P u e vp W → GBoxes w0 U E P R G K old W → Calls Tryd.prog 60 #[.int .i64 ((m - k) : Nat), .int .i64 ((n - k) : Nat), .bool false, .pointer (some ⟨R, 0, none⟩), .pointer (some ⟨K, 0, none⟩), .pointer (some ⟨G, 0, none⟩)] W (Takes2 w0 U E P vp ((a1, a2), ru, re) W)) :
    Calls Tryd.prog 60 #[.int .i64 (m : Int), .int .i64 (n : Int), .bool b, .pointer (some ⟨R, 0, none⟩), .pointer (some ⟨K, 0, none⟩), .pointer (some ⟨G, 0, none⟩)] w (Takes2 w0 U E P vp ((Tree.node (Tree.takeH hs (ru, re)).1 a1, Tree.node (Tree.takeH hs (ru, re)).1 a2), (Tree.takeH hs (ru, re)).2) w) := by
  have b0 : Below w.heap.size w ((w.alloc (.cells (hashArr Tree.zero) 24)).alloc (.cells (hashArr Tree.zero) 24)) := ((Below.refl _ _).alloc (Nat.le_refl _) _).alloc (by simp) _
  have hd1 : ((m : Int) == (n : Int)) = false := by simp; omega
  have hd2 : decide ((m : Int) ≤ (k : Int)) = false := by simp; omega
  have H1 := Lib.hid (heap2_old w (.cells (hashArr Tree.zero) 24) (.cells (hashArr Tree.zero) 24))
  have H2 := Lib.hid (heap2_new w (.cells (hashArr Tree.zero) 24) (.cells (hashArr Tree.zero) 24))
  have hg0 := (hb.kept (Kept.of_below b0)).g
  have ch := fun W => half_any n W (by omega) (by omega)
  rw [hk] at ch
  have CH := Lib.hid ch
  have CW := Lib.hid (CA _ (hv.mono b0) (hb.kept (Kept.of_below b0)))
  have CT := Lib.hid (fun W (hW : Vars w0 U E P ru re vp W) => take2_any w0 U E P ru re vp hs W hp lru hW)
  have lta := take_length hs ru re hp.1 lru
  generalize Tree.takeH hs (ru, re) = y at *
  obtain ⟨ta, tu, te⟩ := y
  have LTA : Hid (ta.length = 32) := lta
  have LA1 := Lib.hid la1
  have LA2 := Lib.hid la2
  have HV := Lib.hid hv
  have HB := Lib.hid hb
  have B0 := Lib.hid b0
  have LZ0 := Lib.hid zero_length
  have HT0 := Lib.hid hT0
  have q7 : IntKind.i64.wrap ((m : Int) - (k : Int)) = (m : Int) - (k : Int) := IntWalk.i64_in _ (by omega)
  have q8 : IntKind.i64.wrap ((n : Int) - (k : Int)) = (n : Int) - (k : Int) := IntWalk.i64_in _ (by omega)
  rw [show ((m - k : Nat) : Int) = (m : Int) - (k : Int) by omega, show ((n - k : Nat) : Int) = (n : Int) - (k : Int) by omega] at CW
  clear hv hb b0 lta hp lru CA ch hk hT0 la1 la2
  go_enter Tryd.func60, Tryd.ntmps60
  go_wp2_with fail
  with_reducible refine (CH.out _).mono ?_
  rintro e w' ⟨rfl, rfl⟩
  go_wp2_with fail
  with_reducible refine CW.out.mono ?_
  rintro ed w1 ⟨rfl, hkw1, hv1⟩
  have hne : w.heap.size ≠ U ∧ w.heap.size ≠ E ∧ w.heap.size + 1 ≠ U ∧ w.heap.size + 1 ≠ E := by
    have l1 := lt_of_block HV.out.atU
    have l2 := lt_of_block HV.out.atE
    omega
  have HNE := Lib.hid hne
  have R1 := Lib.hid (hkw1.heap H1.out hne.1 hne.2.1)
  have R2 := Lib.hid (hkw1.heap H2.out hne.2.2.1 hne.2.2.2)
  have R3 := Lib.hid ((setRow_other w1 w.heap.size (w.heap.size + 1) (hashArr a1) (by omega)).trans R2.out)
  have KW := Lib.hid ((((Kept.of_below B0.out).trans hkw1).setRow (Nat.le_refl _) (hashArr a1)).setRow (g := w.heap.size + 1) (by omega) (hashArr a2))
  have VW : Hid (Vars w0 U E P ru re vp ((w1.setRow w.heap.size (hashArr a1)).setRow (w.heap.size + 1) (hashArr a2))) := by
    have l1 := lt_of_block HV.out.atU
    have l2 := lt_of_block HV.out.atE
    have l3 := lt_of_block HV.out.atP
    have l4 := HV.out.below.size
    exact (hv1.setRow (by omega) (by omega) (by omega) (by omega) _).setRow (by omega) (by omega) (by omega) (by omega) _
  have hk2 := (HB.out.kept KW.out).k
  have hr2 := pair_rows (hashArr a1) (hashArr a2) R1.out R2.out (by omega)
  have S1 := Lib.hid hr2.1
  have S2 := Lib.hid hr2.2
  clear hkw1 hv1 hne hr2 H1 H2 B0
  go_wp2_with (first
    | ((with_reducible refine op_is ⟨none, .store 24 (.tmp 9) (.tmp 51), _, _, _, _⟩ ?_); refine wpList_store_row rfl 24 (.tmp 9) (.tmp 51) rfl w.heap.size (hashArr a1) rfl rfl 24 _ R1.out (hash_info _ LA1.out) (by rw [hashArr_size, hashArr_size, LA1.out, LZ0.out]) (hashArr_one _) ?_)
    | ((with_reducible refine op_is ⟨none, .store 24 (.tmp 10) (.tmp 52), _, _, _, _⟩ ?_); refine wpList_store_row rfl 24 (.tmp 10) (.tmp 52) rfl (w.heap.size + 1) (hashArr a2) rfl rfl 24 _ R3.out (hash_info _ LA2.out) (by rw [hashArr_size, hashArr_size, LA2.out, LZ0.out]) (hashArr_one _) ?_))
  clear R1 R2 R3
  generalize (w1.setRow w.heap.size (hashArr a1)).setRow (w.heap.size + 1) (hashArr a2) = W2 at *
  with_reducible refine (CT.out _ VW.out).mono ?_
  rintro ed w3 ⟨rfl, hkw3, hv3⟩
  have LZ : Hid ((hashArr Tree.zero).size = 32) := by show _ = _; rw [hashArr_size]; exact zero_length
  go_wp2_with ((with_reducible refine op_is ⟨none, .store 24 (.tmp 13) (.tmp 54), _, _, _, _⟩ ?_); refine store_hash LTA.out LZ.out (.tmp 13) (.tmp 54) rfl rfl rfl rfl rfl ?_)
  have bw : Below w3.heap.size w3 (w3.alloc (.cells (hashArr ta) 24)) := (Below.refl _ _).alloc (Nat.le_refl _) _
  have hX : w.heap.size + 1 < w3.heap.size := by have := lt_of_block (hkw3.heap S2.out HNE.out.2.2.1 HNE.out.2.2.2); omega
  have FA : Hid (Far w0 w U E P w3.heap.size) := ⟨lt_of_block HV.out.atU, lt_of_block HV.out.atE, lt_of_block HV.out.atP, HV.out.below.size, hX⟩
  have c0 : Hid (Cur w0 w U E P tu te vp w3.heap.size a2 ta (w3.alloc (.cells (hashArr ta) 24)) a1) :=
    ⟨(KW.out.trans hkw3).trans (Kept.of_below bw), hv3.mono bw, heap_below (hkw3.heap S1.out HNE.out.1 HNE.out.2.1) bw, heap_below (hkw3.heap S2.out HNE.out.2.2.1 HNE.out.2.2.2) bw, heap_alloc_new w3 _⟩
  clear bw hkw3 hv3 S1 S2 KW VW hX
  generalize w3.alloc (.cells (hashArr ta) 24) = W at *
  have CN1 := Lib.hid (fun (V : World) (g : Below w0.heap.size w0 V) => node_any ta a1 _ LTA.out LA1.out V (HT0.out.below g) rfl)
  have CN2 := Lib.hid (fun (V : World) (g : Below w0.heap.size w0 V) => node_any ta a2 _ LTA.out LA2.out V (HT0.out.below g) rfl)
  have LN1 := Lib.hid (Tree.node_length ta a1)
  have LN2 := Lib.hid (Tree.node_length ta a2)
  generalize Tree.node ta a1 = n1 at *
  generalize Tree.node ta a2 = n2 at *
  have c1 := Lib.hid (c0.out.below (Below.refl W.heap.size W).drew)
  have f1 := isHashAt LA1.out c1.out.b1
  have f2 := hashOf_at c1.out.b1
  have f3 := isHashAt LA2.out c1.out.b2
  have f4 := hashOf_at c1.out.b2
  have f5 := isHashAt LTA.out c1.out.x
  have f6 := hashOf_at c1.out.x
  have hn1 := isHash LN1.out
  have hn2 := isHash LN2.out
  have hbk1 := blockOf_at w.heap.size
  have hbk2 := blockOf_at (w.heap.size + 1)
  clear c0
  go_region_law (first
    | (go_simp; go_at_call 18; (with_reducible refine (CN1.out _ (Hid.out (by assumption : Hid (Cur w0 w U E P tu te vp w3.heap.size a2 ta _ a1))).vars.below).mono ?_); rintro ed wn ⟨rfl, hbn⟩; have cn := Lib.hid (Cur.below (Hid.out (by assumption)) hbn); have g3 := isHashAt LA2.out cn.out.b2; have g4 := hashOf_at cn.out.b2; have g5 := isHashAt LTA.out cn.out.x; have g6 := hashOf_at cn.out.x; have cs := Lib.hid (cn.out.set FA.out n1); have g7 := isHashAt LA2.out cs.out.b2; have g8 := hashOf_at cs.out.b2; have g9 := isHashAt LTA.out cs.out.x; have g0 := hashOf_at cs.out.x; have g1 := isHashAt LA1.out cn.out.b1; have g2 := hashOf_at cn.out.b1)
    | (go_simp; go_at_call 18; (with_reducible refine (CN2.out _ (Hid.out (by assumption : Hid (Cur w0 w U E P tu te vp w3.heap.size a2 ta _ _))).vars.below).mono ?_); rintro ed wn ⟨rfl, hbn⟩; have cn := Lib.hid (Cur.below (Hid.out (by assumption)) hbn); have g3 := isHashAt LA2.out cn.out.b2; have g4 := hashOf_at cn.out.b2; have g5 := isHashAt LTA.out cn.out.x; have g6 := hashOf_at cn.out.x; have cs := Lib.hid (cn.out.set FA.out n1); have g7 := isHashAt LA2.out cs.out.b2; have g8 := hashOf_at cs.out.b2; have g9 := isHashAt LTA.out cs.out.x; have g0 := hashOf_at cs.out.x; (try have g1 := isHashAt LA1.out cn.out.b1); (try have g1 := isHashAt LN1.out cn.out.b1); have g2 := hashOf_at cn.out.b1))
  all_goals
    go_wp2_with fail
    refine bodyPost_ret (v := .tuple #[.agg (hashArr n1), .agg (hashArr n2)]) (results_two Tryd.results60 _ _ w.heap.size (w.heap.size + 1) n1 n2 rfl rfl LN1.out LN2.out ((setRow_other _ _ _ _ (by omega)).trans (Cur.b1 (Hid.out (by assumption)))) (setRow_heap _ _ _ _ _ _ (Cur.b2 (Hid.out (by assumption))))) rfl ?_
    exact Cur.last (Hid.out (by assumption)) FA.out
end Go.Proofs.YtjedhmoehepbnaaDoor
