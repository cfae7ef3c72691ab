/- The contracts of CheckGrowth's first closure, and of the ends of its second one. -/
import Derived.Test.YtjedhmoehepbnaaDoorTreeCheckWalk
namespace Go.Proofs.YtjedhmoehepbnaaDoor
open Go.RowKit Go.Sort
set_option linter.unusedVariables false
section
attribute [local go_sem ↓] wp_alloc_hash wp_build_zero
set_option maxHeartbeats 2000000 in
set_option maxRecDepth 100000 in
/-- no hash is left -/
theorem take2_none (w0 : World) (U E P n c : Nat) (e : Bool) (a : Option Addr) (w : World) (hv : Vars w0 U E P n e (.slice a n c) w) :
    Calls Tryd.prog 59 #[.pointer (some ⟨U, 0, none⟩), .pointer (some ⟨P, 0, none⟩), .pointer (some ⟨E, 0, none⟩)] w fun ed w' => ed = .returned (.agg (hashArr Tree.zero)) ∧ Kept U E w w' ∧ Vars w0 U E P n false (.slice a n c) w' := by
  have b0 : Below w.heap.size w (w.alloc (.cells (hashArr Tree.zero) 24)) := (Below.refl _ _).alloc (Nat.le_refl _) _
  have hv1 := hv.mono b0
  have hU := cell_of_one hv1.atU
  have hE := cell_of_one hv1.atE
  have fE := free_of_one hv1.atE
  have hP := cell_of_one hv1.atP
  have hn : ((n : Int) == (n : Int)) = true := by simp
  have HV := Lib.hid hv
  have KV := Lib.hid ((Kept.of_below (U := U) (E := E) b0).setCellE (.bool false))
  have HV2 := Lib.hid (hv1.setE false)
  have hne : w.heap.size ≠ E := by have := lt_of_block hv.atE; omega
  have BR : Hid (((w.alloc (.cells (hashArr Tree.zero) 24)).setCell ⟨E, 0, none⟩ (.bool false)).heap[w.heap.size]? = some (.cells (hashArr Tree.zero) 24 (0, 0))) := by
    show _ = _
    rw [Below.heap_setCell _ _ _ _ hne]; exact heap_alloc_new _ _
  have LZ := Lib.hid zero_length
  clear hv hv1 b0
  go_enter Tryd.func59, Tryd.ntmps59
  go_wp2_with (refine wpList_store_row rfl 24 (.tmp 3) (.tmp 8) rfl w.heap.size (hashArr Tree.zero) rfl rfl 24 _ BR.out (hash_info _ LZ.out) rfl (hashArr_one _) ?_)
  have l1 := lt_of_block HV.out.atU
  have l2 := lt_of_block HV.out.atE
  have l3 := lt_of_block HV.out.atP
  refine bodyPost_ret (v := .agg (hashArr Tree.zero)) (results_cell_row Tryd.results59 _ _ w.heap.size 24 (hashArr Tree.zero) (0, 0) _ rfl (setRow_heap _ _ _ _ _ _ BR.out) Tryd.underlying24 rfl (hash_info _ LZ.out)) rfl ⟨rfl, KV.out.setRow (Nat.le_refl _) _, HV2.out.setRow HV.out.below.size (by omega) (by omega) (by omega) _⟩
set_option maxHeartbeats 2000000 in
set_option maxRecDepth 100000 in
/-- the next hash -/
theorem take2_some (w0 : World) (U E P n c u b o : Nat) (e : Bool) (hs : List Tree.H) (h : Tree.H) (w : World) (hv : Vars w0 U E P u e (.slice (some ⟨b, o, none⟩) n c) w) (hu : u < n) (hl : hs.length = n) (hc : c ≤ 9223372036854775807) (hnc : n ≤ c) (ha : HAt w0 b o hs) (he : Each hs) (hh : hs.getD u [] = h) :
    Calls Tryd.prog 59 #[.pointer (some ⟨U, 0, none⟩), .pointer (some ⟨P, 0, none⟩), .pointer (some ⟨E, 0, none⟩)] w fun ed w' => ed = .returned (.agg (hashArr h)) ∧ Kept U E w w' ∧ Vars w0 U E P (u + 1) e (.slice (some ⟨b, o, none⟩) n c) w' := by
  have b0 : Below w.heap.size w (w.alloc (.cells (hashArr Tree.zero) 24)) := (Below.refl _ _).alloc (Nat.le_refl _) _
  have hv1 := hv.mono b0
  have hU := cell_of_one hv1.atU
  have fU := free_of_one hv1.atU
  have hP := cell_of_one hv1.atP
  have hv2 := hv1.setU (u + 1) ((u : Int) + 1) (by omega)
  have hU2 : ((w.alloc (.cells (hashArr Tree.zero) 24)).setCell ⟨U, 0, none⟩ (.int .i64 ((u : Int) + 1))).cell? ⟨U, 0, none⟩ = some (.int .i64 ((u : Int) + 1)) := (cell_of_one hv2.atU).trans (by rw [Int.natCast_add]; rfl)
  have hP2 := cell_of_one hv2.atP
  have hn : ((u : Int) == (n : Int)) = false := by simp; omega
  have hw1 : IntKind.i64.wrap ((u : Int) + 1) = (u : Int) + 1 := IntWalk.i64_in _ (by omega)
  have hw2 : IntKind.i64.wrap (u : Int) = (u : Int) := IntWalk.i64_in _ (by omega)
  have q1 : (0 : Int) ≤ (u : Int) := by omega
  have q2 : (u : Int) < (n : Int) := by omega
  have q3 : (u : Int).toNat = u := by omega
  have LH : Hid (h.length = 32) := by show _ = _; rw [← hh]; exact he.getD u (by omega)
  have HV := Lib.hid hv
  have KV := Lib.hid ((Kept.of_below (U := U) (E := E) b0).setCellU (.int .i64 ((u : Int) + 1)))
  have HV2 := Lib.hid hv2
  have hne : w.heap.size ≠ U := by have := lt_of_block hv.atU; omega
  have BR : Hid (((w.alloc (.cells (hashArr Tree.zero) 24)).setCell ⟨U, 0, none⟩ (.int .i64 ((u : Int) + 1))).heap[w.heap.size]? = some (.cells (hashArr Tree.zero) 24 (0, 0))) := by
    show _ = _
    rw [Below.heap_setCell _ _ _ _ hne]; exact heap_alloc_new _ _
  have LZ := Lib.hid zero_length
  have LO := Lib.hid (ha.below hv2.below u (by omega))
  rw [hh] at LO
  have LI : Hid ((Tryd.prog.info? 24).map (·.size) = some (hashArr h).toList.length) := by
    show _ = _
    have := hash_info h LH.out; rw [Array.length_toList]; exact this
  clear hv hv1 hv2 b0 ha he hh
  go_enter Tryd.func59, Tryd.ntmps59
  go_wp2_with (first
    | ((with_reducible refine op_is ⟨some 15, .load 24 (.tmp 14), _, _, _, _⟩ ?_); refine wpList_load_mid rfl 24 (.tmp 14) rfl b (o + u * 32) rfl (hashArr h).toList _ LO.out Tryd.underlying24 rfl LI.out ?_; rw [Array.toArray_toList])
    | ((with_reducible refine op_is ⟨none, .store 24 (.tmp 3) (.tmp 15), _, _, _, _⟩ ?_); refine wpList_store_row rfl 24 (.tmp 3) (.tmp 15) rfl w.heap.size (hashArr h) rfl rfl 24 _ BR.out (hash_info _ LH.out) (by rw [hashArr_size, hashArr_size, LH.out, LZ.out]) (hashArr_one _) ?_))
  have l1 := lt_of_block HV.out.atU
  have l2 := lt_of_block HV.out.atE
  have l3 := lt_of_block HV.out.atP
  refine bodyPost_ret (v := .agg (hashArr h)) (results_cell_row Tryd.results59 _ _ w.heap.size 24 (hashArr h) (0, 0) _ rfl (setRow_heap _ _ _ _ _ _ BR.out) Tryd.underlying24 rfl (hash_info _ LH.out)) rfl ⟨rfl, KV.out.setRow (Nat.le_refl _) _, HV2.out.setRow HV.out.below.size (by omega) (by omega) (by omega) _⟩
theorem take2_any (w0 : World) (U E P u : Nat) (e : Bool) (vp : Value) (hs : List Tree.H) (w : World) (hp : IsHs w0 vp hs) (hu : u ≤ hs.length) (hv : Vars w0 U E P u e vp w) :
    Calls Tryd.prog 59 #[.pointer (some ⟨U, 0, none⟩), .pointer (some ⟨P, 0, none⟩), .pointer (some ⟨E, 0, none⟩)] w (Takes w0 U E P vp (Tree.takeH hs (u, e)) w) := by
  obtain ⟨he, ⟨rfl, a, c, rfl, _⟩ | ⟨b, o, c, rfl, h1, hc, hcm, ha⟩⟩ := hp
  · obtain rfl : u = 0 := by simpa using hu
    exact take2_none w0 U E P 0 c e a w hv
  · by_cases hul : u = hs.length
    · subst hul
      have er : Tree.takeH hs (hs.length, e) = (Tree.zero, hs.length, false) := by simp [Tree.takeH]
      rw [er]
      exact take2_none w0 U E P hs.length c e _ w hv
    · have er : Tree.takeH hs (u, e) = (hs.getD u [], u + 1, e) := by simp [Tree.takeH, hul]
      rw [er]
      exact take2_some w0 U E P hs.length c u b o e hs _ w hv (by omega) rfl hcm hc ha he rfl
end
section
/-- two results, each a hash in memory -/
theorem results_two {fn : Func} {p q : Tmp} (h : fn.results = #[.cell p 24, .cell q 24]) (tmps : Array Value) (w : World) (g1 g2 : Nat) (x y : Tree.H)
    (hp : tmps.getD p undef = .pointer (some ⟨g1, 0, none⟩)) (hq : tmps.getD q undef = .pointer (some ⟨g2, 0, none⟩)) (lx : x.length = 32) (ly : y.length = 32) (h1 : w.heap[g1]? = some (.cells (hashArr x) 24 (0, 0))) (h2 : w.heap[g2]? = some (.cells (hashArr y) 24 (0, 0))) :
    (results fn tmps).run Tryd.prog w = .ok (.tuple #[.agg (hashArr x), .agg (hashArr y)]) w := by
  have hp' : tmps[p]?.getD undef = .pointer (some ⟨g1, 0, none⟩) := by simpa using hp
  have hq' : tmps[q]?.getD undef = .pointer (some ⟨g2, 0, none⟩) := by simpa using hq
  simp [results, h, hp', hq', asAddr, load_hash lx h1, load_hash ly h2]
/-- what a call of the second closure gives -/
def Takes2 (w0 : World) (U E P : Nat) (vp : Value) (r : (Tree.H × Tree.H) × Nat × Bool) (w : World) (ed : Ending) (w' : World) : Prop :=
  ed = .returned (.tuple #[.agg (hashArr r.1.1), .agg (hashArr r.1.2)]) ∧ Kept U E w w' ∧ Vars w0 U E P r.2.1 r.2.2 vp w'
/-- the boxes of the root and of the two closures -/
structure GBoxes (w0 : World) (U E P R G K : Nat) (old : Tree.H) (w : World) : Prop where
  r : w.heap[R]? = some (.cells (hashArr old) 24 (0, 0))
  g : w.cell? ⟨G, 0, none⟩ = some (.func (.func 60) #[] #[.pointer (some ⟨R, 0, none⟩), .pointer (some ⟨K, 0, none⟩), .pointer (some ⟨G, 0, none⟩)])
  k : w.cell? ⟨K, 0, none⟩ = some (.func (.func 59) #[] #[.pointer (some ⟨U, 0, none⟩), .pointer (some ⟨P, 0, none⟩), .pointer (some ⟨E, 0, none⟩)])
  ru : R ≠ U ∧ R ≠ E
  gu : G ≠ U ∧ G ≠ E
  ku : K ≠ U ∧ K ≠ E
theorem GBoxes.kept {w0 : World} {U E P R G K : Nat} {old : Tree.H} {w w' : World} (h : GBoxes w0 U E P R G K old w) (k : Kept U E w w') : GBoxes w0 U E P R G K old w' :=
  ⟨k.heap h.r h.ru.1 h.ru.2, k.cell h.g h.gu.1 h.gu.2, k.cell h.k h.ku.1 h.ku.2, h.ru, h.gu, h.ku⟩
theorem gleaf_le (hs : List Tree.H) (old : Tree.H) (b : Bool) (u : Nat) (e : Bool) (hu : u ≤ hs.length) : (Tree.gleaf old hs b (u, e)).2.1 ≤ hs.length := by
  unfold Tree.gleaf
  split
  · exact hu
  · exact take_le hs u e hu
theorem gwalk_le : ∀ (f : Nat) (old : Tree.H) (hs : List Tree.H) (m n : Nat) (b : Bool) (u : Nat) (e : Bool), u ≤ hs.length → (Tree.gwalk f old hs m n b (u, e)).2.1 ≤ hs.length
  | 0, old, hs, m, n, b, u, e, h => gleaf_le hs old b u e h
  | f + 1, old, hs, m, n, b, u, e, h => by
    rw [Tree.gwalk]
    split
    · exact gleaf_le hs old b u e h
    · split
      · exact take_le hs _ _ (gwalk_le f old hs _ _ _ u e h)
      · exact take_le hs _ _ (gwalk_le f old hs _ _ _ u e h)
theorem gleaf_length (hs : List Tree.H) (old : Tree.H) (b : Bool) (u : Nat) (e : Bool) (he : Each hs) (ho : old.length = 32) (hu : u ≤ hs.length) : (Tree.gleaf old hs b (u, e)).1.1.length = 32 ∧ (Tree.gleaf old hs b (u, e)).1.2.length = 32 := by
  unfold Tree.gleaf
  split
  · exact ⟨ho, ho⟩
  · exact ⟨take_length hs u e he hu, take_length hs u e he hu⟩
theorem gwalk_length : ∀ (f : Nat) (old : Tree.H) (hs : List Tree.H) (m n : Nat) (b : Bool) (u : Nat) (e : Bool), Each hs → old.length = 32 → u ≤ hs.length → (Tree.gwalk f old hs m n b (u, e)).1.1.length = 32 ∧ (Tree.gwalk f old hs m n b (u, e)).1.2.length = 32
  | 0, old, hs, m, n, b, u, e, he, ho, h => gleaf_length hs old b u e he ho h
  | f + 1, old, hs, m, n, b, u, e, he, ho, h => by
    rw [Tree.gwalk]
    split
    · exact gleaf_length hs old b u e he ho h
    · split
      · exact ⟨(gwalk_length f old hs _ _ _ u e he ho h).1, Tree.node_length _ _⟩
      · exact ⟨Tree.node_length _ _, Tree.node_length _ _⟩
theorem heap2_new (w : World) (a b : Obj) : ((w.alloc a).alloc b).heap[w.heap.size + 1]? = some b := by
  have := heap_alloc_new (w.alloc a) b; rwa [World.size_alloc] at this
theorem heap2_old (w : World) (a b : Obj) : ((w.alloc a).alloc b).heap[w.heap.size]? = some a := by
  rw [heap_alloc_old _ _ (by simp)]; exact heap_alloc_new w a
theorem pair_rows {W : World} {g1 g2 : Nat} {o1 o2 : Array Value} {t : TypeId} {fr : Nat × Nat} (x y : Array Value) (h1 : W.heap[g1]? = some (.cells o1 t fr)) (h2 : W.heap[g2]? = some (.cells o2 t fr)) (hne : g1 ≠ g2) :
    ((W.setRow g1 x).setRow g2 y).heap[g1]? = some (.cells x t fr) ∧ ((W.setRow g1 x).setRow g2 y).heap[g2]? = some (.cells y t fr) :=
  ⟨(setRow_other _ _ _ _ hne).trans (setRow_heap _ _ _ _ _ _ h1), setRow_heap _ _ _ _ _ _ ((setRow_other _ _ _ _ (Ne.symm hne)).trans h2)⟩
/-- the end of the second closure: both results are stored -/
theorem gwalk_end {w0 w W : World} {U E P u : Nat} {e : Bool} {vp : Value} {x y : Tree.H} (k0 : Kept U E w W) (hv : Vars w0 U E P u e vp W) (hU : U < w.heap.size) (hE : E < w.heap.size) (hP : P < w.heap.size) (hw0 : w0.heap.size ≤ w.heap.size) :
    Takes2 w0 U E P vp ((x, y), u, e) w (.returned (.tuple #[.agg (hashArr x), .agg (hashArr y)])) ((W.setRow w.heap.size (hashArr x)).setRow (w.heap.size + 1) (hashArr y)) :=
  ⟨rfl, (k0.setRow (Nat.le_refl _) _).setRow (by omega) _, (hv.setRow hw0 (by omega) (by omega) (by omega) _).setRow (by omega) (by omega) (by omega) (by omega) _⟩
attribute [local go_sem ↓] wp_alloc_hash Go.wp_at_zero Go.wp_at_succ wp_load_at wp_store_at
set_option maxHeartbeats 2000000 in
set_option maxRecDepth 100000 in
/-- the older list itself -/
theorem gwalk1_whole (w0 : World) (U E P R G K u n : Nat) (e : Bool) (vp : Value) (old : Tree.H) (w : World) (lo : old.length = 32) (hv : Vars w0 U E P u e vp w) (hb : GBoxes w0 U E P R G K old w) :
    Calls Tryd.prog 60 #[.int .i64 (n : Int), .int .i64 (n : Int), .bool true, .pointer (some ⟨R, 0, none⟩), .pointer (some ⟨K, 0, none⟩), .pointer (some ⟨G, 0, none⟩)] w (Takes2 w0 U E P vp ((old, old), u, e) w) := by
  have b0 : Below w.heap.size w ((w.alloc (.cells (hashArr Tree.zero) 24)).alloc (.cells (hashArr Tree.zero) 24)) := ((Below.refl _ _).alloc (Nat.le_refl _) _).alloc (by simp) _
  have hd1 : ((n : Int) == (n : Int)) = true := by simp
  have H1 := Lib.hid (heap2_old w (.cells (hashArr Tree.zero) 24) (.cells (hashArr Tree.zero) 24))
  have H2 := Lib.hid (heap2_new w (.cells (hashArr Tree.zero) 24) (.cells (hashArr Tree.zero) 24))
  have HR := Lib.hid (heap_below hb.r b0)
  have hRs : R < w.heap.size := lt_of_block hb.r
  have HV := Lib.hid hv
  have B0 := Lib.hid b0
  have LO := Lib.hid lo
  clear hv hb b0 lo
  go_enter Tryd.func60, Tryd.ntmps60
  go_wp2_with fail
  generalize (w.alloc (.cells (hashArr Tree.zero) 24)).alloc (.cells (hashArr Tree.zero) 24) = W at *
  have dr := (Below.refl W.heap.size W).drew
  have hne : R ≠ w.heap.size := by omega
  have r0 := heap_below HR.out dr
  have r1 := heap_below H1.out dr
  have r2 := heap_below H2.out dr
  have hl0 := isHashAt LO.out r0
  have ho0 := hashOf_at r0
  have hl1 := isHashAt zero_length r1
  have hl2 := isHashAt zero_length r2
  have r3 := (setRow_other W.drew w.heap.size R (hashArr old) hne).trans r0
  have r4 := (setRow_other W.drew w.heap.size (w.heap.size + 1) (hashArr old) (by omega)).trans r2
  have hl3 := isHashAt LO.out r3
  have ho3 := hashOf_at r3
  have hl4 := isHashAt zero_length r4
  have hn0 := isHash LO.out
  have hbk1 := blockOf_at w.heap.size
  have hbk2 := blockOf_at (w.heap.size + 1)
  have BQ := Lib.hid (below_join B0.out dr)
  have hr := pair_rows (hashArr old) (hashArr old) r1 r2 (by omega)
  have S1 := Lib.hid hr.1
  have S2 := Lib.hid hr.2
  clear dr r0 r1 r2 r3 r4 hr
  go_region_law (fail)
  all_goals
    go_wp2_with fail
    refine bodyPost_ret (v := .tuple #[.agg (hashArr old), .agg (hashArr old)]) (results_two Tryd.results60 _ _ w.heap.size (w.heap.size + 1) old old rfl rfl LO.out LO.out S1.out S2.out) rfl ?_
    exact gwalk_end (Kept.of_below BQ.out) (HV.out.mono BQ.out) (lt_of_block HV.out.atU) (lt_of_block HV.out.atE) (lt_of_block HV.out.atP) HV.out.below.size
end
section
attribute [local go_sem ↓] wp_alloc_hash Go.wp_at_zero Go.wp_at_succ wp_load_at wp_store_at

set_option maxHeartbeats 2000000 in
set_option maxRecDepth 100000 in
/-- the hash of a part that both lists have -/
theorem gwalk1_take (w0 : World) (U E P R G K u n : Nat) (e : Bool) (vp : Value) (hs : List Tree.H) (old : Tree.H) (w : World) (hp : IsHs w0 vp hs) (hu : u ≤ hs.length) (hv : Vars w0 U E P u e vp w) (hb : GBoxes w0 U E P R G K old w) :
    Calls Tryd.prog 60 #[.int .i64 (n : Int), .int .i64 (n : Int), .bool false, .pointer (some ⟨R, 0, none⟩), .pointer (some ⟨K, 0, none⟩), .pointer (some ⟨G, 0, none⟩)] w (Takes2 w0 U E P vp (((Tree.takeH hs (u, e)).1, (Tree.takeH hs (u, e)).1), (Tree.takeH hs (u, e)).2) w) := by
  have b0 : Below w.heap.size w ((w.alloc (.cells (hashArr Tree.zero) 24)).alloc (.cells (hashArr Tree.zero) 24)) := ((Below.refl _ _).alloc (Nat.le_refl _) _).alloc (by simp) _
  have hd1 : ((n : Int) == (n : Int)) = true := by simp
  have H1 := Lib.hid (heap2_old w (.cells (hashArr Tree.zero) 24) (.cells (hashArr Tree.zero) 24))
  have H2 := Lib.hid (heap2_new w (.cells (hashArr Tree.zero) 24) (.cells (hashArr Tree.zero) 24))
  have hk0 := (hb.kept (Kept.of_below b0)).k
  have CT := Lib.hid (take2_any w0 U E P u e vp hs _ hp hu (hv.mono b0))
  have lta := take_length hs u e hp.1 hu
  generalize Tree.takeH hs (u, e) = y at *
  obtain ⟨ta, tu, te⟩ := y
  have LTA : Hid (ta.length = 32) := lta
  have HV := Lib.hid hv
  have B0 := Lib.hid b0
  have LZ0 := Lib.hid zero_length
  clear hv hb b0 lta hp hu
  go_enter Tryd.func60, Tryd.ntmps60
  go_wp2_with fail
  with_reducible refine CT.out.mono ?_
  rintro ed w1 ⟨rfl, hkw1, hv1⟩
  have LZ : Hid ((hashArr Tree.zero).size = 32) := by show _ = _; rw [hashArr_size]; exact zero_length
  go_wp2_with ((with_reducible refine op_is ⟨none, .store 24 (.tmp 11) (.tmp 21), _, _, _, _⟩ ?_); refine store_hash LTA.out LZ.out (.tmp 11) (.tmp 21) rfl rfl rfl rfl rfl ?_)
  have bw : Below w1.heap.size w1 (w1.alloc (.cells (hashArr ta) 24)) := (Below.refl _ _).alloc (Nat.le_refl _) _
  have hne : w.heap.size ≠ U ∧ w.heap.size ≠ E ∧ w.heap.size + 1 ≠ U ∧ w.heap.size + 1 ≠ E := by
    have l1 := lt_of_block HV.out.atU
    have l2 := lt_of_block HV.out.atE
    omega
  have R1 := Lib.hid (heap_below (hkw1.heap H1.out hne.1 hne.2.1) bw)
  have R2 := Lib.hid (heap_below (hkw1.heap H2.out hne.2.2.1 hne.2.2.2) bw)
  have HRT := Lib.hid (heap_alloc_new w1 (.cells (hashArr ta) 24))
  have HNE : Hid (w1.heap.size ≠ w.heap.size) := by show _ ≠ _; have := hkw1.size; simp at this; omega
  have KW := Lib.hid (((Kept.of_below B0.out).trans hkw1).trans (Kept.of_below bw))
  have VW := Lib.hid (hv1.mono bw)
  clear hne bw hkw1 hv1 H1 H2 B0
  generalize w1.alloc (.cells (hashArr ta) 24) = W at *
  have dr := (Below.refl W.heap.size W).drew
  have r0 := heap_below HRT.out dr
  have r1 := heap_below R1.out dr
  have r2 := heap_below R2.out dr
  have hl0 := isHashAt LTA.out r0
  have ho0 := hashOf_at r0
  have hl1 := isHashAt zero_length r1
  have hl2 := isHashAt zero_length r2
  have r3 := (setRow_other W.drew w.heap.size w1.heap.size (hashArr ta) HNE.out).trans r0
  have r4 := (setRow_other W.drew w.heap.size (w.heap.size + 1) (hashArr ta) (by omega)).trans r2
  have hl3 := isHashAt LTA.out r3
  have ho3 := hashOf_at r3
  have hl4 := isHashAt zero_length r4
  have hn0 := isHash LTA.out
  have hbk1 := blockOf_at w.heap.size
  have hbk2 := blockOf_at (w.heap.size + 1)
  have KQ := Lib.hid (KW.out.trans (Kept.of_below dr))
  have VQ := Lib.hid (VW.out.mono dr)
  have hr := pair_rows (hashArr ta) (hashArr ta) r1 r2 (by omega)
  have S1 := Lib.hid hr.1
  have S2 := Lib.hid hr.2
  clear dr r0 r1 r2 r3 r4 hr
  go_region_law (fail)
  all_goals
    go_wp2_with fail
    refine bodyPost_ret (v := .tuple #[.agg (hashArr ta), .agg (hashArr ta)]) (results_two Tryd.results60 _ _ w.heap.size (w.heap.size + 1) ta ta rfl rfl LTA.out LTA.out S1.out S2.out) rfl ?_
    exact gwalk_end KQ.out VQ.out (lt_of_block HV.out.atU) (lt_of_block HV.out.atE) (lt_of_block HV.out.atP) HV.out.below.size
theorem gwalk1_leaf (w0 : World) (U E P R G K u n : Nat) (b e : Bool) (vp : Value) (hs : List Tree.H) (old : Tree.H) (w : World) (hp : IsHs w0 vp hs) (hu : u ≤ hs.length) (lo : old.length = 32) (hv : Vars w0 U E P u e vp w) (hb : GBoxes w0 U E P R G K old w) :
    Calls Tryd.prog 60 #[.int .i64 (n : Int), .int .i64 (n : Int), .bool b, .pointer (some ⟨R, 0, none⟩), .pointer (some ⟨K, 0, none⟩), .pointer (some ⟨G, 0, none⟩)] w (Takes2 w0 U E P vp (Tree.gleaf old hs b (u, e)) w) := by
  cases b with
  | false => exact gwalk1_take w0 U E P R G K u n e vp hs old w hp hu hv hb
  | true => exact gwalk1_whole w0 U E P R G K u n e vp old w lo hv hb
end
end Go.Proofs.YtjedhmoehepbnaaDoor
