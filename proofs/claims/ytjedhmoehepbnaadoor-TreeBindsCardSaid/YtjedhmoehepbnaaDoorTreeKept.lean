/- Memory of which two blocks alone may turn, and the contract of CheckPath's first closure. -/
import Derived.Test.YtjedhmoehepbnaaDoorTreeStrings
import Derived.OneCell
namespace Go.Proofs.YtjedhmoehepbnaaDoor
open Go.RowKit Go.Sort
set_option linter.unusedVariables false

/-- of what was there only the blocks U and E may have turned -/
structure Kept (U E : Nat) (w w' : World) : Prop where
  os : w'.os = w.os
  tape : w'.tape = w.tape
  output : w'.output = w.output
  size : w.heap.size ≤ w'.heap.size
  block : ∀ k, k < w.heap.size → k ≠ U → k ≠ E → w'.heap[k]? = w.heap[k]?
theorem Kept.refl (U E : Nat) (w : World) : Kept U E w w := ⟨rfl, rfl, rfl, Nat.le_refl _, fun _ _ _ _ => rfl⟩
theorem Kept.trans {U E : Nat} {a b c : World} (h : Kept U E a b) (k : Kept U E b c) : Kept U E a c :=
  ⟨k.os.trans h.os, k.tape.trans h.tape, k.output.trans h.output, Nat.le_trans h.size k.size, fun i hi h1 h2 => (k.block i (Nat.lt_of_lt_of_le hi h.size) h1 h2).trans (h.block i hi h1 h2)⟩
theorem Kept.of_below {U E : Nat} {w w' : World} (h : Below w.heap.size w w') : Kept U E w w' := ⟨h.os, h.tape, h.output, h.size, fun k hk _ _ => h.block k hk⟩
theorem Kept.below {U E B : Nat} {w w' : World} (h : Kept U E w w') (hB : B ≤ w.heap.size) (hU : B ≤ U) (hE : B ≤ E) : Below B w w' := ⟨h.os, h.tape, h.output, h.size, fun k hk => h.block k (by omega) (by omega) (by omega)⟩
theorem Kept.setCellU {U E : Nat} {w w' : World} (h : Kept U E w w') (x : Value) : Kept U E w (w'.setCell ⟨U, 0, none⟩ x) :=
  h.trans ⟨rfl, rfl, rfl, by simp [World.setCell], fun k hk h1 h2 => Below.heap_setCell _ _ _ _ h1⟩
theorem Kept.setCellE {U E : Nat} {w w' : World} (h : Kept U E w w') (x : Value) : Kept U E w (w'.setCell ⟨E, 0, none⟩ x) :=
  h.trans ⟨rfl, rfl, rfl, by simp [World.setCell], fun k hk h1 h2 => Below.heap_setCell _ _ _ _ h2⟩
theorem Kept.heap {U E b : Nat} {w w' : World} {o : Obj} (h : Kept U E w w') (hb : w.heap[b]? = some o) (h1 : b ≠ U) (h2 : b ≠ E) : w'.heap[b]? = some o := by
  rw [h.block b (Array.getElem?_eq_some_iff.1 hb).1 h1 h2]; exact hb
theorem Kept.cell {U E : Nat} {w w' : World} {p : Addr} {x : Value} (h : Kept U E w w') (hb : w.cell? p = some x) (h1 : p.block ≠ U) (h2 : p.block ≠ E) : w'.cell? p = some x := by
  rw [World.cell?_of_block (w := w) (h.block p.block (block_lt_of_cell hb) h1 h2)]; exact hb
/-- the two variables of the closures, and the path's -/
structure Vars (w0 : World) (U E P : Nat) (u : Nat) (e : Bool) (vp : Value) (w : World) : Prop where
  below : Below w0.heap.size w0 w
  leU : w0.heap.size ≤ U
  leE : w0.heap.size ≤ E
  leP : w0.heap.size ≤ P
  ue : U ≠ E
  pu : P ≠ U
  pe : P ≠ E
  atU : w.heap[U]? = some (.cells #[.int .i64 (u : Int)] 3 (0, 0))
  atE : w.heap[E]? = some (.cells #[.bool e] 4 (0, 0))
  atP : w.heap[P]? = some (.cells #[vp] 38 (0, 0))
theorem Vars.mono {w0 : World} {U E P u : Nat} {e : Bool} {vp : Value} {w w' : World} (h : Vars w0 U E P u e vp w) (k : Below w.heap.size w w') : Vars w0 U E P u e vp w' :=
  ⟨h.below.trans (k.mono h.below.size), h.leU, h.leE, h.leP, h.ue, h.pu, h.pe, heap_below h.atU k, heap_below h.atE k, heap_below h.atP k⟩
theorem Vars.setE {w0 : World} {U E P u : Nat} {e : Bool} {vp : Value} {w : World} (h : Vars w0 U E P u e vp w) (e' : Bool) : Vars w0 U E P u e' vp (w.setCell ⟨E, 0, none⟩ (.bool e')) :=
  ⟨h.below.setCell h.leE _, h.leU, h.leE, h.leP, h.ue, h.pu, h.pe, by rw [Below.heap_setCell _ _ _ _ h.ue]; exact h.atU, one_setCell h.atE, by rw [Below.heap_setCell _ _ _ _ h.pe]; exact h.atP⟩
theorem Vars.setU {w0 : World} {U E P u : Nat} {e : Bool} {vp : Value} {w : World} (h : Vars w0 U E P u e vp w) (u' : Nat) (x : Int) (hx : x = (u' : Int)) : Vars w0 U E P u' e vp (w.setCell ⟨U, 0, none⟩ (.int .i64 x)) := by
  subst hx
  exact ⟨h.below.setCell h.leU _, h.leU, h.leE, h.leP, h.ue, h.pu, h.pe, one_setCell h.atU, by rw [Below.heap_setCell _ _ _ _ (Ne.symm h.ue)]; exact h.atE, by rw [Below.heap_setCell _ _ _ _ h.pu]; exact h.atP⟩
theorem Kept.setRow {U E g : Nat} {w w' : World} (h : Kept U E w w') (hg : w.heap.size ≤ g) (cs : Array Value) : Kept U E w (w'.setRow g cs) :=
  ⟨h.os, h.tape, h.output, by rw [size_setRow]; exact h.size, fun k hk h1 h2 => (setRow_other _ _ _ _ (by omega)).trans (h.block k hk h1 h2)⟩
theorem Vars.setRow {w0 : World} {U E P u g : Nat} {e : Bool} {vp : Value} {w : World} (h : Vars w0 U E P u e vp w) (hg : w0.heap.size ≤ g) (h1 : U ≠ g) (h2 : E ≠ g) (h3 : P ≠ g) (cs : Array Value) : Vars w0 U E P u e vp (w.setRow g cs) :=
  ⟨below_setRow h.below hg cs, h.leU, h.leE, h.leP, h.ue, h.pu, h.pe, (setRow_other _ _ _ _ h1).trans h.atU, (setRow_other _ _ _ _ h2).trans h.atE, (setRow_other _ _ _ _ h3).trans h.atP⟩
attribute [local go_sem ↓] wp_alloc_hash wp_build_zero
set_option maxHeartbeats 2000000 in
set_option maxRecDepth 100000 in
/-- no hash is left -/
theorem take1_none (w0 : World) (U E P n c : Nat) (e : Bool) (a : Option Addr) (w : World) (hv : Vars w0 U E P n e (.slice a n c) w) :
    Calls Tryd.prog 57 #[.pointer (some ⟨U, 0, none⟩), .pointer (some ⟨P, 0, none⟩), .pointer (some ⟨E, 0, none⟩)] w fun ed w' => ed = .returned (.agg (hashArr Tree.zero)) ∧ Kept U E w w' ∧ Vars w0 U E P n false (.slice a n c) w' := by
  have b0 : Below w.heap.size w (w.alloc (.cells (hashArr Tree.zero) 24)) := (Below.refl _ _).alloc (Nat.le_refl _) _
  have hv1 := hv.mono b0
  have hU := cell_of_one hv1.atU
  have hE := cell_of_one hv1.atE
  have fE := free_of_one hv1.atE
  have hP := cell_of_one hv1.atP
  have hn : ((n : Int) == (n : Int)) = true := by simp
  have HV := Lib.hid hv
  have KV := Lib.hid ((Kept.of_below (U := U) (E := E) b0).setCellE (.bool false))
  have HV2 := Lib.hid (hv1.setE false)
  have hne : w.heap.size ≠ E := by have := lt_of_block hv.atE; omega
  have BR : Hid (((w.alloc (.cells (hashArr Tree.zero) 24)).setCell ⟨E, 0, none⟩ (.bool false)).heap[w.heap.size]? = some (.cells (hashArr Tree.zero) 24 (0, 0))) := by
    show _ = _
    rw [Below.heap_setCell _ _ _ _ hne]; exact heap_alloc_new _ _
  have LZ := Lib.hid zero_length
  clear hv hv1 b0
  go_enter Tryd.func57, Tryd.ntmps57
  go_wp2_with (refine wpList_store_row rfl 24 (.tmp 3) (.tmp 8) rfl w.heap.size (hashArr Tree.zero) rfl rfl 24 _ BR.out (hash_info _ LZ.out) rfl (hashArr_one _) ?_)
  have l1 := lt_of_block HV.out.atU
  have l2 := lt_of_block HV.out.atE
  have l3 := lt_of_block HV.out.atP
  refine bodyPost_ret (v := .agg (hashArr Tree.zero)) (results_cell_row Tryd.results57 _ _ w.heap.size 24 (hashArr Tree.zero) (0, 0) _ rfl (setRow_heap _ _ _ _ _ _ BR.out) Tryd.underlying24 rfl (hash_info _ LZ.out)) rfl ⟨rfl, KV.out.setRow (Nat.le_refl _) _, HV2.out.setRow HV.out.below.size (by omega) (by omega) (by omega) _⟩
set_option maxHeartbeats 2000000 in
set_option maxRecDepth 100000 in
/-- the next hash -/
theorem take1_some (w0 : World) (U E P n c u b o : Nat) (e : Bool) (hs : List Tree.H) (h : Tree.H) (w : World) (hv : Vars w0 U E P u e (.slice (some ⟨b, o, none⟩) n c) w) (hu : u < n) (hl : hs.length = n) (hc : c ≤ 9223372036854775807) (hnc : n ≤ c) (ha : HAt w0 b o hs) (he : Each hs) (hh : hs.getD u [] = h) :
    Calls Tryd.prog 57 #[.pointer (some ⟨U, 0, none⟩), .pointer (some ⟨P, 0, none⟩), .pointer (some ⟨E, 0, none⟩)] w fun ed w' => ed = .returned (.agg (hashArr h)) ∧ Kept U E w w' ∧ Vars w0 U E P (u + 1) e (.slice (some ⟨b, o, none⟩) n c) w' := by
  have b0 : Below w.heap.size w (w.alloc (.cells (hashArr Tree.zero) 24)) := (Below.refl _ _).alloc (Nat.le_refl _) _
  have hv1 := hv.mono b0
  have hU := cell_of_one hv1.atU
  have fU := free_of_one hv1.atU
  have hP := cell_of_one hv1.atP
  have hv2 := hv1.setU (u + 1) ((u : Int) + 1) (by omega)
  have hU2 : ((w.alloc (.cells (hashArr Tree.zero) 24)).setCell ⟨U, 0, none⟩ (.int .i64 ((u : Int) + 1))).cell? ⟨U, 0, none⟩ = some (.int .i64 ((u : Int) + 1)) := (cell_of_one hv2.atU).trans (by rw [Int.natCast_add]; rfl)
  have hP2 := cell_of_one hv2.atP
  have hn : ((u : Int) == (n : Int)) = false := by simp; omega
  have hw1 : IntKind.i64.wrap ((u : Int) + 1) = (u : Int) + 1 := IntWalk.i64_in _ (by omega)
  have hw2 : IntKind.i64.wrap (u : Int) = (u : Int) := IntWalk.i64_in _ (by omega)
  have q1 : (0 : Int) ≤ (u : Int) := by omega
  have q2 : (u : Int) < (n : Int) := by omega
  have q3 : (u : Int).toNat = u := by omega
  have LH : Hid (h.length = 32) := by show _ = _; rw [← hh]; exact he.getD u (by omega)
  have HV := Lib.hid hv
  have KV := Lib.hid ((Kept.of_below (U := U) (E := E) b0).setCellU (.int .i64 ((u : Int) + 1)))
  have HV2 := Lib.hid hv2
  have hne : w.heap.size ≠ U := by have := lt_of_block hv.atU; omega
  have BR : Hid (((w.alloc (.cells (hashArr Tree.zero) 24)).setCell ⟨U, 0, none⟩ (.int .i64 ((u : Int) + 1))).heap[w.heap.size]? = some (.cells (hashArr Tree.zero) 24 (0, 0))) := by
    show _ = _
    rw [Below.heap_setCell _ _ _ _ hne]; exact heap_alloc_new _ _
  have LZ := Lib.hid zero_length
  have LO := Lib.hid (ha.below hv2.below u (by omega))
  rw [hh] at LO
  have LI : Hid ((Tryd.prog.info? 24).map (·.size) = some (hashArr h).toList.length) := by
    show _ = _
    have := hash_info h LH.out; rw [Array.length_toList]; exact this
  clear hv hv1 hv2 b0 ha he hh
  go_enter Tryd.func57, Tryd.ntmps57
  go_wp2_with (first
    | ((with_reducible refine op_is ⟨some 15, .load 24 (.tmp 14), _, _, _, _⟩ ?_); refine wpList_load_mid rfl 24 (.tmp 14) rfl b (o + u * 32) rfl (hashArr h).toList _ LO.out Tryd.underlying24 rfl LI.out ?_; rw [Array.toArray_toList])
    | ((with_reducible refine op_is ⟨none, .store 24 (.tmp 3) (.tmp 15), _, _, _, _⟩ ?_); refine wpList_store_row rfl 24 (.tmp 3) (.tmp 15) rfl w.heap.size (hashArr h) rfl rfl 24 _ BR.out (hash_info _ LH.out) (by rw [hashArr_size, hashArr_size, LH.out, LZ.out]) (hashArr_one _) ?_))
  have l1 := lt_of_block HV.out.atU
  have l2 := lt_of_block HV.out.atE
  have l3 := lt_of_block HV.out.atP
  refine bodyPost_ret (v := .agg (hashArr h)) (results_cell_row Tryd.results57 _ _ w.heap.size 24 (hashArr h) (0, 0) _ rfl (setRow_heap _ _ _ _ _ _ BR.out) Tryd.underlying24 rfl (hash_info _ LH.out)) rfl ⟨rfl, KV.out.setRow (Nat.le_refl _) _, HV2.out.setRow HV.out.below.size (by omega) (by omega) (by omega) _⟩
end Go.Proofs.YtjedhmoehepbnaaDoor
