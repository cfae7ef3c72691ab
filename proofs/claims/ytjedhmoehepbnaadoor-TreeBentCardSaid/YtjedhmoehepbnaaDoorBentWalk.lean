/- The walk of the law TreeBent, and the rules for pairs of Heads that it takes. -/
import Derived.Test.YtjedhmoehepbnaaDoorTreeBentF
import Derived.Deep.Cut
namespace Go.Proofs.YtjedhmoehepbnaaDoor
open Go.RowKit Go.Sort
set_option linter.unusedVariables false
section
def IsHead (v : Value) : Prop := ∃ (n : Int) (l : Tree.H), v = .agg (headArr n l) ∧ l.length = 32
theorem isHead (n : Int) {l : Tree.H} (hl : l.length = 32) : IsHead (.agg (headArr n l)) := ⟨n, l, rfl, hl⟩
theorem wp_store_head {x y : Operand} {d : Option Tmp} {ty : TypeId} {pos : String} {after : Array Edge} {gd : Option (Nat × Bool)} {a : Act} {w : World} {K : Act → World → Prop} {Q : Exit → Act → World → Prop} (h0 : IsHeadAt w (a.eval x)) (h1 : IsHead (a.eval y)) :
    Oper.wp Tryd.prog ⟨d, .store 36 x y, ty, pos, after, gd⟩ a w K Q = K (a.put d undef) (w.setRow (blockOf (a.eval x)) (a.eval y).cells) := by
  obtain ⟨g, n, l, e, hl, hg⟩ := h0
  obtain ⟨n', l', e', hl'⟩ := h1
  unfold Oper.wp execOp
  simp only [e, e', blockOf_at, Value.cells, Instr.storeAt, Instr.sureAddr, Sem.run_bind, Sem.run_pure, Result.andThen_ok, run_storeVar_row w g 36 36 (headArr n l) (headArr n' l') hg (head_info n' l' hl') (by rw [headArr_size _ _ hl, headArr_size _ _ hl']) (headArr_one _ _)]
  rfl
theorem isHeadAt_alloc {w : World} {v : Value} {o : Obj} (h : IsHeadAt w v) : IsHeadAt (w.alloc o) v := by
  obtain ⟨g, n, l, e, hl, hg⟩ := h
  exact ⟨g, n, l, e, hl, (heap_alloc_old _ _ (lt_of_block hg)).trans hg⟩
theorem isHeadAt_drew {w : World} {v : Value} (h : IsHeadAt w v) : IsHeadAt w.drew v := h
theorem isHeadAt_setRow {w : World} {v : Value} {g : Nat} {cs : Array Value} (h : IsHeadAt w v) (hc : IsHead (.agg cs)) : IsHeadAt (w.setRow g cs) v := by
  obtain ⟨g', n, l, e, hl, hg⟩ := h
  obtain ⟨n', l', e', hl'⟩ := hc
  injection e' with e'
  subst e'
  by_cases hgg : g' = g
  · subst hgg; exact ⟨g', n', l', e, hl', setRow_heap _ _ _ _ _ _ hg⟩
  · exact ⟨g', n, l, e, hl, (setRow_other _ _ _ _ hgg).trans hg⟩
theorem isHeadAt_new {w : World} {b : Nat} (hb : b = w.heap.size) : IsHeadAt (w.alloc (.cells (headArr 0 Tree.zero) 36)) (.pointer (some ⟨b, 0, none⟩)) := by
  subst hb; exact ⟨_, 0, Tree.zero, rfl, zero_length, heap_alloc_new _ _⟩
theorem hashOf_alloc {w : World} {v : Value} {o : Obj} (h : IsHeadAt w v) : hashOf (w.alloc o) v = hashOf w v := by
  obtain ⟨g, n, l, e, hl, hg⟩ := h
  rw [e, rowOf_at hg, rowOf_at ((heap_alloc_old _ _ (lt_of_block hg)).trans hg)]
theorem hashOf_drew {w : World} {v : Value} : hashOf w.drew v = hashOf w v := rfl
theorem hashOf_setRow {w : World} {g b : Nat} {cs : Array Value} (h : ¬ b = g) : hashOf (w.setRow g cs) (.pointer (some ⟨b, 0, none⟩)) = hashOf w (.pointer (some ⟨b, 0, none⟩)) := by
  simp only [hashOf, setRow_other w g b cs h]
/-! pairs -/
def pairOf (x y : Value) : Array Value := x.cells ++ y.cells
def pairArr (n1 : Int) (x1 : Tree.H) (n2 : Int) (x2 : Tree.H) : Array Value := pairOf (.agg (headArr n1 x1)) (.agg (headArr n2 x2))
theorem pairArr_size (n1 n2 : Int) (x1 x2 : Tree.H) (h1 : x1.length = 32) (h2 : x2.length = 32) : (pairArr n1 x1 n2 x2).size = 66 := by
  show (headArr n1 x1 ++ headArr n2 x2).size = 66
  rw [Array.size_append, headArr_size _ _ h1, headArr_size _ _ h2]
theorem pairArr_one (n1 n2 : Int) (x1 x2 : Tree.H) : (pairArr n1 x1 n2 x2).all (·.oneCell') = true := by
  show (headArr n1 x1 ++ headArr n2 x2).all (·.oneCell') = true
  rw [Array.all_append, headArr_one, headArr_one]; rfl
theorem pair_infos : (Tryd.prog.info? 57).map (fun i => (i.zero, i.size, i.bytes)) = some (some (.agg (pairArr 0 Tree.zero 0 Tree.zero)), 66, 80) := by kernel_rfl
theorem pair_info (n1 n2 : Int) (x1 x2 : Tree.H) (h1 : x1.length = 32) (h2 : x2.length = 32) : (Tryd.prog.info? 57).map (·.size) = some (pairArr n1 x1 n2 x2).size := by
  obtain ⟨i0, hi, hz0, hz1, hz2⟩ := info_parts pair_infos
  rw [hi, pairArr_size _ _ _ _ h1 h2, Option.map_some, hz1]
theorem wp_alloc_pair {d : Option Tmp} {ty : TypeId} {pos : String} {after : Array Edge} {gd : Option (Nat × Bool)} {a : Act} {w : World} {K : Act → World → Prop} {Q : Exit → Act → World → Prop} :
    Oper.wp Tryd.prog ⟨d, .alloc 57, ty, pos, after, gd⟩ a w K Q = K (a.put d (.pointer (some ⟨w.heap.size, 0, none⟩))) (w.alloc (.cells (pairArr 0 Tree.zero 0 Tree.zero) 57)) := by
  obtain ⟨i0, hi, hz0, hz1, hz2⟩ := info_parts pair_infos
  unfold Oper.wp execOp
  simp [Instr.alloc, newVar, zeroValue, typeInfo, hi, hz0, go_sem]
theorem wp_build_pair {x y : Operand} {d : Option Tmp} {ty : TypeId} {pos : String} {after : Array Edge} {gd : Option (Nat × Bool)} {a : Act} {w : World} {K : Act → World → Prop} {Q : Exit → Act → World → Prop} (hx : (a.eval x).cells.size = 33) (hy : (a.eval y).cells.size = 33) :
    Oper.wp Tryd.prog ⟨d, .build 57 #[(0, x), (1, y)], ty, pos, after, gd⟩ a w K Q = K (a.put d (.agg (pairOf (a.eval x) (a.eval y)))) w := by
  obtain ⟨i0, hi, hz0, hz1, hz2⟩ := info_parts pair_infos
  have hf := Great.fill_whole (s := 33) (by omega) [a.eval x, a.eval y] (pairArr 0 Tree.zero 0 Tree.zero) (fun v hv => by
    simp only [List.mem_cons, List.not_mem_nil, or_false] at hv
    rcases hv with rfl | rfl
    · exact hx
    · exact hy) (by rw [pairArr_size _ _ _ _ zero_length zero_length]; rfl)
  have e2 : ([a.eval x, a.eval y].flatMap fun v => v.cells.toList).toArray = pairOf (a.eval x) (a.eval y) := by simp [pairOf]
  rw [e2] at hf
  have hf2 : Instr.fill (fun i => some (i * 33, 33)) (pairArr 0 Tree.zero 0 Tree.zero) [(0, a.eval x), (1, a.eval y)] = some (pairOf (a.eval x) (a.eval y)) := hf
  unfold Oper.wp execOp
  simp [Instr.build, zeroValue, typeInfo, hi, hz0, run_underlying Tryd.underlying57, Tryd.sizeOf36, Oper.upon, Result.andThen, Value.cells, hf2]
def sevenOf (l : List Value) : Array Value := (l.flatMap fun v => v.cells.toList).toArray
theorem wp_build_seven {x0 x1 x2 x3 x4 x5 x6 : Operand} {d : Option Tmp} {ty : TypeId} {pos : String} {after : Array Edge} {gd : Option (Nat × Bool)} {a : Act} {w : World} {K : Act → World → Prop} {Q : Exit → Act → World → Prop} (h0 : (a.eval x0).cells.size = 66) (h1 : (a.eval x1).cells.size = 66) (h2 : (a.eval x2).cells.size = 66) (h3 : (a.eval x3).cells.size = 66) (h4 : (a.eval x4).cells.size = 66) (h5 : (a.eval x5).cells.size = 66) (h6 : (a.eval x6).cells.size = 66) :
    Oper.wp Tryd.prog ⟨d, .buildSlice 58 7 #[(0, x0), (1, x1), (2, x2), (3, x3), (4, x4), (5, x5), (6, x6)], ty, pos, after, gd⟩ a w K Q = K (a.put d (.slice (some ⟨w.heap.size, 0, none⟩) 7 7)) (w.alloc (.cells (sevenOf [a.eval x0, a.eval x1, a.eval x2, a.eval x3, a.eval x4, a.eval x5, a.eval x6]) 57)) := by
  obtain ⟨i0, hi, hz0, hz1, hz2⟩ := info_parts pair_infos
  have hf := Great.fill_whole (s := 66) (by omega) [a.eval x0, a.eval x1, a.eval x2, a.eval x3, a.eval x4, a.eval x5, a.eval x6] ((Array.range (7 * 66)).map ((Value.agg (pairArr 0 Tree.zero 0 Tree.zero)).cells[· % (Value.agg (pairArr 0 Tree.zero 0 Tree.zero)).cells.size]!)) (fun v hv => by
    simp only [List.mem_cons, List.not_mem_nil, or_false] at hv
    rcases hv with rfl | rfl | rfl | rfl | rfl | rfl | rfl
    · exact h0
    · exact h1
    · exact h2
    · exact h3
    · exact h4
    · exact h5
    · exact h6) (by simp)
  have hr := run_buildSlice (P := Tryd.prog) w 58 57 7 #[(0, a.eval x0), (1, a.eval x1), (2, a.eval x2), (3, a.eval x3), (4, a.eval x4), (5, a.eval x5), (6, a.eval x6)] (sevenOf [a.eval x0, a.eval x1, a.eval x2, a.eval x3, a.eval x4, a.eval x5, a.eval x6]) i0 _ Tryd.underlying58 hi hz0 (by rw [hz1]; omega) (by rw [hz1]; omega) (by rw [hz1]; exact hf)
  unfold Oper.wp execOp
  simp only [Sem.run_bind, List.map_toArray, List.map_cons, List.map_nil, hr, Result.andThen_ok]
  rfl
theorem seven_range {W : World} {g : Nat} {vs : List Value} (hg : W.heap[g]? = some (.cells (sevenOf vs) 57 (0, 0))) (hv : ∀ v ∈ vs, v.cells.size = 66) (k : Nat) (v : Value) (hk : vs[k]? = some v) : W.rangeAt g (k * 66) v.cells.toList := by
  intro j u hu
  rw [Array.getElem?_toList] at hu
  have hj : j < 66 := by
    have := (Array.getElem?_eq_some_iff.1 hu).1
    rw [hv v (List.mem_of_getElem? hk)] at this
    exact this
  rw [cell_of_row _ _ (k * 66 + j) _ _ _ hg]
  show (vs.flatMap fun v => v.cells.toList).toArray[k * 66 + j]? = _
  rw [List.getElem?_toArray, Great.flat_get (s := 66) (by omega) vs hv, show (k * 66 + j) / 66 = k by omega, show (k * 66 + j) % 66 = j by omega, hk]
  exact hu
theorem pair_first {W : World} {g : Nat} {n1 n2 : Int} {x1 x2 : Tree.H} (h1 : x1.length = 32) (hg : W.heap[g]? = some (.cells (pairArr n1 x1 n2 x2) 57 (0, 0))) : W.rangeAt g 0 (headArr n1 x1).toList := by
  intro j u hu
  rw [Array.getElem?_toList] at hu
  have hj := (Array.getElem?_eq_some_iff.1 hu).1
  rw [Nat.zero_add, cell_of_row _ _ j _ _ _ hg]
  show (headArr n1 x1 ++ headArr n2 x2)[j]? = _
  rw [Array.getElem?_append, if_pos hj]; exact hu
theorem pair_second {W : World} {g : Nat} {n1 n2 : Int} {x1 x2 : Tree.H} (h1 : x1.length = 32) (hg : W.heap[g]? = some (.cells (pairArr n1 x1 n2 x2) 57 (0, 0))) : W.rangeAt g 33 (headArr n2 x2).toList := by
  intro j u hu
  rw [Array.getElem?_toList] at hu
  rw [cell_of_row _ _ (33 + j) _ _ _ hg]
  show (headArr n1 x1 ++ headArr n2 x2)[33 + j]? = _
  rw [Array.getElem?_append, if_neg (by rw [headArr_size _ _ h1]; omega), headArr_size _ _ h1, show 33 + j - 33 = j by omega]; exact hu
theorem mid_load {W : World} {g o : Nat} {n : Int} {x : Tree.H} (hx : x.length = 32) (h : W.rangeAt g o (headArr n x).toList) :
    ∀ w', (∃ p : Regrown, w' = grow (redrawn W p.d) p.os) → (loadVar 36 ⟨g, o, none⟩).run Tryd.prog w' = .ok (.agg (headArr n x)) w' := by
  rintro w' ⟨p, rfl⟩
  have := run_loadVar_mid (P := Tryd.prog) (grow (redrawn W p.d) p.os) g o 36 (headArr n x).toList _ (range_below h (below_regrown W p.d p.os)) Tryd.underlying36 rfl (by rw [Array.length_toList]; exact head_info n x hx)
  rwa [Array.toArray_toList] at this
theorem head_setByte (n : Int) (h : Tree.H) (j : Nat) (b : UInt8) : (headArr n h).setIfInBounds (1 + j) (.int .u8 (b.toNat : Int)) = headArr n (h.set j b) := by
  apply Array.ext_getElem?
  intro k
  rw [Array.getElem?_setIfInBounds]
  by_cases hk : k = 0
  · subst hk
    rw [if_neg (by omega), headArr_zero, headArr_zero]
  · obtain ⟨i, rfl⟩ : ∃ i, k = 1 + i := ⟨k - 1, by omega⟩
    have hs : (headArr n h).size = 1 + h.length := by rw [headArr_eq]; simp [hashArr_size]
    rw [headArr_succ, headArr_succ, hs]
    simp only [hashArr]
    by_cases hij : j = i
    · subst hij
      rw [if_pos rfl]
      by_cases hl : j < h.length
      · rw [if_pos (by omega)]; simp [hl]
      · rw [if_neg (by omega)]; simp [hl]
    · rw [if_neg (by omega)]; simp [hij]
end
section
theorem cut_isB {W : World} {a : Option Addr} {n c k : Nat} {l : List ByteArray} (h : IsStrs W (.slice a n c) l) (hn : l.length = n) (hk : k ≤ n) : IsStrs W (.slice a k c) (l.take k) := by
  obtain ⟨h1, ⟨rfl, a', c', e⟩ | ⟨b, o, c', e, h3, h4, h5, h6⟩⟩ := h
  · injection e with e1 e2 e3
    obtain rfl : k = 0 := by omega
    exact ⟨h1.take 0, .inl ⟨by simp, _, _, rfl⟩⟩
  · injection e with e1 e2 e3
    subst e1 e3
    refine ⟨h1.take k, ?_⟩
    by_cases h0 : k = 0
    · subst h0; exact .inl ⟨by simp, _, _, rfl⟩
    · have hl : (l.take k).length = k := by rw [List.length_take]; omega
      exact .inr ⟨b, o, c, by rw [hl], by omega, by omega, h5, h6.take⟩
/-- what TreeBent has laid before it compares -/
structure BAt (w : World) (z0 z1 z2 z3 z4 : Int) (p12 p13 p14 p15 p16 : Nat) (k M sa sb : Int) (h1 h2 h3 : Tree.H) (B : Nat) (v : Value) (qs : List Tree.H) (W : World) : Prop where
  below : Below w.heap.size w W
  q : W.heap[w.heap.size]? = some (.cells #[.int .i64 z0, .int .i64 z1, .int .i64 z2, .int .i64 z3, .int .i64 z4] 56 (0, 0))
  e12 : W.heap[p12]? = some (.cells (headArr k h1) 36 (0, 0))
  e13 : W.heap[p13]? = some (.cells (headArr M h2) 36 (0, 0))
  e14 : W.heap[p14]? = some (.cells (headArr sa h1) 36 (0, 0))
  e15 : W.heap[p15]? = some (.cells (headArr sb h2) 36 (0, 0))
  e16 : W.heap[p16]? = some (.cells (headArr k h3) 36 (0, 0))
  own : OwnsH W B v qs
theorem BAt.step {w : World} {z0 z1 z2 z3 z4 : Int} {p12 p13 p14 p15 p16 : Nat} {k M sa sb : Int} {h1 h2 h3 : Tree.H} {B : Nat} {v : Value} {qs : List Tree.H} {W W' : World} (x : BAt w z0 z1 z2 z3 z4 p12 p13 p14 p15 p16 k M sa sb h1 h2 h3 B v qs W) (hb : Below W.heap.size W W') : BAt w z0 z1 z2 z3 z4 p12 p13 p14 p15 p16 k M sa sb h1 h2 h3 B v qs W' :=
  ⟨below_join x.below hb, heap_below x.q hb, heap_below x.e12 hb, heap_below x.e13 hb, heap_below x.e14 hb, heap_below x.e15 hb, heap_below x.e16 hb, x.own.below hb⟩
/-- the three copies of heads -/
def ThreeHeads (W : World) (k M : Int) (h1 h2 : Tree.H) (v14 v15 v16 : Value) (V : World) : Prop :=
  Below W.heap.size W V ∧ ∃ p q r, v14 = .pointer (some ⟨p, 0, none⟩) ∧ v15 = .pointer (some ⟨q, 0, none⟩) ∧ v16 = .pointer (some ⟨r, 0, none⟩) ∧ W.heap.size ≤ p ∧ W.heap.size ≤ q ∧ W.heap.size ≤ r ∧ p ≠ q ∧ p ≠ r ∧ q ≠ r ∧
    V.heap[p]? = some (.cells (headArr k h1) 36 (0, 0)) ∧ V.heap[q]? = some (.cells (headArr M h2) 36 (0, 0)) ∧ V.heap[r]? = some (.cells (headArr k h1) 36 (0, 0))
theorem three_heads (W : World) (k M : Int) (h1 h2 : Tree.H) (p q r : Nat) (hp : p = W.heap.size ∨ p = W.heap.size + 1 ∨ p = W.heap.size + 1 + 1) (hq : q = W.heap.size ∨ q = W.heap.size + 1 ∨ q = W.heap.size + 1 + 1) (hr : r = W.heap.size ∨ r = W.heap.size + 1 ∨ r = W.heap.size + 1 + 1) (hpq : p ≠ q) (hpr : p ≠ r) (hqr : q ≠ r) :
    ThreeHeads W k M h1 h2 (.pointer (some ⟨p, 0, none⟩)) (.pointer (some ⟨q, 0, none⟩)) (.pointer (some ⟨r, 0, none⟩)) ((((((W.alloc (.cells (headArr 0 Tree.zero) 36)).alloc (.cells (headArr 0 Tree.zero) 36)).alloc (.cells (headArr 0 Tree.zero) 36)).drew.setRow p (headArr k h1)).setRow q (headArr M h2)).setRow r (headArr k h1)) := by
  have A : ∀ x, (x = W.heap.size ∨ x = W.heap.size + 1 ∨ x = W.heap.size + 1 + 1) → (((W.alloc (.cells (headArr 0 Tree.zero) 36)).alloc (.cells (headArr 0 Tree.zero) 36)).alloc (.cells (headArr 0 Tree.zero) 36)).drew.heap[x]? = some (.cells (headArr 0 Tree.zero) 36 (0, 0)) := by
    intro x hx
    rcases hx with rfl | rfl | rfl
    · exact heap3_0 W (.cells (headArr 0 Tree.zero) 36) (.cells (headArr 0 Tree.zero) 36) (.cells (headArr 0 Tree.zero) 36)
    · exact heap3_1 W (.cells (headArr 0 Tree.zero) 36) (.cells (headArr 0 Tree.zero) 36) (.cells (headArr 0 Tree.zero) 36)
    · exact heap3_2 W (.cells (headArr 0 Tree.zero) 36) (.cells (headArr 0 Tree.zero) 36) (.cells (headArr 0 Tree.zero) 36)
  have bA : Below W.heap.size W (((W.alloc (.cells (headArr 0 Tree.zero) 36)).alloc (.cells (headArr 0 Tree.zero) 36)).alloc (.cells (headArr 0 Tree.zero) 36)).drew := (below3 W (.cells (headArr 0 Tree.zero) 36) (.cells (headArr 0 Tree.zero) 36) (.cells (headArr 0 Tree.zero) 36)).drew
  refine ⟨below_setRow (below_setRow (below_setRow bA (by omega) _) (by omega) _) (by omega) _, p, q, r, rfl, rfl, rfl, by omega, by omega, by omega, hpq, hpr, hqr, ?_, ?_, ?_⟩
  · exact (setRow_other _ _ _ _ hpr).trans ((setRow_other _ _ _ _ hpq).trans (setRow_heap _ _ _ _ _ _ (A p hp)))
  · exact (setRow_other _ _ _ _ hqr).trans (setRow_heap _ _ _ _ _ _ ((setRow_other _ _ _ _ (Ne.symm hpq)).trans (A q hq)))
  · exact setRow_heap _ _ _ _ _ _ ((setRow_other _ _ _ _ (Ne.symm hqr)).trans ((setRow_other _ _ _ _ (Ne.symm hpr)).trans (A r hr)))
theorem free_of_row {w : World} {g : Nat} {cs : Array Value} {t : TypeId} (hg : w.heap[g]? = some (.cells cs t (0, 0))) (o : Nat) : w.frozen? ⟨g, o, none⟩ = false := by simp [World.frozen?, hg]
theorem store_pair {ops : Array Oper} {rest : List Oper} {o : Oper} {a : Act} {w : World} {Q : Exit → Act → World → Prop} {n1 n2 : Int} {x1 x2 : Tree.H} (h1 : x1.length = 32) (h2 : x2.length = 32) (x y : Operand) (hgd : o.guard = none) (hdst : o.dst = none) (ho : o.op = .store 57 x y)
    (hx : a.eval x = .pointer (some ⟨w.heap.size, 0, none⟩)) (hy : a.eval y = .agg (pairArr n1 x1 n2 x2))
    (h : wpList Tryd.prog ops Q rest a (w.alloc (.cells (pairArr n1 x1 n2 x2) 57))) : wpList Tryd.prog ops Q (o :: rest) a (w.alloc (.cells (pairArr 0 Tree.zero 0 Tree.zero) 57)) :=
  wpList_store_new hgd 57 x y ho (pairArr n1 x1 n2 x2) hx hy 57 (pairArr 0 Tree.zero 0 Tree.zero) (pair_info n1 n2 x1 x2 h1 h2) (by rw [pairArr_size _ _ _ _ zero_length zero_length, pairArr_size _ _ _ _ h1 h2]) (pairArr_one _ _ _ _) (by rw [hdst]; exact h)
attribute [local go_sem ↓] wp_alloc_head wp_load_head wp_store_head wp_build_pair wp_build_seven wp_alloc_pair Go.wp_at_zero Go.wp_at_succ
set_option maxHeartbeats 8000000 in
set_option maxRecDepth 100000 in
theorem bentlaw_at (ao : Option Addr) (n0 c : Nat) (xs : List UInt8) (A : Nat) (z0 z1 z2 z3 z4 : Int) (w : World) (hx : BytesIn w ao n0 c xs) (hA : A < 256) (hT : Tabs w) :
    Calls Tryd.prog 9 #[.slice ao n0 c, .int .u8 (A : Int), .agg #[.int .i64 z0, .int .i64 z1, .int .i64 z2, .int .i64 z3, .int .i64 z4]] w fun e w' => e = .returned (.bool true) ∧ Below w.heap.size w w' := by
  obtain ⟨M, em⟩ : ∃ m, min n0 20 = m := ⟨_, rfl⟩
  have hM : M ≤ 20 := by omega
  obtain ⟨l, el⟩ : ∃ l, Tree.words xs M = l := ⟨_, rfl⟩
  have ll : l.length = M := by rw [← el]; exact words_length xs M
  have ls : Short l := by rw [← el]; exact words_short xs M
  have CS := Lib.hid (fun (W : World) (g : Below w.heap.size w W) => rstrings_any ao n0 c xs W (hx.below g))
  rw [em, el] at CS
  obtain ⟨k, hm⟩ : ∃ m, A % (M + 1) = m := ⟨_, rfl⟩
  have hkM : k ≤ M := by have := Nat.mod_lt A (show 0 < M + 1 by omega); omega
  have qA : Int.tmod (A : Int) ((M : Int) + 1) = (k : Int) := by rw [← hm, Int.natCast_emod]; exact Int.tmod_eq_emod_of_nonneg (by omega)
  have wA : IntKind.i64.wrap (A : Int) = (A : Int) := IntWalk.i64_in _ (by omega)
  have HT := Lib.hid hT
  have LL := Lib.hid ll
  have LS := Lib.hid ls
  have b0 : Below w.heap.size w (w.alloc (.cells #[.int .i64 z0, .int .i64 z1, .int .i64 z2, .int .i64 z3, .int .i64 z4] 56)) := (Below.refl _ _).alloc (Nat.le_refl _) _
  have Q0 := Lib.hid (heap_alloc_new w (.cells #[.int .i64 z0, .int .i64 z1, .int .i64 z2, .int .i64 z3, .int .i64 z4] 56))
  have B0 := Lib.hid b0
  clear hx hT el ll ls em hm b0
  go_enter Tryd.func9, Tryd.ntmps9
  go_wp2_with fail
  generalize w.alloc (.cells #[.int .i64 z0, .int .i64 z1, .int .i64 z2, .int .i64 z3, .int .i64 z4] 56) = W0 at *
  refine (sanity12_any _ (HT.out.below B0.out)).mono ?_
  rintro e W1 ⟨rfl, hb1⟩
  have B1 := Lib.hid (below_join B0.out hb1)
  have Q1 := Lib.hid (heap_below Q0.out hb1)
  clear hb1 Q0 B0
  go_wp2_with fail
  refine (CS.out _ B1.out).mono ?_
  rintro e W2 ⟨v, rfl, hown, hb2⟩
  have B2 := Lib.hid (below_join B1.out hb2)
  have Q2 := Lib.hid (heap_below Q1.out hb2)
  have hv := hown.is LS.out
  obtain ⟨av, cv, ev, hcv⟩ := strs_sl hv
  rw [LL.out] at ev hcv
  subst ev
  have h32 : l.length ≤ 2 ^ 5 := by rw [LL.out]; show M ≤ 32; omega
  have lk : (l.take k).length = k := by rw [List.length_take, LL.out]; omega
  have hck : k ≤ cv := by by_cases h0 : 1 ≤ M <;> omega
  have cut1 := cut_strs av M k cv hck
  obtain ⟨h1, eh1⟩ : ∃ h, Tree.root 5 (l.take k) = h := ⟨_, rfl⟩
  obtain ⟨h2, eh2⟩ : ∃ h, Tree.root 5 l = h := ⟨_, rfl⟩
  have lh1 : h1.length = 32 := by rw [← eh1]; exact Tree.root_length _ _
  have lh2 : h2.length = 32 := by rw [← eh2]; exact Tree.root_length _ _
  have LH1 := Lib.hid lh1
  have LH2 := Lib.hid lh2
  obtain ⟨qs, hqs, cq⟩ : ∃ qs : List Tree.H, qs.length ≤ 10 ∧ Calls Tryd.prog 31 #[.slice av M cv, .int .i64 (k : Int)] W2 (GivesB qs true W2) := by
    by_cases h : k = 0
    · exact ⟨[], by simp, by rw [h]; exact rgrowth_zero l _ W2 hv⟩
    · exact ⟨Tree.growth 5 l k true, by have := Tree.growth_length 5 l k true; omega, rgrowth_yes 5 l _ k _ W2 h32 (by omega) hv (by omega) (by rw [LL.out]; exact hkM) rfl⟩
  have CQ := Lib.hid cq
  have HQS := Lib.hid hqs
  have CH1 := Lib.hid (fun (W : World) (g : Below W2.heap.size W2 W) => head_any 5 (l.take k) av k cv h1 W lk (by rw [lk]; show k ≤ 32; omega) (cut_isB (hv.below g) LL.out hkM) eh1)
  have CH2 := Lib.hid (fun (W : World) (g : Below W2.heap.size W2 W) => head_any 5 l av M cv h2 W LL.out h32 (hv.below g) eh2)
  clear hb2 hown hv h32 eh1 eh2 lh1 lh2 B1 Q1 CS hcv lk hck cq hqs
  go_wp2_with fail
  refine CQ.out.mono ?_
  rintro e W3 ⟨vp, rfl, own3, hb3⟩
  obtain ⟨pa, pc, ev⟩ := hs_sl own3.is
  obtain ⟨pm, epm⟩ : ∃ x, qs.length = x := ⟨_, rfl⟩
  rw [epm] at ev
  subst ev
  have EPM := Lib.hid epm
  have OWN3 := Lib.hid own3
  have HB3 := Lib.hid hb3
  clear own3 hb3 epm CQ
  go_wp2_with fail
  refine (CH1.out _ HB3.out).mono ?_
  rintro e W4 ⟨rfl, hb4⟩
  have HB4 := Lib.hid (below_join HB3.out hb4)
  have HB34 := Lib.hid hb4
  clear hb4
  go_wp2_with fail
  refine (CH2.out _ HB4.out).mono ?_
  rintro e W5 ⟨rfl, hb5⟩
  have HB5 := Lib.hid (below_join HB4.out hb5)
  have HB35 := Lib.hid (below_join HB34.out hb5)
  have i1 := isHead (k : Int) LH1.out
  have i2 := isHead (M : Int) LH2.out
  have bk1 := blockOf_at W5.heap.size
  have bk2 := blockOf_at (W5.heap.size + 1)
  have u1 := isHeadAt zero_length (heap2_old W5 (.cells (headArr 0 Tree.zero) 36) (.cells (headArr 0 Tree.zero) 36))
  have u2 := isHeadAt zero_length (heap2_new W5 (.cells (headArr 0 Tree.zero) 36) (.cells (headArr 0 Tree.zero) 36))
  have u3 := isHeadAt zero_length ((setRow_other _ W5.heap.size (W5.heap.size + 1) (headArr k h1) (by omega)).trans (heap2_new W5 (.cells (headArr 0 Tree.zero) 36) (.cells (headArr 0 Tree.zero) 36)))
  clear hb5 CH1 CH2 HB3 HB4 HB34
  go_upto_region 6 with fail
  have k1 := heap2_old W5 (.cells (headArr 0 Tree.zero) 36) (.cells (headArr 0 Tree.zero) 36)
  have k2 := heap2_new W5 (.cells (headArr 0 Tree.zero) 36) (.cells (headArr 0 Tree.zero) 36)
  have hp2 := pair_rows (headArr k h1) (headArr M h2) k1 k2 (by omega)
  have bz : Below W5.heap.size W5 ((((W5.alloc (.cells (headArr 0 Tree.zero) 36)).alloc (.cells (headArr 0 Tree.zero) 36)).setRow W5.heap.size (headArr k h1)).setRow (W5.heap.size + 1) (headArr M h2)) := below_setRow (below_setRow (((Below.refl _ _).alloc (Nat.le_refl _) _).alloc (by simp) _) (by omega) _) (by omega) _
  have P12 := Lib.hid hp2.1
  have P13 := Lib.hid hp2.2
  have B6 := Lib.hid (below_join B2.out (below_join HB5.out bz))
  have Q6 := Lib.hid (heap_below Q2.out (below_join HB5.out bz))
  have OWN6 := Lib.hid (OWN3.out.below (below_join HB35.out bz))
  clear k1 k2 hp2 bz bk1 bk2 u1 u2 u3 HB5 HB35 B2 Q2 OWN3
  generalize (((W5.alloc (.cells (headArr 0 Tree.zero) 36)).alloc (.cells (headArr 0 Tree.zero) 36)).setRow W5.heap.size (headArr k h1)).setRow (W5.heap.size + 1) (headArr M h2) = W6 at *
  have y0 : Below W6.heap.size W6 (W6.drew) := (Below.refl _ _).drew
  have y1 : Below W6.heap.size W6 ((W6.alloc (.cells (headArr 0 Tree.zero) 36)).drew) := ((Below.refl _ _).alloc (Nat.le_refl _) _).drew
  have y2 : Below W6.heap.size W6 (((W6.alloc (.cells (headArr 0 Tree.zero) 36)).alloc (.cells (headArr 0 Tree.zero) 36)).drew) := (((Below.refl _ _).alloc (Nat.le_refl _) _).alloc (by simp) _).drew
  have y3 : Below W6.heap.size W6 ((((W6.alloc (.cells (headArr 0 Tree.zero) 36)).alloc (.cells (headArr 0 Tree.zero) 36)).alloc (.cells (headArr 0 Tree.zero) 36)).drew) := (below3 W6 (.cells (headArr 0 Tree.zero) 36) (.cells (headArr 0 Tree.zero) 36) (.cells (headArr 0 Tree.zero) 36)).drew
  have y4 : Below W6.heap.size W6 ((((W6.alloc (.cells (headArr 0 Tree.zero) 36)).alloc (.cells (headArr 0 Tree.zero) 36)).alloc (.cells (headArr 0 Tree.zero) 36)).drew.setRow (W6.heap.size) (headArr k h1)) := below_setRow y3 (by omega) _
  have y5 : Below W6.heap.size W6 ((((W6.alloc (.cells (headArr 0 Tree.zero) 36)).alloc (.cells (headArr 0 Tree.zero) 36)).alloc (.cells (headArr 0 Tree.zero) 36)).drew.setRow (W6.heap.size + 1) (headArr k h1)) := below_setRow y3 (by omega) _
  have y6 : Below W6.heap.size W6 ((((W6.alloc (.cells (headArr 0 Tree.zero) 36)).alloc (.cells (headArr 0 Tree.zero) 36)).alloc (.cells (headArr 0 Tree.zero) 36)).drew.setRow (W6.heap.size + 1 + 1) (headArr k h1)) := below_setRow y3 (by omega) _
  have y7 : Below W6.heap.size W6 (((((W6.alloc (.cells (headArr 0 Tree.zero) 36)).alloc (.cells (headArr 0 Tree.zero) 36)).alloc (.cells (headArr 0 Tree.zero) 36)).drew.setRow (W6.heap.size) (headArr k h1)).setRow (W6.heap.size + 1) (headArr M h2)) := below_setRow y4 (by omega) _
  have y8 : Below W6.heap.size W6 (((((W6.alloc (.cells (headArr 0 Tree.zero) 36)).alloc (.cells (headArr 0 Tree.zero) 36)).alloc (.cells (headArr 0 Tree.zero) 36)).drew.setRow (W6.heap.size) (headArr k h1)).setRow (W6.heap.size + 1 + 1) (headArr M h2)) := below_setRow y4 (by omega) _
  have y9 : Below W6.heap.size W6 (((((W6.alloc (.cells (headArr 0 Tree.zero) 36)).alloc (.cells (headArr 0 Tree.zero) 36)).alloc (.cells (headArr 0 Tree.zero) 36)).drew.setRow (W6.heap.size + 1) (headArr k h1)).setRow (W6.heap.size) (headArr M h2)) := below_setRow y5 (by omega) _
  have y10 : Below W6.heap.size W6 (((((W6.alloc (.cells (headArr 0 Tree.zero) 36)).alloc (.cells (headArr 0 Tree.zero) 36)).alloc (.cells (headArr 0 Tree.zero) 36)).drew.setRow (W6.heap.size + 1) (headArr k h1)).setRow (W6.heap.size + 1 + 1) (headArr M h2)) := below_setRow y5 (by omega) _
  have y11 : Below W6.heap.size W6 (((((W6.alloc (.cells (headArr 0 Tree.zero) 36)).alloc (.cells (headArr 0 Tree.zero) 36)).alloc (.cells (headArr 0 Tree.zero) 36)).drew.setRow (W6.heap.size + 1 + 1) (headArr k h1)).setRow (W6.heap.size) (headArr M h2)) := below_setRow y6 (by omega) _
  have y12 : Below W6.heap.size W6 (((((W6.alloc (.cells (headArr 0 Tree.zero) 36)).alloc (.cells (headArr 0 Tree.zero) 36)).alloc (.cells (headArr 0 Tree.zero) 36)).drew.setRow (W6.heap.size + 1 + 1) (headArr k h1)).setRow (W6.heap.size + 1) (headArr M h2)) := below_setRow y6 (by omega) _
  have f0a := isHeadAt LH1.out (heap_below P12.out y0)
  have f0b := rowOf_at (heap_below P12.out y0)
  have f0c := isHeadAt LH2.out (heap_below P13.out y0)
  have f0d := rowOf_at (heap_below P13.out y0)
  have f1a := isHeadAt LH1.out (heap_below P12.out y1)
  have f1b := rowOf_at (heap_below P12.out y1)
  have f1c := isHeadAt LH2.out (heap_below P13.out y1)
  have f1d := rowOf_at (heap_below P13.out y1)
  have f2a := isHeadAt LH1.out (heap_below P12.out y2)
  have f2b := rowOf_at (heap_below P12.out y2)
  have f2c := isHeadAt LH2.out (heap_below P13.out y2)
  have f2d := rowOf_at (heap_below P13.out y2)
  have f3a := isHeadAt LH1.out (heap_below P12.out y3)
  have f3b := rowOf_at (heap_below P12.out y3)
  have f3c := isHeadAt LH2.out (heap_below P13.out y3)
  have f3d := rowOf_at (heap_below P13.out y3)
  have f4a := isHeadAt LH1.out (heap_below P12.out y4)
  have f4b := rowOf_at (heap_below P12.out y4)
  have f4c := isHeadAt LH2.out (heap_below P13.out y4)
  have f4d := rowOf_at (heap_below P13.out y4)
  have f5a := isHeadAt LH1.out (heap_below P12.out y5)
  have f5b := rowOf_at (heap_below P12.out y5)
  have f5c := isHeadAt LH2.out (heap_below P13.out y5)
  have f5d := rowOf_at (heap_below P13.out y5)
  have f6a := isHeadAt LH1.out (heap_below P12.out y6)
  have f6b := rowOf_at (heap_below P12.out y6)
  have f6c := isHeadAt LH2.out (heap_below P13.out y6)
  have f6d := rowOf_at (heap_below P13.out y6)
  have f7a := isHeadAt LH1.out (heap_below P12.out y7)
  have f7b := rowOf_at (heap_below P12.out y7)
  have f7c := isHeadAt LH2.out (heap_below P13.out y7)
  have f7d := rowOf_at (heap_below P13.out y7)
  have f8a := isHeadAt LH1.out (heap_below P12.out y8)
  have f8b := rowOf_at (heap_below P12.out y8)
  have f8c := isHeadAt LH2.out (heap_below P13.out y8)
  have f8d := rowOf_at (heap_below P13.out y8)
  have f9a := isHeadAt LH1.out (heap_below P12.out y9)
  have f9b := rowOf_at (heap_below P12.out y9)
  have f9c := isHeadAt LH2.out (heap_below P13.out y9)
  have f9d := rowOf_at (heap_below P13.out y9)
  have f10a := isHeadAt LH1.out (heap_below P12.out y10)
  have f10b := rowOf_at (heap_below P12.out y10)
  have f10c := isHeadAt LH2.out (heap_below P13.out y10)
  have f10d := rowOf_at (heap_below P13.out y10)
  have f11a := isHeadAt LH1.out (heap_below P12.out y11)
  have f11b := rowOf_at (heap_below P12.out y11)
  have f11c := isHeadAt LH2.out (heap_below P13.out y11)
  have f11d := rowOf_at (heap_below P13.out y11)
  have f12a := isHeadAt LH1.out (heap_below P12.out y12)
  have f12b := rowOf_at (heap_below P12.out y12)
  have f12c := isHeadAt LH2.out (heap_below P13.out y12)
  have f12d := rowOf_at (heap_below P13.out y12)
  have g0 : ((((W6.alloc (.cells (headArr 0 Tree.zero) 36)).alloc (.cells (headArr 0 Tree.zero) 36)).alloc (.cells (headArr 0 Tree.zero) 36)).drew).heap[W6.heap.size]? = some (.cells (headArr 0 Tree.zero) 36 (0, 0)) := heap3_0 W6 (.cells (headArr 0 Tree.zero) 36) (.cells (headArr 0 Tree.zero) 36) (.cells (headArr 0 Tree.zero) 36)
  have v0 := isHeadAt zero_length g0
  have g1 : ((((W6.alloc (.cells (headArr 0 Tree.zero) 36)).alloc (.cells (headArr 0 Tree.zero) 36)).alloc (.cells (headArr 0 Tree.zero) 36)).drew).heap[W6.heap.size + 1]? = some (.cells (headArr 0 Tree.zero) 36 (0, 0)) := heap3_1 W6 (.cells (headArr 0 Tree.zero) 36) (.cells (headArr 0 Tree.zero) 36) (.cells (headArr 0 Tree.zero) 36)
  have v1 := isHeadAt zero_length g1
  have g2 : ((((W6.alloc (.cells (headArr 0 Tree.zero) 36)).alloc (.cells (headArr 0 Tree.zero) 36)).alloc (.cells (headArr 0 Tree.zero) 36)).drew).heap[W6.heap.size + 1 + 1]? = some (.cells (headArr 0 Tree.zero) 36 (0, 0)) := heap3_2 W6 (.cells (headArr 0 Tree.zero) 36) (.cells (headArr 0 Tree.zero) 36) (.cells (headArr 0 Tree.zero) 36)
  have v2 := isHeadAt zero_length g2
  have g01 := (setRow_other (((W6.alloc (.cells (headArr 0 Tree.zero) 36)).alloc (.cells (headArr 0 Tree.zero) 36)).alloc (.cells (headArr 0 Tree.zero) 36)).drew (W6.heap.size) (W6.heap.size + 1) (headArr k h1) (by omega)).trans g1
  have v01 := isHeadAt zero_length g01
  have g02 := (setRow_other (((W6.alloc (.cells (headArr 0 Tree.zero) 36)).alloc (.cells (headArr 0 Tree.zero) 36)).alloc (.cells (headArr 0 Tree.zero) 36)).drew (W6.heap.size) (W6.heap.size + 1 + 1) (headArr k h1) (by omega)).trans g2
  have v02 := isHeadAt zero_length g02
  have g10 := (setRow_other (((W6.alloc (.cells (headArr 0 Tree.zero) 36)).alloc (.cells (headArr 0 Tree.zero) 36)).alloc (.cells (headArr 0 Tree.zero) 36)).drew (W6.heap.size + 1) (W6.heap.size) (headArr k h1) (by omega)).trans g0
  have v10 := isHeadAt zero_length g10
  have g12 := (setRow_other (((W6.alloc (.cells (headArr 0 Tree.zero) 36)).alloc (.cells (headArr 0 Tree.zero) 36)).alloc (.cells (headArr 0 Tree.zero) 36)).drew (W6.heap.size + 1) (W6.heap.size + 1 + 1) (headArr k h1) (by omega)).trans g2
  have v12 := isHeadAt zero_length g12
  have g20 := (setRow_other (((W6.alloc (.cells (headArr 0 Tree.zero) 36)).alloc (.cells (headArr 0 Tree.zero) 36)).alloc (.cells (headArr 0 Tree.zero) 36)).drew (W6.heap.size + 1 + 1) (W6.heap.size) (headArr k h1) (by omega)).trans g0
  have v20 := isHeadAt zero_length g20
  have g21 := (setRow_other (((W6.alloc (.cells (headArr 0 Tree.zero) 36)).alloc (.cells (headArr 0 Tree.zero) 36)).alloc (.cells (headArr 0 Tree.zero) 36)).drew (W6.heap.size + 1 + 1) (W6.heap.size + 1) (headArr k h1) (by omega)).trans g1
  have v21 := isHeadAt zero_length g21
  have v012 := isHeadAt zero_length ((setRow_other ((((W6.alloc (.cells (headArr 0 Tree.zero) 36)).alloc (.cells (headArr 0 Tree.zero) 36)).alloc (.cells (headArr 0 Tree.zero) 36)).drew.setRow (W6.heap.size) (headArr k h1)) (W6.heap.size + 1) (W6.heap.size + 1 + 1) (headArr M h2) (by omega)).trans g02)
  have v021 := isHeadAt zero_length ((setRow_other ((((W6.alloc (.cells (headArr 0 Tree.zero) 36)).alloc (.cells (headArr 0 Tree.zero) 36)).alloc (.cells (headArr 0 Tree.zero) 36)).drew.setRow (W6.heap.size) (headArr k h1)) (W6.heap.size + 1 + 1) (W6.heap.size + 1) (headArr M h2) (by omega)).trans g01)
  have v102 := isHeadAt zero_length ((setRow_other ((((W6.alloc (.cells (headArr 0 Tree.zero) 36)).alloc (.cells (headArr 0 Tree.zero) 36)).alloc (.cells (headArr 0 Tree.zero) 36)).drew.setRow (W6.heap.size + 1) (headArr k h1)) (W6.heap.size) (W6.heap.size + 1 + 1) (headArr M h2) (by omega)).trans g12)
  have v120 := isHeadAt zero_length ((setRow_other ((((W6.alloc (.cells (headArr 0 Tree.zero) 36)).alloc (.cells (headArr 0 Tree.zero) 36)).alloc (.cells (headArr 0 Tree.zero) 36)).drew.setRow (W6.heap.size + 1) (headArr k h1)) (W6.heap.size + 1 + 1) (W6.heap.size) (headArr M h2) (by omega)).trans g10)
  have v201 := isHeadAt zero_length ((setRow_other ((((W6.alloc (.cells (headArr 0 Tree.zero) 36)).alloc (.cells (headArr 0 Tree.zero) 36)).alloc (.cells (headArr 0 Tree.zero) 36)).drew.setRow (W6.heap.size + 1 + 1) (headArr k h1)) (W6.heap.size) (W6.heap.size + 1) (headArr M h2) (by omega)).trans g21)
  have v210 := isHeadAt zero_length ((setRow_other ((((W6.alloc (.cells (headArr 0 Tree.zero) 36)).alloc (.cells (headArr 0 Tree.zero) 36)).alloc (.cells (headArr 0 Tree.zero) 36)).drew.setRow (W6.heap.size + 1 + 1) (headArr k h1)) (W6.heap.size + 1) (W6.heap.size) (headArr M h2) (by omega)).trans g20)
  clear y0 y1 y2 y3 y4 y5 y6 y7 y8 y9 y10 y11 y12 g0 g1 g2 g01 g02 g10 g12 g20 g21
  have bk1 := blockOf_at W6.heap.size
  have bk2 := blockOf_at (W6.heap.size + 1)
  have bk3 := blockOf_at (W6.heap.size + 1 + 1)
  go_cut [14, 15, 16] (fun v14 v15 v16 wx => ThreeHeads W6 k M h1 h2 v14 v15 v16 wx)
  case first =>
    go_region
    all_goals
      go_wp2_with fail
      go_meet
      exact three_heads W6 k M h1 h2 _ _ _ (by omega) (by omega) (by omega) (by omega) (by omega) (by omega)
  case rest =>
    obtain ⟨hbV, p, q, r, rfl, rfl, rfl, hp, hq, hr, hpq, hpr, hqr, e14, e15, e16⟩ := hcut
    clear f0a f0b f0c f0d f1a f1b f1c f1d f2a f2b f2c f2d f3a f3b f3c f3d f4a f4b f4c f4d f5a f5b f5c f5d f6a f6b f6c f6d f7a f7b f7c f7d f8a f8b f8c f8d f9a f9b f9c f9d f10a f10b f10c f10d f11a f11b f11c f11d f12a f12b f12c f12d v0 v1 v2 v01 v02 v10 v12 v20 v21 v012 v021 v102 v120 v201 v210 bk1 bk2 bk3 i1 i2
    obtain ⟨sa, esa⟩ : ∃ x, IntKind.i64.wrap ((k : Int) + z2) = x := ⟨_, rfl⟩
    obtain ⟨sb, esb⟩ : ∃ x, IntKind.i64.wrap ((M : Int) + z3) = x := ⟨_, rfl⟩
    have hsb : sb ≤ 9223372036854775807 := by rw [← esb]; exact wrap_le _
    obtain ⟨j, hj, ej, _, _⟩ := mod_idx z4 32 (by omega)
    obtain ⟨j1, j2⟩ := Rem.tmod_lo z4 32 (by omega)
    have ej' : Int.tmod (Int.tmod z4 32 + 32) 32 = (j : Int) := ej
    have u1 : IntKind.i64.wrap (Int.tmod z4 32) = Int.tmod z4 32 := IntWalk.i64_in _ (by omega)
    have u2 : IntKind.i64.wrap (Int.tmod z4 32 + 32) = Int.tmod z4 32 + 32 := IntWalk.i64_in _ (by omega)
    have x1 : (0 : Int) ≤ (j : Int) := by omega
    have x2 : (j : Int) < 32 := by omega
    have x3 : (j : Int).toNat = j := by omega
    have qV := heap_below Q6.out hbV
    have lt0 : w.heap.size < W6.heap.size := lt_of_block Q6.out
    have a1 := head_int e14
    have a2 := free_of_row e14 0
    have a3 : wc.cell? ⟨w.heap.size, 2, none⟩ = some (.int .i64 z2) := (cell_of_row _ _ 2 _ _ _ qV).trans rfl
    have V7q := (Below.heap_setCell wc ⟨p, 0, none⟩ (.int .i64 sa) w.heap.size (by show w.heap.size ≠ p; omega)).trans qV
    have V7e15 := (Below.heap_setCell wc ⟨p, 0, none⟩ (.int .i64 sa) q (by show q ≠ p; omega)).trans e15
    have V7e16 := (Below.heap_setCell wc ⟨p, 0, none⟩ (.int .i64 sa) r (by show r ≠ p; omega)).trans e16
    have V7e14 : (wc.setCell ⟨p, 0, none⟩ (.int .i64 sa)).heap[p]? = some (.cells (headArr sa h1) 36 (0, 0)) := by rw [heap_setCell_at e14, head_setSize]
    have b1 := head_int V7e15
    have b2 := free_of_row V7e15 0
    have b3 : (wc.setCell ⟨p, 0, none⟩ (.int .i64 sa)).cell? ⟨w.heap.size, 3, none⟩ = some (.int .i64 z3) := (cell_of_row _ _ 3 _ _ _ V7q).trans rfl
    have V8q := (Below.heap_setCell (wc.setCell ⟨p, 0, none⟩ (.int .i64 sa)) ⟨q, 0, none⟩ (.int .i64 sb) w.heap.size (by show w.heap.size ≠ q; omega)).trans V7q
    have V8e14 := (Below.heap_setCell (wc.setCell ⟨p, 0, none⟩ (.int .i64 sa)) ⟨q, 0, none⟩ (.int .i64 sb) p (by show p ≠ q; omega)).trans V7e14
    have V8e16 := (Below.heap_setCell (wc.setCell ⟨p, 0, none⟩ (.int .i64 sa)) ⟨q, 0, none⟩ (.int .i64 sb) r (by show r ≠ q; omega)).trans V7e16
    have V8e15 : ((wc.setCell ⟨p, 0, none⟩ (.int .i64 sa)).setCell ⟨q, 0, none⟩ (.int .i64 sb)).heap[q]? = some (.cells (headArr sb h2) 36 (0, 0)) := by rw [heap_setCell_at V7e15, head_setSize]
    have c1 : ((wc.setCell ⟨p, 0, none⟩ (.int .i64 sa)).setCell ⟨q, 0, none⟩ (.int .i64 sb)).cell? ⟨w.heap.size, 4, none⟩ = some (.int .i64 z4) := (cell_of_row _ _ 4 _ _ _ V8q).trans rfl
    obtain ⟨b8, hb8⟩ := hash_byte h1 j (by rw [LH1.out]; exact hj)
    rw [Array.getElem?_toList] at hb8
    have c2 : ((wc.setCell ⟨p, 0, none⟩ (.int .i64 sa)).setCell ⟨q, 0, none⟩ (.int .i64 sb)).cell? ⟨r, 1 + j, none⟩ = some (.int .u8 (b8.toNat : Int)) := (cell_of_row _ _ (1 + j) _ _ _ V8e16).trans ((headArr_succ _ _ _).trans hb8)
    have c3 := free_of_row V8e16 (1 + j)
    obtain ⟨x8, ex8⟩ := xor_byte (b8.toNat : Int) 1
    have lh3 : (h1.set j x8).length = 32 := by rw [List.length_set]; exact LH1.out
    have V9e16 : (((wc.setCell ⟨p, 0, none⟩ (.int .i64 sa)).setCell ⟨q, 0, none⟩ (.int .i64 sb)).setCell ⟨r, 1 + j, none⟩ (.int .u8 (x8.toNat : Int))).heap[r]? = some (.cells (headArr k (h1.set j x8)) 36 (0, 0)) := by rw [heap_setCell_at V8e16, head_setByte]
    have V9q := (Below.heap_setCell ((wc.setCell ⟨p, 0, none⟩ (.int .i64 sa)).setCell ⟨q, 0, none⟩ (.int .i64 sb)) ⟨r, 1 + j, none⟩ (.int .u8 (x8.toNat : Int)) w.heap.size (by show w.heap.size ≠ r; omega)).trans V8q
    have V9e14 := (Below.heap_setCell ((wc.setCell ⟨p, 0, none⟩ (.int .i64 sa)).setCell ⟨q, 0, none⟩ (.int .i64 sb)) ⟨r, 1 + j, none⟩ (.int .u8 (x8.toNat : Int)) p (by show p ≠ r; omega)).trans V8e14
    have V9e15 := (Below.heap_setCell ((wc.setCell ⟨p, 0, none⟩ (.int .i64 sa)).setCell ⟨q, 0, none⟩ (.int .i64 sb)) ⟨r, 1 + j, none⟩ (.int .u8 (x8.toNat : Int)) q (by show q ≠ r; omega)).trans V8e15
    have b69 : Below W6.heap.size W6 (((wc.setCell ⟨p, 0, none⟩ (.int .i64 sa)).setCell ⟨q, 0, none⟩ (.int .i64 sb)).setCell ⟨r, 1 + j, none⟩ (.int .u8 (x8.toNat : Int))) := ((hbV.setCell hp _).setCell hq _).setCell hr _
    have d0 := (cell_of_row _ _ 0 _ _ _ V9q).trans (show (#[.int .i64 z0, .int .i64 z1, .int .i64 z2, .int .i64 z3, .int .i64 z4] : Array Value)[0]? = some (.int .i64 z0) from rfl)
    have d1 := (cell_of_row _ _ 1 _ _ _ V9q).trans (show (#[.int .i64 z0, .int .i64 z1, .int .i64 z2, .int .i64 z3, .int .i64 z4] : Array Value)[1]? = some (.int .i64 z1) from rfl)
    have K0 : Hid (BAt w z0 z1 z2 z3 z4 W5.heap.size (W5.heap.size + 1) p q r k M sa sb h1 h2 (h1.set j x8) W2.heap.size (.slice pa pm pc) qs (((wc.setCell ⟨p, 0, none⟩ (.int .i64 sa)).setCell ⟨q, 0, none⟩ (.int .i64 sb)).setCell ⟨r, 1 + j, none⟩ (.int .u8 (x8.toNat : Int)))) :=
      ⟨below_join B6.out b69, V9q, heap_below P12.out b69, heap_below P13.out b69, V9e14, V9e15, V9e16, OWN6.out.below b69⟩
    have LH3 := Lib.hid lh3
    have HSB := Lib.hid hsb
    clear V7q V7e14 V7e15 V7e16 V8q V8e14 V8e15 V8e16 V9q V9e14 V9e15 V9e16 b69 qV e14 e15 e16 hb8 lh3 hsb hbV Q6 B6 P12 P13 OWN6 hp hq hr lt0
    go_wp2_with fail
    clear a1 a2 a3 b1 b2 b3 c1 c2 c3 d0 d1 esa esb ej ej' u1 u2 ex8
    generalize h1.set j x8 = h3 at *
    generalize (((wc.setCell ⟨p, 0, none⟩ (.int .i64 sa)).setCell ⟨q, 0, none⟩ (.int .i64 sb)).setCell ⟨r, 1 + j, none⟩ (.int .u8 (x8.toNat : Int))) = V9 at *
    refine (bent_any (.slice pa pm pc) qs z0 z1 W2.heap.size V9 K0.out.own (by have := HQS.out; omega)).mono ?_
    rintro e w2 ⟨v2, hs2, rfl, own2, hl2, hb2⟩
    obtain ⟨qa, qc, ev2⟩ := hs_sl own2.is
    obtain ⟨qm, eqm⟩ : ∃ x, hs2.length = x := ⟨_, rfl⟩
    rw [eqm] at ev2
    subst ev2
    have EQM := Lib.hid eqm
    have bz : Below w2.heap.size w2 (w2.alloc (.cells #[.slice pa pm pc, .slice qa qm qc] 38)) := (Below.refl _ _).alloc (Nat.le_refl _) _
    have K1 := Lib.hid (K0.out.step (below_join hb2 bz))
    have LB := Lib.hid (heap_alloc_new w2 (.cells #[.slice pa pm pc, .slice qa qm qc] 38))
    have I2 := Lib.hid (own2.is.below bz)
    clear bz own2 hl2 eqm hb2 K0
    go_wp2_with fail
    generalize w2.alloc (.cells #[.slice pa pm pc, .slice qa qm qc] 38) = W8 at *
    go_loopw [78] (fun v wr => ∃ a : Nat, a ≤ 2 ∧ v = .int .i64 a ∧ BAt w z0 z1 z2 z3 z4 W5.heap.size (W5.heap.size + 1) p q r k M sa sb h1 h2 h3 W2.heap.size (.slice pa pm pc) qs wr ∧ wr.heap[w2.heap.size]? = some (.cells #[.slice pa pm pc, .slice qa qm qc] 38 (0, 0)) ∧ IsHs wr (.slice qa qm qc) hs2) (fun v _ => 2 - (intOf v).toNat)
    case atStart => exact ⟨0, by omega, rfl, K1.out, LB.out, I2.out⟩
    case round =>
      obtain ⟨a, ha, rfl, hk1, hlb, hi2⟩ := hrel
      clear K1 LB I2
      by_cases ha2 : a < 2
      · have hda : decide ((a : Int) < 2) = true := by simp; omega
        have r1 : (0 : Int) ≤ (a : Int) := by omega
        have r2 : (a : Int) < 2 := by omega
        have r3 : (a : Int).toNat = a := by omega
        obtain ⟨ra, rm, rc, rh, hcr, hir, hlr⟩ : ∃ (ra : Option Addr) (rm rc : Nat) (rh : List Tree.H), wr.cell? ⟨w2.heap.size, a, none⟩ = some (.slice ra rm rc) ∧ IsHs wr (.slice ra rm rc) rh ∧ rh.length = rm := by
          have : a = 0 ∨ a = 1 := by omega
          rcases this with rfl | rfl
          · exact ⟨pa, pm, pc, qs, (cell_of_row _ _ 0 _ _ _ hlb).trans rfl, hk1.own.is, EPM.out⟩
          · exact ⟨qa, qm, qc, hs2, (cell_of_row _ _ 1 _ _ _ hlb).trans rfl, hi2, EQM.out⟩
        have a12 := isHeadAt LH1.out hk1.e12
        have b12 := rowOf_at hk1.e12
        have s12 := headArr_size k h1 LH1.out
        have a13 := isHeadAt LH2.out hk1.e13
        have b13 := rowOf_at hk1.e13
        have s13 := headArr_size M h2 LH2.out
        have a14 := isHeadAt LH1.out hk1.e14
        have b14 := rowOf_at hk1.e14
        have s14 := headArr_size sa h1 LH1.out
        have a15 := isHeadAt LH2.out hk1.e15
        have b15 := rowOf_at hk1.e15
        have s15 := headArr_size sb h2 LH2.out
        have a16 := isHeadAt LH3.out hk1.e16
        have b16 := rowOf_at hk1.e16
        have s16 := headArr_size k h3 LH3.out
        have t0 : (pairOf (.agg (headArr k h1)) (.agg (headArr M h2))).size = 66 := pairArr_size _ _ _ _ LH1.out LH2.out
        have t1 : (pairOf (.agg (headArr sa h1)) (.agg (headArr M h2))).size = 66 := pairArr_size _ _ _ _ LH1.out LH2.out
        have t2 : (pairOf (.agg (headArr k h1)) (.agg (headArr sb h2))).size = 66 := pairArr_size _ _ _ _ LH1.out LH2.out
        have t3 : (pairOf (.agg (headArr k h3)) (.agg (headArr M h2))).size = 66 := pairArr_size _ _ _ _ LH3.out LH2.out
        have t4 : (pairOf (.agg (headArr M h2)) (.agg (headArr k h1))).size = 66 := pairArr_size _ _ _ _ LH2.out LH1.out
        have t5 : (pairOf (.agg (headArr M h2)) (.agg (headArr M h2))).size = 66 := pairArr_size _ _ _ _ LH2.out LH2.out
        have t6 : (pairOf (.agg (headArr sa h1)) (.agg (headArr sb h2))).size = 66 := pairArr_size _ _ _ _ LH1.out LH2.out
        have K2 := Lib.hid hk1
        have LB2 := Lib.hid hlb
        have I3 := Lib.hid hi2
        have IR := Lib.hid hir
        have HLR := Lib.hid hlr
        clear hk1 hlb hi2 hir hlr
        go_wp2_with fail
        clear hcr a12 b12 s12 a13 b13 s13 a14 b14 s14 a15 b15 s15 a16 b16 s16 t0 t1 t2 t3 t4 t5 t6
        have bz : Below wr.heap.size wr (wr.alloc (.cells (sevenOf [.agg (pairOf (.agg (headArr k h1)) (.agg (headArr M h2))), .agg (pairOf (.agg (headArr sa h1)) (.agg (headArr M h2))), .agg (pairOf (.agg (headArr k h1)) (.agg (headArr sb h2))), .agg (pairOf (.agg (headArr k h3)) (.agg (headArr M h2))), .agg (pairOf (.agg (headArr M h2)) (.agg (headArr k h1))), .agg (pairOf (.agg (headArr M h2)) (.agg (headArr M h2))), .agg (pairOf (.agg (headArr sa h1)) (.agg (headArr sb h2)))]) 57)) := (Below.refl _ _).alloc (Nat.le_refl _) _
        have K3 := Lib.hid (K2.out.step bz)
        have LB3 := Lib.hid (heap_below LB2.out bz)
        have I4 := Lib.hid (I3.out.below bz)
        have IR4 := Lib.hid (IR.out.below bz)
        have SV := Lib.hid (heap_alloc_new wr (.cells (sevenOf [.agg (pairOf (.agg (headArr k h1)) (.agg (headArr M h2))), .agg (pairOf (.agg (headArr sa h1)) (.agg (headArr M h2))), .agg (pairOf (.agg (headArr k h1)) (.agg (headArr sb h2))), .agg (pairOf (.agg (headArr k h3)) (.agg (headArr M h2))), .agg (pairOf (.agg (headArr M h2)) (.agg (headArr k h1))), .agg (pairOf (.agg (headArr M h2)) (.agg (headArr M h2))), .agg (pairOf (.agg (headArr sa h1)) (.agg (headArr sb h2)))]) 57))
        clear bz K2 LB2 I3 IR
        obtain ⟨pv, epv⟩ : ∃ x, wr.heap.size = x := ⟨_, rfl⟩
        rw [epv] at SV
        rw [epv]
        obtain ⟨vs, evs⟩ : ∃ x : List Value, ([.agg (pairOf (.agg (headArr k h1)) (.agg (headArr M h2))), .agg (pairOf (.agg (headArr sa h1)) (.agg (headArr M h2))), .agg (pairOf (.agg (headArr k h1)) (.agg (headArr sb h2))), .agg (pairOf (.agg (headArr k h3)) (.agg (headArr M h2))), .agg (pairOf (.agg (headArr M h2)) (.agg (headArr k h1))), .agg (pairOf (.agg (headArr M h2)) (.agg (headArr M h2))), .agg (pairOf (.agg (headArr sa h1)) (.agg (headArr sb h2)))] : List Value) = x := ⟨_, rfl⟩
        rw [evs] at K3 LB3 I4 IR4 SV
        rw [evs]
        have VS : Hid (∀ b : Nat, b < 7 → ∃ (n1 : Int) (x1 : Tree.H) (n2 : Int) (x2 : Tree.H), vs[b]? = some (.agg (pairArr n1 x1 n2 x2)) ∧ x1.length = 32 ∧ x2.length = 32 ∧ n2 ≤ 9223372036854775807) := by
          intro b hb
          rw [← evs]
          have hb' : b = 0 ∨ b = 1 ∨ b = 2 ∨ b = 3 ∨ b = 4 ∨ b = 5 ∨ b = 6 := by omega
          rcases hb' with rfl | rfl | rfl | rfl | rfl | rfl | rfl
          · exact ⟨_, _, _, _, rfl, LH1.out, LH2.out, by omega⟩
          · exact ⟨_, _, _, _, rfl, LH1.out, LH2.out, by omega⟩
          · exact ⟨_, _, _, _, rfl, LH1.out, LH2.out, HSB.out⟩
          · exact ⟨_, _, _, _, rfl, LH3.out, LH2.out, by omega⟩
          · exact ⟨_, _, _, _, rfl, LH2.out, LH1.out, by omega⟩
          · exact ⟨_, _, _, _, rfl, LH2.out, LH2.out, by omega⟩
          · exact ⟨_, _, _, _, rfl, LH1.out, LH2.out, HSB.out⟩
        have VZ : Hid (∀ v ∈ vs, v.cells.size = 66) := by
          intro v hv
          obtain ⟨b, hb, rfl⟩ := List.getElem_of_mem hv
          have hl7 : vs.length = 7 := by rw [← evs]; rfl
          obtain ⟨n1, x1, n2, x2, e, l1, l2, _⟩ := VS.out b (by omega)
          rw [List.getElem?_eq_getElem hb] at e
          injection e with e
          rw [e]
          exact pairArr_size _ _ _ _ l1 l2
        clear evs epv
        generalize wr.alloc (.cells (sevenOf vs) 57) = WV at *
        go_loopw [105] (fun v wr => ∃ b : Nat, b ≤ 7 ∧ v = .int .i64 b ∧ BAt w z0 z1 z2 z3 z4 W5.heap.size (W5.heap.size + 1) p q r k M sa sb h1 h2 h3 W2.heap.size (.slice pa pm pc) qs wr ∧ wr.heap[w2.heap.size]? = some (.cells #[.slice pa pm pc, .slice qa qm qc] 38 (0, 0)) ∧ IsHs wr (.slice qa qm qc) hs2 ∧ IsHs wr (.slice ra rm rc) rh ∧ wr.heap[pv]? = some (.cells (sevenOf vs) 57 (0, 0))) (fun v _ => 7 - (intOf v).toNat)
        case atStart => exact ⟨0, by omega, rfl, K3.out, LB3.out, I4.out, IR4.out, SV.out⟩
        case round =>
          obtain ⟨b, hb, rfl, hk2, hlb2, hi3, hir2, hsv⟩ := hrel
          clear K3 LB3 I4 IR4 SV
          by_cases hb2 : b < 7
          · have hdb : decide ((b : Int) < 7) = true := by simp; omega
            have t1 : (0 : Int) ≤ (b : Int) := by omega
            have t2 : (b : Int) < 7 := by omega
            have t3 : (b : Int).toNat = b := by omega
            obtain ⟨n1, x1, n2, x2, evb, l1, l2, hn2⟩ := VS.out b hb2
            have RG := Lib.hid (seven_range hsv VZ.out b _ evb)
            have LI : Hid ((Tryd.prog.info? 57).map (·.size) = some (pairArr n1 x1 n2 x2).toList.length) := by show _ = _; rw [Array.length_toList]; exact pair_info n1 n2 x1 x2 l1 l2
            have PI := Lib.hid (pair_info n1 n2 x1 x2 l1 l2)
            have PZ : Hid ((pairArr 0 Tree.zero 0 Tree.zero).size = (pairArr n1 x1 n2 x2).size) := by show _ = _; rw [pairArr_size _ _ _ _ zero_length zero_length, pairArr_size _ _ _ _ l1 l2]
            have K4 := Lib.hid hk2
            have LB4 := Lib.hid hlb2
            have I5 := Lib.hid hi3
            have IR5 := Lib.hid hir2
            have SV5 := Lib.hid hsv
            have HN2 := Lib.hid hn2
            have L1 := Lib.hid l1
            have L2 := Lib.hid l2
            clear hk2 hlb2 hi3 hir2 hsv evb l1 l2 hn2
            go_wp2_with (first
              | ((with_reducible refine op_is ⟨some 108, .load 57 (.tmp 107), _, _, _, _⟩ ?_); refine wpList_load_mid rfl 57 (.tmp 107) rfl pv (b * 66) rfl (pairArr n1 x1 n2 x2).toList _ RG.out Tryd.underlying57 rfl LI.out ?_; rw [Array.toArray_toList])
              | ((with_reducible refine op_is ⟨none, .store 57 (.tmp 20) (.tmp 108), _, _, _, _⟩ ?_); refine store_pair L1.out L2.out (.tmp 20) (.tmp 108) rfl rfl rfl rfl rfl ?_))
            have bz : Below wr.heap.size wr (wr.alloc (.cells (pairArr n1 x1 n2 x2) 57)) := (Below.refl _ _).alloc (Nat.le_refl _) _
            have NEW := heap_alloc_new wr (.cells (pairArr n1 x1 n2 x2) 57)
            have K5 := Lib.hid (K4.out.step bz)
            have LB5 := Lib.hid (heap_below LB4.out bz)
            have I6 := Lib.hid (I5.out.below bz)
            have IR6 := Lib.hid (IR5.out.below bz)
            have SV6 := Lib.hid (heap_below SV5.out bz)
            have M1 := Lib.hid (mid_load L1.out (pair_first L1.out NEW))
            have M2 := Lib.hid (mid_load L2.out (pair_second L1.out NEW))
            obtain ⟨bb, cg, cG⟩ := grows_agree n1 n2 x1 x2 ra rm rc rh _ HN2.out IR6.out HLR.out (HT.out.below K5.out.below) L1.out L2.out
            have C1 := Lib.hid cg
            have C2 := Lib.hid cG
            clear bz NEW cg cG K4 LB4 I5 IR5 SV5 RG LI PI PZ
            generalize wr.alloc (.cells (pairArr n1 x1 n2 x2) 57) = VN at *
            go_upto_region 16 with fail
            refine wp_region_quiet_below (by kernel_rfl) (by kernel_rfl) ?_
            repeat (first | (refine quiet_load_row (by rfl) _ (.tmp 109) rfl _ _ rfl _ M1.out ?_; simp only [Act.put, List.setIfInBounds_toArray, List.set_cons_zero, List.set_cons_succ]) | (refine quiet_load_row (by rfl) _ (.tmp 111) rfl _ _ rfl _ M2.out ?_; simp only [Act.put, List.setIfInBounds_toArray, List.set_cons_zero, List.set_cons_succ]) | (refine quiet_load_row (by rfl) _ (.tmp 115) rfl _ _ rfl _ M1.out ?_; simp only [Act.put, List.setIfInBounds_toArray, List.set_cons_zero, List.set_cons_succ]) | (refine quiet_load_row (by rfl) _ (.tmp 117) rfl _ _ rfl _ M2.out ?_; simp only [Act.put, List.setIfInBounds_toArray, List.set_cons_zero, List.set_cons_succ]) | go_big_quiet_step ((first | with_reducible exact Calls.regrown_of (C1.out _ (below_regrown _ _ _)) | with_reducible exact Calls.regrown_of (C2.out _ (below_regrown _ _ _)))))
            refine wpQuiet_nil ?_
            intro _ hw'
            obtain ⟨⟨dq, osq⟩, hw''⟩ := hw'
            subst hw''
            have hq2 := below_regrown VN dq osq
            have K6 := Lib.hid (K5.out.step hq2)
            have LB6 := Lib.hid (heap_below LB5.out hq2)
            have I7 := Lib.hid (I6.out.below hq2)
            have IR7 := Lib.hid (IR6.out.below hq2)
            have SV7 := Lib.hid (heap_below SV6.out hq2)
            clear hq2 C1 C2 M1 M2 K5 LB5 I6 IR6 SV6
            generalize grow (redrawn VN dq) osq = WQ at *
            go_wp2_with fail
            go_roundw
            case rel => exact ⟨b + 1, by omega, by go_num, K6.out, LB6.out, I7.out, IR7.out, SV7.out⟩
            case measure => simp [intOf]; omega
          · obtain rfl : b = 7 := by omega
            have K4 := Lib.hid hk2
            have LB4 := Lib.hid hlb2
            have I5 := Lib.hid hi3
            clear hk2 hlb2 hi3 hir2 hsv
            go_wp2_with fail
            go_roundw
            case rel => exact ⟨a + 1, by omega, by go_num, K4.out, LB4.out, I5.out⟩
            case measure => simp [intOf]; omega
      · obtain rfl : a = 2 := by omega
        have K2 := Lib.hid hk1.below
        clear hk1 hlb hi2
        go_wp2_with fail
        go_ret
        exact ⟨rfl, K2.out⟩
theorem walk_TreeBent {w : World} (ao : Option Addr) (n0 c : Nat) (xs : List UInt8) (hx : BytesIn w ao n0 c xs) (x : Int) (wx : (Lit.int .u8 x).wf = true) (zs : List Int) (hl : zs.length = 5) (hT : Tabs w) :
    Calls Tryd.prog 9 #[.slice ao n0 c, .int .u8 x, .agg (zs.map (Value.int .i64)).toArray] w fun e w' => e = .returned (.bool true) ∧ Below w.heap.size w w' := by
  have h1 : 0 ≤ x ∧ x ≤ 255 := by simpa [Lit.wf, IntKind.min, IntKind.max, IntKind.signed, IntKind.bits] using wx
  obtain ⟨A, rfl⟩ : ∃ A : Nat, x = (A : Int) := ⟨x.toNat, by omega⟩
  match zs, hl with
  | [z0, z1, z2, z3, z4], _ => exact bentlaw_at ao n0 c xs A z0 z1 z2 z3 z4 w hx (by omega) hT
end
end Go.Proofs.YtjedhmoehepbnaaDoor
