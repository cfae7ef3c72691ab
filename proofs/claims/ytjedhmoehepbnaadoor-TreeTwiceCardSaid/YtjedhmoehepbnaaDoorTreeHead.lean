/- The struct Head: an integer and a hash. -/
import Derived.Test.YtjedhmoehepbnaaDoorTreeCheckWalk
namespace Go.Proofs.YtjedhmoehepbnaaDoor
open Go.RowKit Go.Sort
set_option linter.unusedVariables false
/-- the cells of a Head out of its two fields -/
def headOf (x y : Value) : Array Value := x.cells ++ y.cells
def headArr (n : Int) (h : Tree.H) : Array Value := headOf (.int .i64 n) (.agg (hashArr h))
theorem headArr_eq (n : Int) (h : Tree.H) : headArr n h = #[.int .i64 n] ++ hashArr h := rfl
theorem headArr_size (n : Int) (h : Tree.H) (hl : h.length = 32) : (headArr n h).size = 33 := by rw [headArr_eq]; simp [hashArr_size, hl]
theorem headArr_one (n : Int) (h : Tree.H) : (headArr n h).all (·.oneCell') = true := by
  rw [headArr_eq, Array.all_append, hashArr_one]; simp [Value.oneCell']
theorem head_infos : (Tryd.prog.info? 36).map (fun i => (i.zero, i.size, i.bytes)) = some (some (.agg (headArr 0 Tree.zero)), 33, 40) := by kernel_rfl
theorem head_info (n : Int) (h : Tree.H) (hl : h.length = 32) : (Tryd.prog.info? 36).map (·.size) = some (headArr n h).size := by
  obtain ⟨i0, hi, hz0, hz1, hz2⟩ := info_parts head_infos
  rw [hi, headArr_size n h hl, Option.map_some, hz1]
/-- a new variable for a Head: a rule of the walk -/
theorem wp_alloc_head {d : Option Tmp} {ty : TypeId} {pos : String} {after : Array Edge} {gd : Option (Nat × Bool)} {a : Act} {w : World} {K : Act → World → Prop} {Q : Exit → Act → World → Prop} :
    Oper.wp Tryd.prog ⟨d, .alloc 36, ty, pos, after, gd⟩ a w K Q = K (a.put d (.pointer (some ⟨w.heap.size, 0, none⟩))) (w.alloc (.cells (headArr 0 Tree.zero) 36)) := by
  obtain ⟨i0, hi, hz0, hz1, hz2⟩ := info_parts head_infos
  unfold Oper.wp execOp
  simp [Instr.alloc, newVar, zeroValue, typeInfo, hi, hz0, go_sem]
theorem head_fill (x y : Value) (cs : Array Value) (hc : cs.size = 33) (hx : x.cells.size = 1) (hy : y.cells.size = 32) :
    Instr.fill (fun i => ([(0, 1), (1, 32)] : List (Nat × Nat))[i]?) cs [(0, x), (1, y)] = some (headOf x y) := by
  obtain ⟨l1, e1⟩ : ∃ l, x.cells = l := ⟨_, rfl⟩
  obtain ⟨l2, e2⟩ : ∃ l, y.cells = l := ⟨_, rfl⟩
  simp only [headOf, Instr.fill, e1, e2]
  rw [e1] at hx
  rw [e2] at hy
  have f1 := Great.foldl_set 0 l1.toList 0 cs
  have z1 : l1.zipIdx.foldl (fun cs (x : Value × Nat) => cs.setIfInBounds (0 + x.2) x.1) cs = (l1.toList.zipIdx 0).foldl (fun cs (x : Value × Nat) => cs.setIfInBounds (0 + x.2) x.1) cs := by
    rw [← Array.foldl_toList, Array.toList_zipIdx]
  obtain ⟨c1, ec1⟩ : ∃ c, (l1.toList.zipIdx 0).foldl (fun cs (x : Value × Nat) => cs.setIfInBounds (0 + x.2) x.1) cs = c := ⟨_, rfl⟩
  rw [ec1] at f1 z1
  have f2 := Great.foldl_set 1 l2.toList 0 c1
  have z2 : l2.zipIdx.foldl (fun cs (x : Value × Nat) => cs.setIfInBounds (1 + x.2) x.1) c1 = (l2.toList.zipIdx 0).foldl (fun cs (x : Value × Nat) => cs.setIfInBounds (1 + x.2) x.1) c1 := by
    rw [← Array.foldl_toList, Array.toList_zipIdx]
  obtain ⟨c2, ec2⟩ : ∃ c, (l2.toList.zipIdx 0).foldl (fun cs (x : Value × Nat) => cs.setIfInBounds (1 + x.2) x.1) c1 = c := ⟨_, rfl⟩
  rw [ec2] at f2 z2
  have h1 : ([(0, 1), (1, 32)] : List (Nat × Nat))[0]? = some (0, 1) := rfl
  have h2 : ([(0, 1), (1, 32)] : List (Nat × Nat))[1]? = some (1, 32) := rfl
  rw [h1, h2]
  simp only [hx, hy, hc]
  rw [if_neg (by simp), z1, if_neg (by rw [f1.1, hc]; simp), z2]
  congr 1
  apply Array.ext_getElem?
  intro k
  rw [f2.2, f1.1, hc, f1.2, hc, Array.getElem?_append]
  simp only [Array.length_toList, hx, hy, Array.getElem?_toList]
  by_cases h0 : k = 0
  · subst h0; simp
  · by_cases h3 : k < 33
    · rw [if_pos (by omega), if_neg (by omega), show k - (1 + 0) = k - 1 by omega]
    · rw [if_neg (by omega), if_neg (by omega), if_neg (by omega), Array.getElem?_eq_none (by omega), Array.getElem?_eq_none (by omega)]
/-- 'Head{..}': a rule of the walk -/
theorem wp_build_head {d : Option Tmp} {x y : Operand} {ty : TypeId} {pos : String} {after : Array Edge} {gd : Option (Nat × Bool)} {a : Act} {w : World} {K : Act → World → Prop} {Q : Exit → Act → World → Prop} (hx : (a.eval x).cells.size = 1) (hy : (a.eval y).cells.size = 32) :
    Oper.wp Tryd.prog ⟨d, .build 36 #[(0, x), (1, y)], ty, pos, after, gd⟩ a w K Q = K (a.put d (.agg (headOf (a.eval x) (a.eval y)))) w := by
  obtain ⟨i0, hi, hz0, hz1, hz2⟩ := info_parts head_infos
  have hf := head_fill (a.eval x) (a.eval y) (headArr 0 Tree.zero) (headArr_size _ _ zero_length) hx hy
  unfold Oper.wp execOp
  simp [Instr.build, zeroValue, typeInfo, hi, hz0, run_underlying Tryd.underlying36, Tryd.sizeOf3, Tryd.sizeOf24, Oper.upon, Result.andThen, Value.cells, hf]
attribute [local go_sem ↓] wp_alloc_head wp_build_head
set_option maxHeartbeats 1000000 in
set_option maxRecDepth 100000 in
theorem head_any (f : Nat) (l : List ByteArray) (a : Option Addr) (n c : Nat) (h : List UInt8) (w : World) (hl : l.length = n) (hf : l.length ≤ 2 ^ f) (hv : IsStrs w (.slice a n c) l) (hh : Tree.root f l = h) :
    Calls Tryd.prog 22 #[.slice a n c] w fun e w' => e = .returned (.agg (headArr n h)) ∧ Below w.heap.size w w' := by
  have CR := Lib.hid (fun (W : World) (g : Below w.heap.size w W) => rroot_any f l (.slice a n c) h W hf (hv.below g) (Lib.hid hh))
  have LH : Hid (h.length = 32) := by show _ = _; rw [← hh]; exact Tree.root_length _ _
  have LH2 : Hid ((Value.agg (hashArr h)).cells.size = 32) := by show (hashArr h).size = 32; rw [hashArr_size]; exact LH.out
  have HB0 := Lib.hid ((Below.refl w.heap.size w).alloc (Nat.le_refl _) (.cells (headArr 0 Tree.zero) 36))
  have BR := Lib.hid (heap_alloc_new w (.cells (headArr 0 Tree.zero) 36))
  clear hl hf hv hh
  go_enter Tryd.func22, Tryd.ntmps22
  go_wp2_with fail
  with_reducible refine (CR.out _ HB0.out).mono ?_
  rintro ed w1 ⟨rfl, hb1⟩
  have BR1 := Lib.hid (heap_below BR.out hb1)
  have z1 : (hashArr h).size = 32 := LH2.out
  go_wp2_with (refine wpList_store_row rfl 36 (.tmp 2) (.tmp 7) rfl w.heap.size (headArr n h) rfl rfl 36 _ BR1.out (head_info _ _ LH.out) (by rw [headArr_size _ _ LH.out, headArr_size _ _ zero_length]) (headArr_one _ _) ?_)
  refine bodyPost_ret (v := .agg (headArr n h)) (results_cell_row Tryd.results22 _ _ w.heap.size 36 (headArr n h) (0, 0) _ rfl (setRow_heap _ _ _ _ _ _ BR1.out) Tryd.underlying36 rfl (head_info _ _ LH.out)) rfl ⟨rfl, below_setRow (HB0.out.trans (hb1.mono HB0.out.size)) (Nat.le_refl _) _⟩
end Go.Proofs.YtjedhmoehepbnaaDoor
