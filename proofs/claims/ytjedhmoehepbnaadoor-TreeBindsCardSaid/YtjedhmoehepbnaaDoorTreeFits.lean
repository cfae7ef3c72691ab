/- The struct Head; the contracts of HeadOf, CheckPath and the law's fits. -/
import Derived.Test.YtjedhmoehepbnaaDoorTreeCheckWalk
import Derived.Deep.MidRow
namespace Go.Proofs.YtjedhmoehepbnaaDoor
open Go.RowKit Go.Sort
set_option linter.unusedVariables false
section
/-- the cells of a Head out of its two fields -/
def headOf (x y : Value) : Array Value := x.cells ++ y.cells
def headArr (n : Int) (h : Tree.H) : Array Value := headOf (.int .i64 n) (.agg (hashArr h))
theorem headArr_eq (n : Int) (h : Tree.H) : headArr n h = #[.int .i64 n] ++ hashArr h := rfl
theorem headArr_size (n : Int) (h : Tree.H) (hl : h.length = 32) : (headArr n h).size = 33 := by rw [headArr_eq]; simp [hashArr_size, hl]
theorem headArr_one (n : Int) (h : Tree.H) : (headArr n h).all (·.oneCell') = true := by
  rw [headArr_eq, Array.all_append, hashArr_one]; simp [Value.oneCell']
theorem head_infos : (Tryd.prog.info? 36).map (fun i => (i.zero, i.size, i.bytes)) = some (some (.agg (headArr 0 Tree.zero)), 33, 40) := by kernel_rfl
theorem head_info (n : Int) (h : Tree.H) (hl : h.length = 32) : (Tryd.prog.info? 36).map (·.size) = some (headArr n h).size := by
  obtain ⟨i0, hi, hz0, hz1, hz2⟩ := info_parts head_infos
  rw [hi, headArr_size n h hl, Option.map_some, hz1]
/-- a new variable for a Head: a rule of the walk -/
theorem wp_alloc_head {d : Option Tmp} {ty : TypeId} {pos : String} {after : Array Edge} {gd : Option (Nat × Bool)} {a : Act} {w : World} {K : Act → World → Prop} {Q : Exit → Act → World → Prop} :
    Oper.wp Tryd.prog ⟨d, .alloc 36, ty, pos, after, gd⟩ a w K Q = K (a.put d (.pointer (some ⟨w.heap.size, 0, none⟩))) (w.alloc (.cells (headArr 0 Tree.zero) 36)) := by
  obtain ⟨i0, hi, hz0, hz1, hz2⟩ := info_parts head_infos
  unfold Oper.wp execOp
  simp [Instr.alloc, newVar, zeroValue, typeInfo, hi, hz0, go_sem]
theorem head_fill (x y : Value) (cs : Array Value) (hc : cs.size = 33) (hx : x.cells.size = 1) (hy : y.cells.size = 32) :
    Instr.fill (fun i => ([(0, 1), (1, 32)] : List (Nat × Nat))[i]?) cs [(0, x), (1, y)] = some (headOf x y) := by
  obtain ⟨l1, e1⟩ : ∃ l, x.cells = l := ⟨_, rfl⟩
  obtain ⟨l2, e2⟩ : ∃ l, y.cells = l := ⟨_, rfl⟩
  simp only [headOf, Instr.fill, e1, e2]
  rw [e1] at hx
  rw [e2] at hy
  have f1 := Great.foldl_set 0 l1.toList 0 cs
  have z1 : l1.zipIdx.foldl (fun cs (x : Value × Nat) => cs.setIfInBounds (0 + x.2) x.1) cs = (l1.toList.zipIdx 0).foldl (fun cs (x : Value × Nat) => cs.setIfInBounds (0 + x.2) x.1) cs := by
    rw [← Array.foldl_toList, Array.toList_zipIdx]
  obtain ⟨c1, ec1⟩ : ∃ c, (l1.toList.zipIdx 0).foldl (fun cs (x : Value × Nat) => cs.setIfInBounds (0 + x.2) x.1) cs = c := ⟨_, rfl⟩
  rw [ec1] at f1 z1
  have f2 := Great.foldl_set 1 l2.toList 0 c1
  have z2 : l2.zipIdx.foldl (fun cs (x : Value × Nat) => cs.setIfInBounds (1 + x.2) x.1) c1 = (l2.toList.zipIdx 0).foldl (fun cs (x : Value × Nat) => cs.setIfInBounds (1 + x.2) x.1) c1 := by
    rw [← Array.foldl_toList, Array.toList_zipIdx]
  obtain ⟨c2, ec2⟩ : ∃ c, (l2.toList.zipIdx 0).foldl (fun cs (x : Value × Nat) => cs.setIfInBounds (1 + x.2) x.1) c1 = c := ⟨_, rfl⟩
  rw [ec2] at f2 z2
  have h1 : ([(0, 1), (1, 32)] : List (Nat × Nat))[0]? = some (0, 1) := rfl
  have h2 : ([(0, 1), (1, 32)] : List (Nat × Nat))[1]? = some (1, 32) := rfl
  rw [h1, h2]
  simp only [hx, hy, hc]
  rw [if_neg (by simp), z1, if_neg (by rw [f1.1, hc]; simp), z2]
  congr 1
  apply Array.ext_getElem?
  intro k
  rw [f2.2, f1.1, hc, f1.2, hc, Array.getElem?_append]
  simp only [Array.length_toList, hx, hy, Array.getElem?_toList]
  by_cases h0 : k = 0
  · subst h0; simp
  · by_cases h3 : k < 33
    · rw [if_pos (by omega), if_neg (by omega), show k - (1 + 0) = k - 1 by omega]
    · rw [if_neg (by omega), if_neg (by omega), if_neg (by omega), Array.getElem?_eq_none (by omega), Array.getElem?_eq_none (by omega)]
/-- 'Head{..}': a rule of the walk -/
theorem wp_build_head {d : Option Tmp} {x y : Operand} {ty : TypeId} {pos : String} {after : Array Edge} {gd : Option (Nat × Bool)} {a : Act} {w : World} {K : Act → World → Prop} {Q : Exit → Act → World → Prop} (hx : (a.eval x).cells.size = 1) (hy : (a.eval y).cells.size = 32) :
    Oper.wp Tryd.prog ⟨d, .build 36 #[(0, x), (1, y)], ty, pos, after, gd⟩ a w K Q = K (a.put d (.agg (headOf (a.eval x) (a.eval y)))) w := by
  obtain ⟨i0, hi, hz0, hz1, hz2⟩ := info_parts head_infos
  have hf := head_fill (a.eval x) (a.eval y) (headArr 0 Tree.zero) (headArr_size _ _ zero_length) hx hy
  unfold Oper.wp execOp
  simp [Instr.build, zeroValue, typeInfo, hi, hz0, run_underlying Tryd.underlying36, Tryd.sizeOf3, Tryd.sizeOf24, Oper.upon, Result.andThen, Value.cells, hf]
attribute [local go_sem ↓] wp_alloc_head wp_build_head
set_option maxHeartbeats 1000000 in
set_option maxRecDepth 100000 in
theorem head_any (f : Nat) (l : List ByteArray) (a : Option Addr) (n c : Nat) (h : List UInt8) (w : World) (hl : l.length = n) (hf : l.length ≤ 2 ^ f) (hv : IsStrs w (.slice a n c) l) (hh : Tree.root f l = h) :
    Calls Tryd.prog 22 #[.slice a n c] w fun e w' => e = .returned (.agg (headArr n h)) ∧ Below w.heap.size w w' := by
  have CR := Lib.hid (fun (W : World) (g : Below w.heap.size w W) => rroot_any f l (.slice a n c) h W hf (hv.below g) (Lib.hid hh))
  have LH : Hid (h.length = 32) := by show _ = _; rw [← hh]; exact Tree.root_length _ _
  have LH2 : Hid ((Value.agg (hashArr h)).cells.size = 32) := by show (hashArr h).size = 32; rw [hashArr_size]; exact LH.out
  have HB0 := Lib.hid ((Below.refl w.heap.size w).alloc (Nat.le_refl _) (.cells (headArr 0 Tree.zero) 36))
  have BR := Lib.hid (heap_alloc_new w (.cells (headArr 0 Tree.zero) 36))
  clear hl hf hv hh
  go_enter Tryd.func22, Tryd.ntmps22
  go_wp2_with fail
  with_reducible refine (CR.out _ HB0.out).mono ?_
  rintro ed w1 ⟨rfl, hb1⟩
  have BR1 := Lib.hid (heap_below BR.out hb1)
  have z1 : (hashArr h).size = 32 := LH2.out
  go_wp2_with (refine wpList_store_row rfl 36 (.tmp 2) (.tmp 7) rfl w.heap.size (headArr n h) rfl rfl 36 _ BR1.out (head_info _ _ LH.out) (by rw [headArr_size _ _ LH.out, headArr_size _ _ zero_length]) (headArr_one _ _) ?_)
  refine bodyPost_ret (v := .agg (headArr n h)) (results_cell_row Tryd.results22 _ _ w.heap.size 36 (headArr n h) (0, 0) _ rfl (setRow_heap _ _ _ _ _ _ BR1.out) Tryd.underlying36 rfl (head_info _ _ LH.out)) rfl ⟨rfl, below_setRow (HB0.out.trans (hb1.mono HB0.out.size)) (Nat.le_refl _) _⟩
end
section
theorem push_old {h : Array Obj} {o : Obj} {k : Nat} (hk : k < h.size) : (h.push o)[k]? = h[k]? := by rw [Array.getElem?_push, if_neg (by omega)]
theorem push_new {h : Array Obj} {o : Obj} {k : Nat} (hk : k = h.size) : (h.push o)[k]? = some o := by rw [Array.getElem?_push, if_pos hk]
attribute [local go_sem ↓] wp_alloc_hash wp_load_at
set_option maxHeartbeats 2000000 in
set_option maxRecDepth 100000 in
theorem check_no (size n : Int) (r : Tree.H) (s : ByteArray) (a : Option Addr) (m c : Nat) (w : World) (h : n < 0 ∨ size ≤ n) :
    Calls Tryd.prog 41 #[.int .i64 size, .agg (hashArr r), .int .i64 n, .string s, .slice a m c] w fun e w' => e = .returned (.bool false) ∧ Below w.heap.size w w' := by
  by_cases h0 : n < 0
  · have d0 : decide (n < 0) = true := by simpa using h0
    go_enter Tryd.func41, Tryd.ntmps41
    go_wp2_with fail
    go_ret
    exact ⟨rfl, (((Below.refl _ _).alloc (Nat.le_refl _) _).alloc (by simp) _).alloc (by simp; omega) _⟩
  · have d0 : decide (n < 0) = false := by simpa using h0
    have d1 : decide (size ≤ n) = true := by simp; omega
    go_enter Tryd.func41, Tryd.ntmps41
    go_wp2_with fail
    go_ret
    exact ⟨rfl, (((Below.refl _ _).alloc (Nat.le_refl _) _).alloc (by simp) _).alloc (by simp; omega) _⟩
/-- the memory in which CheckPath calls its walk -/
def pathWorld (w : World) (r : Tree.H) (s : ByteArray) (vp : Value) : World :=
  (((((((w.alloc (.cells (hashArr r) 24)).alloc (.cells #[.string s] 9)).alloc (.cells #[vp] 38)).alloc (.cells #[.int .i64 0] 3)).alloc (.cells #[.bool true] 4)).alloc
    (.cells #[.func (.func 57) #[] #[.pointer (some ⟨w.heap.size + 1 + 1 + 1, 0, none⟩), .pointer (some ⟨w.heap.size + 1 + 1, 0, none⟩), .pointer (some ⟨w.heap.size + 1 + 1 + 1 + 1, 0, none⟩)]] 83)).alloc
    (.cells #[.func (.func 58) #[] #[.pointer (some ⟨w.heap.size + 1, 0, none⟩), .pointer (some ⟨w.heap.size + 1 + 1 + 1 + 1 + 1 + 1, 0, none⟩), .pointer (some ⟨w.heap.size + 1 + 1 + 1 + 1 + 1, 0, none⟩)]] 84))
theorem pathWorld_below (w : World) (r : Tree.H) (s : ByteArray) (vp : Value) : Below w.heap.size w (pathWorld w r s vp) := by
  unfold pathWorld
  refine (((((((Below.refl _ _).alloc ?_ _).alloc ?_ _).alloc ?_ _).alloc ?_ _).alloc ?_ _).alloc ?_ _).alloc ?_ _ <;> simp <;> omega
theorem pathWorld_root (w : World) (r : Tree.H) (s : ByteArray) (vp : Value) : (pathWorld w r s vp).heap[w.heap.size]? = some (.cells (hashArr r) 24 (0, 0)) := by
  (show (((((((w.heap.push _).push _).push _).push _).push _).push _).push _)[_]? = _; repeat (first | exact push_new (by simp) | rw [push_old (by simp only [Array.size_push]; omega)]))
theorem pathWorld_vars (w : World) (r : Tree.H) (s : ByteArray) (vp : Value) : Vars w (w.heap.size + 1 + 1 + 1) (w.heap.size + 1 + 1 + 1 + 1) (w.heap.size + 1 + 1) 0 true vp (pathWorld w r s vp) := by
  refine ⟨pathWorld_below w r s vp, by omega, by omega, by omega, by omega, by omega, by omega, ?_, ?_, ?_⟩ <;> (show (((((((w.heap.push _).push _).push _).push _).push _).push _).push _)[_]? = _; repeat (first | exact push_new (by simp) | rw [push_old (by simp only [Array.size_push]; omega)]))
theorem pathWorld_boxes (w : World) (r : Tree.H) (s : ByteArray) (vp : Value) : Boxes w (w.heap.size + 1 + 1 + 1) (w.heap.size + 1 + 1 + 1 + 1) (w.heap.size + 1 + 1) (w.heap.size + 1) (w.heap.size + 1 + 1 + 1 + 1 + 1 + 1) (w.heap.size + 1 + 1 + 1 + 1 + 1) s (pathWorld w r s vp) := by
  refine ⟨cell_of_one (t := 9) ?_, cell_of_one (t := 84) ?_, cell_of_one (t := 83) ?_, by omega, by omega, by omega⟩ <;> (show (((((((w.heap.push _).push _).push _).push _).push _).push _).push _)[_]? = _; repeat (first | exact push_new (by simp) | rw [push_old (by simp only [Array.size_push]; omega)]))
set_option maxHeartbeats 4000000 in
set_option maxRecDepth 100000 in
theorem check_yes (f size n : Nat) (r x : Tree.H) (s : ByteArray) (a : Option Addr) (m c : Nat) (hs : List Tree.H) (w : World) (b : Bool) (hp : IsHs w (.slice a m c) hs) (hm : hs.length = m) (hT : Tabs w) (hsz : s.size ≤ 140737488354000) (hr : r.length = 32) (hx : Tree.leaf s = x) (hn : n < size) (hf : size ≤ 2 ^ f) (hb : size ≤ 9223372036854775807) (hfit : Tree.fits f size r n x hs = b) :
    Calls Tryd.prog 41 #[.int .i64 (size : Int), .agg (hashArr r), .int .i64 (n : Int), .string s, .slice a m c] w fun e w' => e = .returned (.bool b) ∧ Below w.heap.size w w' := by
  have d0 : decide ((n : Int) < 0) = false := by simp
  have d1 : decide ((size : Int) ≤ (n : Int)) = false := by simp; omega
  have lx : x.length = 32 := by rw [← hx]; exact Tree.leaf_length s
  rw [← Tree.fits_walk f size r n x hs hn] at hfit
  have lta := walk_length f x hs n size 0 true lx
  have ltu := walk_le f x hs n size 0 true (by omega)
  have CW := Lib.hid (walk1_any w (w.heap.size + 1 + 1 + 1) (w.heap.size + 1 + 1 + 1 + 1) (w.heap.size + 1 + 1) (w.heap.size + 1) (w.heap.size + 1 + 1 + 1 + 1 + 1 + 1) (w.heap.size + 1 + 1 + 1 + 1 + 1) (.slice a m c) hs s x hp hT hsz hx f size n 0 true _ (pathWorld w r s (.slice a m c)) (by omega) hn hf hb (by omega) (pathWorld_vars w r s _) (pathWorld_boxes w r s _) (Lib.hid rfl))
  generalize Tree.walk f x hs n size (0, true) = rr at hfit lta ltu CW
  obtain ⟨ta, tu, te⟩ := rr
  have HB := Lib.hid (pathWorld_below w r s (.slice a m c))
  have HR := Lib.hid (pathWorld_root w r s (.slice a m c))
  rw [hm] at hfit
  have HF := Lib.hid hfit
  have LTA := Lib.hid lta
  have LR := Lib.hid hr
  clear hp hT hsz hx hf lx hfit lta ltu hr hm
  go_enter Tryd.func41, Tryd.ntmps41
  go_wp2_with fail
  refine CW.out.mono ?_
  rintro ed w1 ⟨rfl, hk1, hv1⟩
  have LZ : Hid ((hashArr Tree.zero).size = 32) := by show _ = _; rw [hashArr_size]; exact zero_length
  have bw : Below w1.heap.size w1 (w1.alloc (.cells (hashArr ta) 24)) := (Below.refl _ _).alloc (Nat.le_refl _) _
  have hv2 := hv1.mono bw
  have hU := cell_of_one hv2.atU
  have hE := cell_of_one hv2.atE
  have hP := cell_of_one hv2.atP
  have hr1 := heap_below (hk1.heap HR.out (by omega) (by omega)) bw
  have ha1 := isHashAt LTA.out (heap_alloc_new w1 (.cells (hashArr ta) 24))
  have ha2 := hashOf_at (heap_alloc_new w1 (.cells (hashArr ta) 24))
  have ha3 := isHashAt LR.out hr1
  have ha4 := hashOf_at hr1
  have heq := fun W => hash_eql ta r LTA.out LR.out W
  have HV2 := Lib.hid hv2.below
  clear hv1 hv2 hk1 bw hr1
  cases te with
  | false =>
    go_wp2_with ((with_reducible refine op_is ⟨none, .store 24 (.tmp 15) (.tmp 28), _, _, _, _⟩ ?_); refine store_hash LTA.out LZ.out (.tmp 15) (.tmp 28) rfl rfl rfl rfl rfl ?_)
    go_ret
    exact ⟨ret_bool HF.out, HV2.out⟩
  | true =>
    by_cases htm : tu = m
    · subst htm
      have hq1 : ((tu : Int) == (tu : Int)) = true := by simp
      go_wp2_with ((with_reducible refine op_is ⟨none, .store 24 (.tmp 15) (.tmp 28), _, _, _, _⟩ ?_); refine store_hash LTA.out LZ.out (.tmp 15) (.tmp 28) rfl rfl rfl rfl rfl ?_)
      go_ret
      exact ⟨ret_bool (by have := HF.out; simpa using this), HV2.out⟩
    · have hq1 : ((tu : Int) == (m : Int)) = false := by simp; omega
      go_wp2_with ((with_reducible refine op_is ⟨none, .store 24 (.tmp 15) (.tmp 28), _, _, _, _⟩ ?_); refine store_hash LTA.out LZ.out (.tmp 15) (.tmp 28) rfl rfl rfl rfl rfl ?_)
      go_ret
      exact ⟨ret_bool (by rw [← HF.out, show (tu == m) = false by simpa using htm]; rfl), HV2.out⟩
end
section
theorem headArr_zero (n : Int) (h : Tree.H) : (headArr n h)[0]? = some (.int .i64 n) := by rw [headArr_eq, Array.getElem?_append]; rfl
theorem headArr_succ (n : Int) (h : Tree.H) (k : Nat) : (headArr n h)[1 + k]? = (hashArr h)[k]? := by
  rw [headArr_eq, Array.getElem?_append, if_neg (by simp), show 1 + k - (#[Value.int IntKind.i64 n]).size = k by simp]
theorem head_int {w : World} {g : Nat} {n : Int} {h : Tree.H} (hg : w.heap[g]? = some (.cells (headArr n h) 36 (0, 0))) : w.cell? ⟨g, 0, none⟩ = some (.int .i64 n) :=
  (cell_of_row _ _ 0 _ _ _ hg).trans (headArr_zero n h)
theorem head_hash {w : World} {g : Nat} {n : Int} {h : Tree.H} (hg : w.heap[g]? = some (.cells (headArr n h) 36 (0, 0))) : w.rangeAt g 1 (hashArr h).toList := by
  intro j v hv
  rw [Array.getElem?_toList] at hv
  exact (cell_of_row _ _ (1 + j) _ _ _ hg).trans ((headArr_succ n h j).trans hv)
theorem hash_infoL (h : Tree.H) (hl : h.length = 32) : (Tryd.prog.info? 24).map (·.size) = some (hashArr h).toList.length := by
  have := hash_info h hl; rw [Array.length_toList]; exact this
set_option maxHeartbeats 1000000 in
set_option maxRecDepth 100000 in
theorem fits_any (size n : Int) (r : Tree.H) (s : ByteArray) (v : Value) (b : Bool) (w : World) (hr : r.length = 32)
    (C : ∀ W, Below w.heap.size w W → Calls Tryd.prog 41 #[.int .i64 size, .agg (hashArr r), .int .i64 n, .string s, v] W fun e w' => e = .returned (.bool b) ∧ Below W.heap.size W w') :
    Calls Tryd.prog 21 #[.agg (headArr size r), .int .i64 n, .string s, v] w fun e w' => e = .returned (.bool b) ∧ Below w.heap.size w w' := by
  have b0 : Below w.heap.size w (w.alloc (.cells (headArr size r) 36)) := (Below.refl _ _).alloc (Nat.le_refl _) _
  have h0 := heap_alloc_new w (.cells (headArr size r) 36)
  have hI := head_int h0
  have HH := Lib.hid (head_hash h0)
  have CC := Lib.hid (C _ b0)
  have B0 := Lib.hid b0
  have LI := Lib.hid (hash_infoL r hr)
  clear C b0 h0 hr
  go_enter Tryd.func21, Tryd.ntmps21
  go_wp2_with ((with_reducible refine op_is ⟨some 12, .load 24 (.tmp 11), _, _, _, _⟩ ?_); refine wpList_load_mid rfl 24 (.tmp 11) rfl w.heap.size 1 rfl (hashArr r).toList _ HH.out Tryd.underlying24 rfl LI.out ?_; rw [Array.toArray_toList])
  refine CC.out.mono ?_
  rintro ed w1 ⟨rfl, hb1⟩
  go_wp2_with fail
  go_ret
  exact ⟨rfl, below_join B0.out hb1⟩
end
end Go.Proofs.YtjedhmoehepbnaaDoor
