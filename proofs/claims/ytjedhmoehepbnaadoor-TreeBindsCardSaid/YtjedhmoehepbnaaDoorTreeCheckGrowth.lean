/- The contract of CheckGrowth: what the reference says of a growth. -/
import Derived.Test.YtjedhmoehepbnaaDoorTreeGLeft
import Derived.Test.YtjedhmoehepbnaaDoorTreeGRight
import Derived.Test.YtjedhmoehepbnaaDoorTreeFits
namespace Go.Proofs.YtjedhmoehepbnaaDoor
open Go.RowKit Go.Sort
set_option linter.unusedVariables false
theorem gwalk1_any (w0 : World) (U E P R G K : Nat) (vp : Value) (hs : List Tree.H) (old : Tree.H) (hp : IsHs w0 vp hs) (hT0 : Tabs w0) (lo : old.length = 32) :
    ∀ (f m n u : Nat) (b e : Bool) (w : World), 1 ≤ m → m ≤ n → n ≤ 2 ^ f → n ≤ 9223372036854775807 → u ≤ hs.length → Vars w0 U E P u e vp w → GBoxes w0 U E P R G K old w →
    Calls Tryd.prog 60 #[.int .i64 (m : Int), .int .i64 (n : Int), .bool b, .pointer (some ⟨R, 0, none⟩), .pointer (some ⟨K, 0, none⟩), .pointer (some ⟨G, 0, none⟩)] w (Takes2 w0 U E P vp (Tree.gwalk f old hs m n b (u, e)) w) := by
  intro f
  induction f with
  | zero =>
    intro m n u b e w h1 hmn hf hnm hu hv hb
    have : (2 : Nat) ^ 0 = 1 := rfl
    obtain rfl : m = n := by omega
    exact gwalk1_leaf w0 U E P R G K u m b e vp hs old w hp hu lo hv hb
  | succ f ih =>
    intro m n u b e w h1 hmn hf hnm hu hv hb
    rw [Tree.gwalk]
    by_cases he : m = n
    · rw [if_pos he]
      subst he
      exact gwalk1_leaf w0 U E P R G K u m b e vp hs old w hp hu lo hv hb
    · rw [if_neg he]
      have hk0 := Tree.half_pos n
      have hk1 := Tree.half_lt n (by omega)
      have hf1 := Tree.half_pow n f (by omega) hf
      have hf2 := Tree.rest_pow n f (by omega) hf
      by_cases hmk : m ≤ Tree.half n
      · rw [if_pos hmk]
        have l1 := gwalk_length f old hs m (Tree.half n) b u e hp.1 lo hu
        have l2 := gwalk_le f old hs m (Tree.half n) b u e hu
        have C := fun W hv hb => ih m (Tree.half n) u b e W h1 hmk hf1 (by omega) hu hv hb
        generalize Tree.gwalk f old hs m (Tree.half n) b (u, e) = y at *
        obtain ⟨⟨a1, a2⟩, ru, re⟩ := y
        exact gwalk1_left w0 U E P R G K vp hs old hp hT0 m n (Tree.half n) u b e a1 a2 ru re w h1 (by omega) hnm hk0 hk1 rfl hmk l1.1 l1.2 l2 hv hb C
      · rw [if_neg hmk]
        have l1 := gwalk_length f old hs (m - Tree.half n) (n - Tree.half n) false u e hp.1 lo hu
        have l2 := gwalk_le f old hs (m - Tree.half n) (n - Tree.half n) false u e hu
        have C := fun W hv hb => ih (m - Tree.half n) (n - Tree.half n) u false e W (by omega) (by omega) hf2 (by omega) hu hv hb
        generalize Tree.gwalk f old hs (m - Tree.half n) (n - Tree.half n) false (u, e) = y at *
        obtain ⟨⟨a1, a2⟩, ru, re⟩ := y
        exact gwalk1_right w0 U E P R G K vp hs old hp hT0 m n (Tree.half n) u b e a1 a2 ru re w h1 (by omega) hnm hk0 hk1 rfl (by omega) l1.1 l1.2 l2 hv hb C
attribute [local go_sem ↓] wp_alloc_hash wp_load_at
theorem three_below (w : World) (a b c : Obj) : Below w.heap.size w (((w.alloc a).alloc b).alloc c) := (((Below.refl _ _).alloc (Nat.le_refl _) _).alloc (by simp) _).alloc (by simp; omega) _
set_option maxHeartbeats 2000000 in
set_option maxRecDepth 100000 in
theorem grow_no (size next : Int) (r t : Tree.H) (a : Option Addr) (m c : Nat) (w : World) (h : size < 0 ∨ next < size) :
    Calls Tryd.prog 48 #[.int .i64 size, .agg (hashArr r), .int .i64 next, .agg (hashArr t), .slice a m c] w fun e w' => e = .returned (.bool false) ∧ Below w.heap.size w w' := by
  by_cases h0 : size < 0
  · have d0 : decide (size < 0) = true := by simpa using h0
    go_enter Tryd.func48, Tryd.ntmps48
    go_wp2_with fail
    go_ret
    exact ⟨rfl, three_below _ _ _ _⟩
  · have d0 : decide (size < 0) = false := by simpa using h0
    have d1 : decide (next < size) = true := by simp; omega
    go_enter Tryd.func48, Tryd.ntmps48
    go_wp2_with fail
    go_ret
    exact ⟨rfl, three_below _ _ _ _⟩
set_option maxHeartbeats 2000000 in
set_option maxRecDepth 100000 in
theorem grow_eq (size : Int) (r t : Tree.H) (a : Option Addr) (m c : Nat) (w : World) (h : 0 ≤ size) (lr : r.length = 32) (lt : t.length = 32) (b : Bool) (hb : (r == t && m == 0) = b) :
    Calls Tryd.prog 48 #[.int .i64 size, .agg (hashArr r), .int .i64 size, .agg (hashArr t), .slice a m c] w fun e w' => e = .returned (.bool b) ∧ Below w.heap.size w w' := by
  have d0 : decide (size < 0) = false := by simp; omega
  have d1 : decide (size < size) = false := by simp
  have d2 : (size == size) = true := by simp
  have B := Lib.hid (three_below w (.cells (hashArr r) 24) (.cells (hashArr t) 24) (.cells #[.slice a m c] 38))
  have hr : (((w.alloc (.cells (hashArr r) 24)).alloc (.cells (hashArr t) 24)).alloc (.cells #[.slice a m c] 38)).heap[w.heap.size]? = some (.cells (hashArr r) 24 (0, 0)) := by
    show (((w.heap.push _).push _).push _)[_]? = _; repeat (first | exact push_new (by simp) | rw [push_old (by simp only [Array.size_push]; omega)])
  have ht : (((w.alloc (.cells (hashArr r) 24)).alloc (.cells (hashArr t) 24)).alloc (.cells #[.slice a m c] 38)).heap[w.heap.size + 1]? = some (.cells (hashArr t) 24 (0, 0)) := by
    show (((w.heap.push _).push _).push _)[_]? = _; repeat (first | exact push_new (by simp) | rw [push_old (by simp only [Array.size_push]; omega)])
  have f1 := isHashAt lr hr
  have f2 := hashOf_at hr
  have f3 := isHashAt lt ht
  have f4 := hashOf_at ht
  have heq := fun W => hash_eql r t lr lt W
  have HB := Lib.hid hb
  clear hr ht hb
  cases hrt : (r == t) with
  | false =>
    rw [hrt] at heq HB
    go_enter Tryd.func48, Tryd.ntmps48
    go_wp2_with fail
    go_ret
    exact ⟨ret_bool HB.out, B.out⟩
  | true =>
    rw [hrt] at heq HB
    go_enter Tryd.func48, Tryd.ntmps48
    go_wp2_with fail
    go_ret
    exact ⟨ret_bool (by rw [← HB.out, Bool.eq_iff_iff]; simp <;> omega), B.out⟩
set_option maxHeartbeats 2000000 in
set_option maxRecDepth 100000 in
theorem grow_zero (next : Int) (r t z : Tree.H) (a : Option Addr) (m c : Nat) (w : World) (h : 0 < next) (hT : Tabs w) (lr : r.length = 32) (hz : Sha.sum [] = z) (b : Bool) (hb : (r == z && m == 0) = b) :
    Calls Tryd.prog 48 #[.int .i64 0, .agg (hashArr r), .int .i64 next, .agg (hashArr t), .slice a m c] w fun e w' => e = .returned (.bool b) ∧ Below w.heap.size w w' := by
  have d1 : decide (next < 0) = false := by simp; omega
  have d2 : ((0 : Int) == next) = false := by simp; omega
  have lz : z.length = 32 := by rw [← hz, ← root_nil 0]; exact Tree.root_length _ _
  have B := Lib.hid (three_below w (.cells (hashArr r) 24) (.cells (hashArr t) 24) (.cells #[.slice a m c] 38))
  have hr : (((w.alloc (.cells (hashArr r) 24)).alloc (.cells (hashArr t) 24)).alloc (.cells #[.slice a m c] 38)).heap[w.heap.size]? = some (.cells (hashArr r) 24 (0, 0)) := by
    show (((w.heap.push _).push _).push _)[_]? = _; repeat (first | exact push_new (by simp) | rw [push_old (by simp only [Array.size_push]; omega)])
  have hp : (((w.alloc (.cells (hashArr r) 24)).alloc (.cells (hashArr t) 24)).alloc (.cells #[.slice a m c] 38)).heap[w.heap.size + 1 + 1]? = some (.cells #[.slice a m c] 38 (0, 0)) := by
    show (((w.heap.push _).push _).push _)[_]? = _; repeat (first | exact push_new (by simp) | rw [push_old (by simp only [Array.size_push]; omega)])
  have L6 := Lib.hid (hash_load lr hr)
  have hc := cell_of_one hp
  have hc3 : ∀ d os, (grow (redrawn (((w.alloc (.cells (hashArr r) 24)).alloc (.cells (hashArr t) 24)).alloc (.cells #[.slice a m c] 38)) d) os).cell? ⟨w.heap.size + 1 + 1, 0, none⟩ = some (.slice a m c) := fun d os => ((below_regrown _ d os).cell (p := ⟨w.heap.size + 1 + 1, 0, none⟩) (block_lt_of_cell hc)).trans hc
  have CR := Lib.hid (fun (V : World) (g : Below (((w.alloc (.cells (hashArr r) 24)).alloc (.cells (hashArr t) 24)).alloc (.cells #[.slice a m c] 38)).heap.size (((w.alloc (.cells (hashArr r) 24)).alloc (.cells (hashArr t) 24)).alloc (.cells #[.slice a m c] 38)) V) => root_any 0 [] (.slice none 0 0) z V (by simp) ⟨(fun s hs => by cases hs), .inl ⟨rfl, _, _, rfl⟩⟩ ((hT.below B.out).below g) ((root_nil 0).trans hz))
  have heq := fun W => hash_eql r z lr lz W
  have HB := Lib.hid hb
  clear hr hp hc hb hz hT
  cases hrt : (r == z) with
  | false =>
    rw [hrt] at heq HB
    go_enter Tryd.func48, Tryd.ntmps48
    go_wp2_with fail
    generalize (((w.alloc (.cells (hashArr r) 24)).alloc (.cells (hashArr t) 24)).alloc (.cells #[.slice a m c] 38)) = W at *
    refine wp_region_quiet_below (by kernel_rfl) (by kernel_rfl) ?_
    repeat (first | (refine quiet_load_row (by rfl) _ (.tmp 6) rfl _ _ rfl _ L6.out ?_; simp only [Act.put, List.setIfInBounds_toArray, List.set_cons_zero, List.set_cons_succ]) | go_big_quiet_step ((first | with_reducible exact Calls.regrown_of (CR.out _ (below_regrown _ _ _)))))
    refine wpQuiet_nil ?_
    intro _ hw'
    obtain ⟨⟨dq, osq⟩, hw''⟩ := hw'
    subst hw''
    have hq := below_regrown W dq osq
    have HBQ := Lib.hid (below_join B.out hq)
    clear hq
    generalize grow (redrawn W dq) osq = W1 at *
    go_wp2_with fail
    go_ret
    exact ⟨ret_bool HB.out, HBQ.out⟩
  | true =>
    rw [hrt] at heq HB
    go_enter Tryd.func48, Tryd.ntmps48
    go_wp2_with fail
    generalize (((w.alloc (.cells (hashArr r) 24)).alloc (.cells (hashArr t) 24)).alloc (.cells #[.slice a m c] 38)) = W at *
    refine wp_region_quiet_below (by kernel_rfl) (by kernel_rfl) ?_
    repeat (first | (refine quiet_load_row (by rfl) _ (.tmp 6) rfl _ _ rfl _ L6.out ?_; simp only [Act.put, List.setIfInBounds_toArray, List.set_cons_zero, List.set_cons_succ]) | go_big_quiet_step ((first | with_reducible exact Calls.regrown_of (CR.out _ (below_regrown _ _ _)))))
    refine wpQuiet_nil ?_
    intro _ hw'
    obtain ⟨⟨dq, osq⟩, hw''⟩ := hw'
    subst hw''
    have hq := below_regrown W dq osq
    have HBQ := Lib.hid (below_join B.out hq)
    clear hq
    generalize grow (redrawn W dq) osq = W1 at *
    go_wp2_with fail
    go_ret
    exact ⟨ret_bool (by rw [← HB.out, Bool.eq_iff_iff]; simp <;> omega), HBQ.out⟩
/-- the memory in which CheckGrowth calls its walk -/
def growWorld (w : World) (r t : Tree.H) (vp : Value) : World :=
  (((((((w.alloc (.cells (hashArr r) 24)).alloc (.cells (hashArr t) 24)).alloc (.cells #[vp] 38)).alloc (.cells #[.int .i64 0] 3)).alloc (.cells #[.bool true] 4)).alloc
    (.cells #[.func (.func 59) #[] #[.pointer (some ⟨w.heap.size + 1 + 1 + 1, 0, none⟩), .pointer (some ⟨w.heap.size + 1 + 1, 0, none⟩), .pointer (some ⟨w.heap.size + 1 + 1 + 1 + 1, 0, none⟩)]] 83)).alloc
    (.cells #[.func (.func 60) #[] #[.pointer (some ⟨w.heap.size, 0, none⟩), .pointer (some ⟨w.heap.size + 1 + 1 + 1 + 1 + 1, 0, none⟩), .pointer (some ⟨w.heap.size + 1 + 1 + 1 + 1 + 1 + 1, 0, none⟩)]] 85))
theorem growWorld_below (w : World) (r t : Tree.H) (vp : Value) : Below w.heap.size w (growWorld w r t vp) := by
  unfold growWorld
  refine (((((((Below.refl _ _).alloc ?_ _).alloc ?_ _).alloc ?_ _).alloc ?_ _).alloc ?_ _).alloc ?_ _).alloc ?_ _ <;> simp <;> omega
theorem growWorld_top (w : World) (r t : Tree.H) (vp : Value) : (growWorld w r t vp).heap[w.heap.size + 1]? = some (.cells (hashArr t) 24 (0, 0)) := by
  (show (((((((w.heap.push _).push _).push _).push _).push _).push _).push _)[_]? = _; repeat (first | exact push_new (by simp) | rw [push_old (by simp only [Array.size_push]; omega)]))
theorem growWorld_vars (w : World) (r t : Tree.H) (vp : Value) : Vars w (w.heap.size + 1 + 1 + 1) (w.heap.size + 1 + 1 + 1 + 1) (w.heap.size + 1 + 1) 0 true vp (growWorld w r t vp) := by
  refine ⟨growWorld_below w r t vp, by omega, by omega, by omega, by omega, by omega, by omega, ?_, ?_, ?_⟩ <;> (show (((((((w.heap.push _).push _).push _).push _).push _).push _).push _)[_]? = _; repeat (first | exact push_new (by simp) | rw [push_old (by simp only [Array.size_push]; omega)]))
theorem growWorld_boxes (w : World) (r t : Tree.H) (vp : Value) : GBoxes w (w.heap.size + 1 + 1 + 1) (w.heap.size + 1 + 1 + 1 + 1) (w.heap.size + 1 + 1) w.heap.size (w.heap.size + 1 + 1 + 1 + 1 + 1 + 1) (w.heap.size + 1 + 1 + 1 + 1 + 1) r (growWorld w r t vp) := by
  refine ⟨?_, cell_of_one (t := 85) ?_, cell_of_one (t := 83) ?_, by omega, by omega, by omega⟩ <;> (show (((((((w.heap.push _).push _).push _).push _).push _).push _).push _)[_]? = _; repeat (first | exact push_new (by simp) | rw [push_old (by simp only [Array.size_push]; omega)]))
set_option maxHeartbeats 4000000 in
set_option maxRecDepth 100000 in
theorem grow_yes (f size next : Nat) (r t : Tree.H) (a : Option Addr) (m c : Nat) (hs : List Tree.H) (w : World) (b : Bool) (hp : IsHs w (.slice a m c) hs) (hm : hs.length = m) (hT : Tabs w) (hr : r.length = 32) (ht : t.length = 32) (h1 : 1 ≤ size) (hn : size < next) (hf : next ≤ 2 ^ f) (hb : next ≤ 9223372036854775807) (hfit : Tree.grown f size next r t hs = b) :
    Calls Tryd.prog 48 #[.int .i64 (size : Int), .agg (hashArr r), .int .i64 (next : Int), .agg (hashArr t), .slice a m c] w fun e w' => e = .returned (.bool b) ∧ Below w.heap.size w w' := by
  have d0 : decide ((size : Int) < 0) = false := by simp
  have d1 : decide ((next : Int) < (size : Int)) = false := by simp; omega
  have d2 : ((size : Int) == (next : Int)) = false := by simp; omega
  have d3 : ((size : Int) == 0) = false := by simp; omega
  rw [← Tree.grown_walk f size next r t hs] at hfit
  have lta := gwalk_length f r hs size next true 0 true hp.1 hr (by omega)
  have CW := Lib.hid (gwalk1_any w (w.heap.size + 1 + 1 + 1) (w.heap.size + 1 + 1 + 1 + 1) (w.heap.size + 1 + 1) w.heap.size (w.heap.size + 1 + 1 + 1 + 1 + 1 + 1) (w.heap.size + 1 + 1 + 1 + 1 + 1) (.slice a m c) hs r hp hT hr f size next 0 true true (growWorld w r t (.slice a m c)) h1 (by omega) hf hb (by omega) (growWorld_vars w r t _) (growWorld_boxes w r t _))
  generalize Tree.gwalk f r hs size next true (0, true) = rr at hfit lta CW
  obtain ⟨⟨a1, a2⟩, tu, te⟩ := rr
  have HR := Lib.hid (growWorld_boxes w r t (.slice a m c)).r
  have HTP := Lib.hid (growWorld_top w r t (.slice a m c))
  rw [hm] at hfit
  have HF := Lib.hid hfit
  have LA1 : Hid (a1.length = 32) := lta.1
  have LA2 : Hid (a2.length = 32) := lta.2
  have LR := Lib.hid hr
  have LT := Lib.hid ht
  have LZ0 := Lib.hid zero_length
  clear hp hT hf hfit lta hr hm ht
  go_enter Tryd.func48, Tryd.ntmps48
  go_wp2_with fail
  refine CW.out.mono ?_
  rintro ed w1 ⟨rfl, hk1, hv1⟩
  have bw : Below w1.heap.size w1 ((w1.alloc (.cells (hashArr Tree.zero) 24)).alloc (.cells (hashArr Tree.zero) 24)) := ((Below.refl _ _).alloc (Nat.le_refl _) _).alloc (by simp) _
  have H1 := Lib.hid (heap2_old w1 (.cells (hashArr Tree.zero) 24) (.cells (hashArr Tree.zero) 24))
  have H2 := Lib.hid (heap2_new w1 (.cells (hashArr Tree.zero) 24) (.cells (hashArr Tree.zero) 24))
  have H3 := Lib.hid ((setRow_other _ w1.heap.size (w1.heap.size + 1) (hashArr a1) (by omega)).trans H2.out)
  have l1 := lt_of_block hv1.atU
  have l2 := lt_of_block hv1.atE
  have l3 := lt_of_block hv1.atP
  have l4 := hv1.below.size
  have l5 := lt_of_block (hk1.heap HR.out (by omega) (by omega))
  have l6 := lt_of_block (hk1.heap HTP.out (by omega) (by omega))
  have hv3 := ((hv1.mono bw).setRow (g := w1.heap.size) (by omega) (by omega) (by omega) (by omega) (hashArr a1)).setRow (g := w1.heap.size + 1) (by omega) (by omega) (by omega) (by omega) (hashArr a2)
  have hr1 := (setRow_other _ (w1.heap.size + 1) w.heap.size (hashArr a2) (by omega)).trans ((setRow_other _ w1.heap.size w.heap.size (hashArr a1) (by omega)).trans (heap_below (hk1.heap HR.out (by omega) (by omega)) bw))
  have ht1 := (setRow_other _ (w1.heap.size + 1) (w.heap.size + 1) (hashArr a2) (by omega)).trans ((setRow_other _ w1.heap.size (w.heap.size + 1) (hashArr a1) (by omega)).trans (heap_below (hk1.heap HTP.out (by omega) (by omega)) bw))
  have hp2 := pair_rows (hashArr a1) (hashArr a2) H1.out H2.out (by omega)
  have hU := cell_of_one hv3.atU
  have hE := cell_of_one hv3.atE
  have hP := cell_of_one hv3.atP
  have f1 := isHashAt LA1.out hp2.1
  have f2 := hashOf_at hp2.1
  have f3 := isHashAt LA2.out hp2.2
  have f4 := hashOf_at hp2.2
  have f5 := isHashAt LR.out hr1
  have f6 := hashOf_at hr1
  have f7 := isHashAt LT.out ht1
  have f8 := hashOf_at ht1
  have heq := fun W => hash_eql a1 r LA1.out LR.out W
  have heq2 := fun W => hash_eql a2 t LA2.out LT.out W
  have HV3 := Lib.hid hv3.below
  clear hv1 hv3 hk1 bw hr1 ht1 hp2 l1 l2 l3 l4 l5 l6
  cases te with
  | false =>
    go_wp2_with (first
      | ((with_reducible refine op_is ⟨none, .store 24 (.tmp 15) (.tmp 52), _, _, _, _⟩ ?_); refine wpList_store_row rfl 24 (.tmp 15) (.tmp 52) rfl w1.heap.size (hashArr a1) rfl rfl 24 _ H1.out (hash_info _ LA1.out) (by rw [hashArr_size, hashArr_size, LA1.out, LZ0.out]) (hashArr_one _) ?_)
      | ((with_reducible refine op_is ⟨none, .store 24 (.tmp 16) (.tmp 53), _, _, _, _⟩ ?_); refine wpList_store_row rfl 24 (.tmp 16) (.tmp 53) rfl (w1.heap.size + 1) (hashArr a2) rfl rfl 24 _ H3.out (hash_info _ LA2.out) (by rw [hashArr_size, hashArr_size, LA2.out, LZ0.out]) (hashArr_one _) ?_))
    go_ret
    exact ⟨ret_bool HF.out, HV3.out⟩
  | true =>
    by_cases htm : tu = m
    · subst htm
      have hq1 : ((tu : Int) == (tu : Int)) = true := by simp
      cases hrt : (a1 == r) with
      | false =>
        rw [hrt] at heq
        go_wp2_with (first
      | ((with_reducible refine op_is ⟨none, .store 24 (.tmp 15) (.tmp 52), _, _, _, _⟩ ?_); refine wpList_store_row rfl 24 (.tmp 15) (.tmp 52) rfl w1.heap.size (hashArr a1) rfl rfl 24 _ H1.out (hash_info _ LA1.out) (by rw [hashArr_size, hashArr_size, LA1.out, LZ0.out]) (hashArr_one _) ?_)
      | ((with_reducible refine op_is ⟨none, .store 24 (.tmp 16) (.tmp 53), _, _, _, _⟩ ?_); refine wpList_store_row rfl 24 (.tmp 16) (.tmp 53) rfl (w1.heap.size + 1) (hashArr a2) rfl rfl 24 _ H3.out (hash_info _ LA2.out) (by rw [hashArr_size, hashArr_size, LA2.out, LZ0.out]) (hashArr_one _) ?_))
        go_ret
        exact ⟨ret_bool (by have := HF.out; rw [hrt] at this; simpa using this), HV3.out⟩
      | true =>
        rw [hrt] at heq
        go_wp2_with (first
      | ((with_reducible refine op_is ⟨none, .store 24 (.tmp 15) (.tmp 52), _, _, _, _⟩ ?_); refine wpList_store_row rfl 24 (.tmp 15) (.tmp 52) rfl w1.heap.size (hashArr a1) rfl rfl 24 _ H1.out (hash_info _ LA1.out) (by rw [hashArr_size, hashArr_size, LA1.out, LZ0.out]) (hashArr_one _) ?_)
      | ((with_reducible refine op_is ⟨none, .store 24 (.tmp 16) (.tmp 53), _, _, _, _⟩ ?_); refine wpList_store_row rfl 24 (.tmp 16) (.tmp 53) rfl (w1.heap.size + 1) (hashArr a2) rfl rfl 24 _ H3.out (hash_info _ LA2.out) (by rw [hashArr_size, hashArr_size, LA2.out, LZ0.out]) (hashArr_one _) ?_))
        go_ret
        exact ⟨ret_bool (by have := HF.out; rw [hrt] at this; simpa using this), HV3.out⟩
    · have hq1 : ((tu : Int) == (m : Int)) = false := by simp; omega
      go_wp2_with (first
      | ((with_reducible refine op_is ⟨none, .store 24 (.tmp 15) (.tmp 52), _, _, _, _⟩ ?_); refine wpList_store_row rfl 24 (.tmp 15) (.tmp 52) rfl w1.heap.size (hashArr a1) rfl rfl 24 _ H1.out (hash_info _ LA1.out) (by rw [hashArr_size, hashArr_size, LA1.out, LZ0.out]) (hashArr_one _) ?_)
      | ((with_reducible refine op_is ⟨none, .store 24 (.tmp 16) (.tmp 53), _, _, _, _⟩ ?_); refine wpList_store_row rfl 24 (.tmp 16) (.tmp 53) rfl (w1.heap.size + 1) (hashArr a2) rfl rfl 24 _ H3.out (hash_info _ LA2.out) (by rw [hashArr_size, hashArr_size, LA2.out, LZ0.out]) (hashArr_one _) ?_))
      go_ret
      exact ⟨ret_bool (by rw [← HF.out]; simp only [show (tu == m) = false by simpa using htm]; rfl), HV3.out⟩
set_option maxHeartbeats 1000000 in
set_option maxRecDepth 100000 in
theorem grows_any (size next : Int) (r t : Tree.H) (v : Value) (b : Bool) (w : World) (hr : r.length = 32) (ht : t.length = 32)
    (C : ∀ W, Below w.heap.size w W → Calls Tryd.prog 48 #[.int .i64 size, .agg (hashArr r), .int .i64 next, .agg (hashArr t), v] W fun e w' => e = .returned (.bool b) ∧ Below W.heap.size W w') :
    Calls Tryd.prog 32 #[.agg (headArr size r), .agg (headArr next t), v] w fun e w' => e = .returned (.bool b) ∧ Below w.heap.size w w' := by
  have b0 : Below w.heap.size w ((w.alloc (.cells (headArr size r) 36)).alloc (.cells (headArr next t) 36)) := ((Below.refl _ _).alloc (Nat.le_refl _) _).alloc (by simp) _
  have h0 := heap2_old w (.cells (headArr size r) 36) (.cells (headArr next t) 36)
  have h1 := heap2_new w (.cells (headArr size r) 36) (.cells (headArr next t) 36)
  have hI := head_int h0
  have hJ := head_int h1
  have HH := Lib.hid (head_hash h0)
  have HJ := Lib.hid (head_hash h1)
  have CC := Lib.hid (C _ b0)
  have B0 := Lib.hid b0
  have LI := Lib.hid (hash_infoL r hr)
  have LJ := Lib.hid (hash_infoL t ht)
  clear C b0 h0 h1 hr ht
  go_enter Tryd.func32, Tryd.ntmps32
  go_wp2_with (first
    | ((with_reducible refine op_is ⟨some 10, .load 24 (.tmp 9), _, _, _, _⟩ ?_); refine wpList_load_mid rfl 24 (.tmp 9) rfl w.heap.size 1 rfl (hashArr r).toList _ HH.out Tryd.underlying24 rfl LI.out ?_; rw [Array.toArray_toList])
    | ((with_reducible refine op_is ⟨some 14, .load 24 (.tmp 13), _, _, _, _⟩ ?_); refine wpList_load_mid rfl 24 (.tmp 13) rfl (w.heap.size + 1) 1 rfl (hashArr t).toList _ HJ.out Tryd.underlying24 rfl LJ.out ?_; rw [Array.toArray_toList]))
  refine CC.out.mono ?_
  rintro ed w1 ⟨rfl, hb1⟩
  go_wp2_with fail
  go_ret
  exact ⟨rfl, below_join B0.out hb1⟩
end Go.Proofs.YtjedhmoehepbnaaDoor
