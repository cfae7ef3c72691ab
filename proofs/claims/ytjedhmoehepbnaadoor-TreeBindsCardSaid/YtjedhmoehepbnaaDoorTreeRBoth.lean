/- The contracts of the reference's many and both (its ends and its left branch). -/
import Derived.Test.YtjedhmoehepbnaaDoorTreeRefFits
import Derived.Test.YtjedhmoehepbnaaDoorTreeGLeft
namespace Go.Proofs.YtjedhmoehepbnaaDoor
open Go.RowKit Go.Sort
set_option linter.unusedVariables false
section
set_option maxHeartbeats 1000000 in
theorem rmany_leaf (n : Nat) (b : Bool) (w : World) : Calls Tryd.prog 51 #[.int .i64 (n : Int), .int .i64 (n : Int), .bool b] w fun e w' => e = .returned (.int .i64 ((if b then 0 else 1 : Nat) : Int)) ∧ w = w' := by
  have hd1 : ((n : Int) == (n : Int)) = true := by simp
  cases b with
  | true =>
    go_enter Tryd.func51, Tryd.ntmps51
    go_wp2_with fail
    go_ret
    exact ⟨rfl, rfl⟩
  | false =>
    go_enter Tryd.func51, Tryd.ntmps51
    go_wp2_with fail
    go_ret
    exact ⟨rfl, rfl⟩
set_option maxHeartbeats 1000000 in
theorem rmany_any : ∀ (f m n d : Nat) (b : Bool) (w : World), 1 ≤ m → m ≤ n → n ≤ 2 ^ f → n ≤ 9223372036854775807 → f ≤ 63 → Tree.many f m n b = d →
    Calls Tryd.prog 51 #[.int .i64 (m : Int), .int .i64 (n : Int), .bool b] w fun e w' => e = .returned (.int .i64 (d : Int)) ∧ w = w' := by
  intro f
  induction f with
  | zero =>
    intro m n d b w h1 hmn hf hn h63 hd
    have : (2 : Nat) ^ 0 = 1 := rfl
    obtain rfl : m = n := by omega
    rw [← hd]
    exact rmany_leaf m b w
  | succ f ih =>
    intro m n d b w h1 hmn hf hn h63 hd
    rw [Tree.many] at hd
    by_cases he : m = n
    · rw [if_pos he] at hd
      subst he
      rw [← hd]
      exact rmany_leaf m b w
    · rw [if_neg he] at hd
      have hd1 : ((m : Int) == (n : Int)) = false := by simp; omega
      have hk0 := Tree.half_pos n
      have hk1 := Tree.half_lt n (by omega)
      have hf1 := Tree.half_pow n f (by omega) hf
      have hf2 := Tree.rest_pow n f (by omega) hf
      have ch := fun W => rhalf_any n W (by omega) (by omega)
      obtain ⟨k, ek⟩ : ∃ k, Tree.half n = k := ⟨_, rfl⟩
      rw [ek] at hk0 hk1 hf1 hf2 ch hd
      by_cases hik : m ≤ k
      · rw [if_pos hik] at hd
        have hdi : decide ((m : Int) ≤ (k : Int)) = true := by simp; omega
        obtain ⟨d', ed⟩ : ∃ x, Tree.many f m k b = x := ⟨_, rfl⟩
        have hle := Tree.many_le f m k b
        rw [ed] at hd hle
        subst hd
        have q : IntKind.i64.wrap (1 + (d' : Int)) = 1 + (d' : Int) := IntWalk.i64_in _ (by omega)
        have CA := Lib.hid (fun W => ih m k d' b W h1 hik hf1 (by omega) (by omega) ed)
        have CH := Lib.hid ch
        clear ih ch ek ed hf hf1 hf2
        go_enter Tryd.func51, Tryd.ntmps51
        go_wp2_with fail
        with_reducible refine (CH.out _).mono ?_
        rintro e w' ⟨rfl, rfl⟩
        go_wp2_with fail
        with_reducible refine (CA.out _).mono ?_
        rintro e w' ⟨rfl, rfl⟩
        go_wp2_with fail
        go_ret
        exact ⟨ret_int (by omega), rfl⟩
      · rw [if_neg hik] at hd
        have hdi : decide ((m : Int) ≤ (k : Int)) = false := by simp; omega
        obtain ⟨d', ed⟩ : ∃ x, Tree.many f (m - k) (n - k) false = x := ⟨_, rfl⟩
        have hle := Tree.many_le f (m - k) (n - k) false
        rw [ed] at hd hle
        subst hd
        have q : IntKind.i64.wrap (1 + (d' : Int)) = 1 + (d' : Int) := IntWalk.i64_in _ (by omega)
        have q7 : IntKind.i64.wrap ((m : Int) - (k : Int)) = (m : Int) - (k : Int) := IntWalk.i64_in _ (by omega)
        have q8 : IntKind.i64.wrap ((n : Int) - (k : Int)) = (n : Int) - (k : Int) := IntWalk.i64_in _ (by omega)
        have CA := Lib.hid (fun W => ih (m - k) (n - k) d' false W (by omega) (by omega) hf2 (by omega) (by omega) ed)
        rw [show ((n - k : Nat) : Int) = (n : Int) - (k : Int) by omega, show ((m - k : Nat) : Int) = (m : Int) - (k : Int) by omega] at CA
        have CH := Lib.hid ch
        clear ih ch ek ed hf hf1 hf2
        go_enter Tryd.func51, Tryd.ntmps51
        go_wp2_with fail
        with_reducible refine (CH.out _).mono ?_
        rintro e w' ⟨rfl, rfl⟩
        go_wp2_with fail
        with_reducible refine (CA.out _).mono ?_
        rintro e w' ⟨rfl, rfl⟩
        go_wp2_with fail
        go_ret
        exact ⟨ret_int (by omega), rfl⟩
/-- what a call of both gives -/
def Gives2 (r : Tree.H × Tree.H) (w : World) (ed : Ending) (w' : World) : Prop := ed = .returned (.tuple #[.agg (hashArr r.1), .agg (hashArr r.2)]) ∧ Below w.heap.size w w'
theorem heap3_0 (w : World) (a b c : Obj) : (((w.alloc a).alloc b).alloc c).heap[w.heap.size]? = some a := by
  show (((w.heap.push _).push _).push _)[_]? = _; repeat (first | exact push_new (by simp) | rw [push_old (by simp only [Array.size_push]; omega)])
theorem heap3_1 (w : World) (a b c : Obj) : (((w.alloc a).alloc b).alloc c).heap[w.heap.size + 1]? = some b := by
  show (((w.heap.push _).push _).push _)[_]? = _; repeat (first | exact push_new (by simp) | rw [push_old (by simp only [Array.size_push]; omega)])
theorem heap3_2 (w : World) (a b c : Obj) : (((w.alloc a).alloc b).alloc c).heap[w.heap.size + 1 + 1]? = some c := by
  show (((w.heap.push _).push _).push _)[_]? = _; repeat (first | exact push_new (by simp) | rw [push_old (by simp only [Array.size_push]; omega)])
theorem below3 (w : World) (a b c : Obj) : Below w.heap.size w (((w.alloc a).alloc b).alloc c) := (((Below.refl _ _).alloc (Nat.le_refl _) _).alloc (by simp) _).alloc (by simp; omega) _
/-- both results stored -/
theorem both_end {w W : World} {x y : Tree.H} (h : Below w.heap.size w W) : Gives2 (x, y) w (.returned (.tuple #[.agg (hashArr x), .agg (hashArr y)])) ((W.setRow (w.heap.size + 1) (hashArr x)).setRow (w.heap.size + 1 + 1) (hashArr y)) :=
  ⟨rfl, below_setRow (below_setRow h (by omega) _) (by omega) _⟩
section
attribute [local go_sem ↓] wp_alloc_hash Go.wp_at_zero Go.wp_at_succ wp_load_mid_at wp_store_at
theorem range_lt {w : World} {b o : Nat} {l : Tree.H} (h : w.rangeAt b o (hashArr l).toList) (hl : l.length = 32) : b < w.heap.size := by
  have hs : (hashArr l).size = 32 := by rw [hashArr_size, hl]
  exact block_lt_of_cell (h 0 ((hashArr l)[0]'(by omega)) (by rw [Array.getElem?_toList]; exact Array.getElem?_eq_getElem (by omega)))
theorem range_setRow {w : World} {b o g : Nat} {cs : List Value} (h : w.rangeAt b o cs) (hg : b ≠ g) (x : Array Value) : (w.setRow g x).rangeAt b o cs := fun j v hv => by
  rw [World.cell?_of_block (w := w) (setRow_other w g b x hg)]
  exact h j v hv
set_option maxHeartbeats 4000000 in
set_option maxRecDepth 100000 in
theorem rboth_whole (n : Nat) (old : Tree.H) (v : Value) (w : World) (lo : old.length = 32) :
    Calls Tryd.prog 49 #[.int .i64 (n : Int), .int .i64 (n : Int), .bool true, .agg (hashArr old), v] w (Gives2 (old, old) w) := by
  have hd1 : ((n : Int) == (n : Int)) = true := by simp
  have b0 := below3 w (.cells (hashArr old) 24) (.cells (hashArr Tree.zero) 24) (.cells (hashArr Tree.zero) 24)
  have h0 := heap3_0 w (.cells (hashArr old) 24) (.cells (hashArr Tree.zero) 24) (.cells (hashArr Tree.zero) 24)
  have h1 := heap3_1 w (.cells (hashArr old) 24) (.cells (hashArr Tree.zero) 24) (.cells (hashArr Tree.zero) 24)
  have h2 := heap3_2 w (.cells (hashArr old) 24) (.cells (hashArr Tree.zero) 24) (.cells (hashArr Tree.zero) 24)
  have B0 := Lib.hid b0
  have H0 := Lib.hid h0
  have H1 := Lib.hid h1
  have H2 := Lib.hid h2
  have LO := Lib.hid lo
  clear h0 h1 h2 b0 lo
  go_enter Tryd.func49, Tryd.ntmps49
  go_wp2_with fail
  generalize ((w.alloc (.cells (hashArr old) 24)).alloc (.cells (hashArr Tree.zero) 24)).alloc (.cells (hashArr Tree.zero) 24) = W at *
  have dr := (Below.refl W.heap.size W).drew
  have r0 := range_of_row (heap_below H0.out dr)
  have r1 := heap_below H1.out dr
  have r2 := heap_below H2.out dr
  have f1 := isMid LO.out r0
  have f2 := midOf_at LO.out r0
  have s1 := isHashAt zero_length r1
  have s2 := isHashAt zero_length r2
  have s3 := isHashAt zero_length ((setRow_other W.drew (w.heap.size + 1) (w.heap.size + 1 + 1) (hashArr old) (by omega)).trans r2)
  have r5 : (W.drew.setRow (w.heap.size + 1) (hashArr old)).rangeAt w.heap.size 0 (hashArr old).toList := range_of_row ((setRow_other W.drew (w.heap.size + 1) w.heap.size (hashArr old) (by omega)).trans (heap_below H0.out dr))
  have f3 := isMid LO.out r5
  have f4 := midOf_at LO.out r5
  have hn0 := isHash LO.out
  have hbk1 := blockOf_at (w.heap.size + 1)
  have hbk2 := blockOf_at (w.heap.size + 1 + 1)
  have BQ := Lib.hid (below_join B0.out dr)
  have hr := pair_rows (hashArr old) (hashArr old) r1 r2 (by omega)
  have S1 := Lib.hid hr.1
  have S2 := Lib.hid hr.2
  clear dr r0 r1 r2 r5 hr
  go_region_law (fail)
  all_goals
    go_wp2_with fail
    refine bodyPost_ret (v := .tuple #[.agg (hashArr old), .agg (hashArr old)]) (results_two Tryd.results49 _ _ (w.heap.size + 1) (w.heap.size + 1 + 1) old old rfl rfl LO.out LO.out S1.out S2.out) rfl ?_
    exact both_end BQ.out
set_option maxHeartbeats 4000000 in
set_option maxRecDepth 100000 in
theorem rboth_one (n : Nat) (old z : Tree.H) (b o c : Nat) (w : World) (lo : old.length = 32) (lz : z.length = 32) (hz : w.rangeAt b o (hashArr z).toList) :
    Calls Tryd.prog 49 #[.int .i64 (n : Int), .int .i64 (n : Int), .bool false, .agg (hashArr old), .slice (some ⟨b, o, none⟩) 1 c] w (Gives2 (z, z) w) := by
  have hd1 : ((n : Int) == (n : Int)) = true := by simp
  have b0 := below3 w (.cells (hashArr old) 24) (.cells (hashArr Tree.zero) 24) (.cells (hashArr Tree.zero) 24)
  have h0 := heap3_0 w (.cells (hashArr old) 24) (.cells (hashArr Tree.zero) 24) (.cells (hashArr Tree.zero) 24)
  have h1 := heap3_1 w (.cells (hashArr old) 24) (.cells (hashArr Tree.zero) 24) (.cells (hashArr Tree.zero) 24)
  have h2 := heap3_2 w (.cells (hashArr old) 24) (.cells (hashArr Tree.zero) 24) (.cells (hashArr Tree.zero) 24)
  have B0 := Lib.hid b0
  have H0 := Lib.hid h0
  have H1 := Lib.hid h1
  have H2 := Lib.hid h2
  have LO := Lib.hid lz
  have HZ := Lib.hid (range_below hz b0)
  have hbn : b ≠ w.heap.size + 1 := by have := range_lt hz lz; omega
  clear h0 h1 h2 b0 lo hz lz
  go_enter Tryd.func49, Tryd.ntmps49
  go_wp2_with fail
  generalize ((w.alloc (.cells (hashArr old) 24)).alloc (.cells (hashArr Tree.zero) 24)).alloc (.cells (hashArr Tree.zero) 24) = W at *
  have dr := (Below.refl W.heap.size W).drew
  have r0 := range_of_row (heap_below H0.out dr)
  have rz := range_below HZ.out dr
  have r1 := heap_below H1.out dr
  have r2 := heap_below H2.out dr
  have f1 := isMid LO.out rz
  have f2 := midOf_at LO.out rz
  have s1 := isHashAt zero_length r1
  have s2 := isHashAt zero_length r2
  have s3 := isHashAt zero_length ((setRow_other W.drew (w.heap.size + 1) (w.heap.size + 1 + 1) (hashArr z) (by omega)).trans r2)
  have r5 : (W.drew.setRow (w.heap.size + 1) (hashArr z)).rangeAt b o (hashArr z).toList := range_setRow rz hbn _
  have f3 := isMid LO.out r5
  have f4 := midOf_at LO.out r5
  have hn0 := isHash LO.out
  have hbk1 := blockOf_at (w.heap.size + 1)
  have hbk2 := blockOf_at (w.heap.size + 1 + 1)
  have BQ := Lib.hid (below_join B0.out dr)
  have hr := pair_rows (hashArr z) (hashArr z) r1 r2 (by omega)
  have S1 := Lib.hid hr.1
  have S2 := Lib.hid hr.2
  clear dr r0 r1 r2 r5 hr rz
  go_region_law (fail)
  all_goals
    go_wp2_with fail
    refine bodyPost_ret (v := .tuple #[.agg (hashArr z), .agg (hashArr z)]) (results_two Tryd.results49 _ _ (w.heap.size + 1) (w.heap.size + 1 + 1) z z rfl rfl LO.out LO.out S1.out S2.out) rfl ?_
    exact both_end BQ.out
end
end
section
/-- the memory at the end of both -/
structure CurB (w : World) (g1 g2 g3 : Nat) (a1 a2 z : Tree.H) (V : World) (x : Tree.H) : Prop where
  below : Below w.heap.size w V
  b1 : V.heap[w.heap.size + 1]? = some (.cells (hashArr x) 24 (0, 0))
  b2 : V.heap[w.heap.size + 1 + 1]? = some (.cells (hashArr Tree.zero) 24 (0, 0))
  c1 : V.heap[g1]? = some (.cells (hashArr a1) 24 (0, 0))
  c2 : V.heap[g2]? = some (.cells (hashArr a2) 24 (0, 0))
  c3 : V.heap[g3]? = some (.cells (hashArr z) 24 (0, 0))
structure FarB (w : World) (g1 g2 g3 : Nat) : Prop where
  f1 : w.heap.size + 1 + 1 < g1
  f2 : w.heap.size + 1 + 1 < g2
  f3 : w.heap.size + 1 + 1 < g3
theorem CurB.step {w : World} {g1 g2 g3 : Nat} {a1 a2 z x : Tree.H} {V V' : World} (h : CurB w g1 g2 g3 a1 a2 z V x) (hb : Below V.heap.size V V') : CurB w g1 g2 g3 a1 a2 z V' x :=
  ⟨below_join h.below hb, heap_below h.b1 hb, heap_below h.b2 hb, heap_below h.c1 hb, heap_below h.c2 hb, heap_below h.c3 hb⟩
theorem CurB.set {w : World} {g1 g2 g3 : Nat} {a1 a2 z x : Tree.H} {V : World} (h : CurB w g1 g2 g3 a1 a2 z V x) (f : FarB w g1 g2 g3) (y : Tree.H) : CurB w g1 g2 g3 a1 a2 z (V.setRow (w.heap.size + 1) (hashArr y)) y :=
  ⟨below_setRow h.below (by omega) _, setRow_heap _ _ _ _ _ _ h.b1, (setRow_other _ _ _ _ (by omega)).trans h.b2, (setRow_other _ _ _ _ (by have := f.f1; omega)).trans h.c1, (setRow_other _ _ _ _ (by have := f.f2; omega)).trans h.c2, (setRow_other _ _ _ _ (by have := f.f3; omega)).trans h.c3⟩
theorem CurB.last {w : World} {g1 g2 g3 : Nat} {a1 a2 z x y : Tree.H} {V : World} (h : CurB w g1 g2 g3 a1 a2 z V x) : Gives2 (x, y) w (.returned (.tuple #[.agg (hashArr x), .agg (hashArr y)])) (V.setRow (w.heap.size + 1 + 1) (hashArr y)) :=
  ⟨rfl, below_setRow h.below (by omega) _⟩
attribute [local go_sem ↓] wp_alloc_hash Go.wp_at_zero Go.wp_at_succ wp_load_at wp_store_at
set_option maxHeartbeats 4000000 in
set_option maxRecDepth 100000 in
theorem rboth_left (m n k j b o c : Nat) (wh : Bool) (old a1 a2 z : Tree.H) (w : World) (h1 : 1 ≤ m) (hmn : m < n) (hnm : n ≤ 9223372036854775807) (hk : Tree.half n = k) (hk1 : 1 ≤ k) (hkn : k < n) (hmk : m ≤ k) (hjc : j + 1 ≤ c) (hc : c ≤ 9223372036854775807) (lo : old.length = 32) (la1 : a1.length = 32) (la2 : a2.length = 32) (lz : z.length = 32) (hz : w.rangeAt b (o + j * 32) (hashArr z).toList)
    (C : ∀ W, Below w.heap.size w W → Calls Tryd.prog 49 #[.int .i64 (m : Nat), .int .i64 (k : Nat), .bool wh, .agg (hashArr old), .slice (some ⟨b, o, none⟩) j c] W (Gives2 (a1, a2) W)) :
    Calls Tryd.prog 49 #[.int .i64 (m : Int), .int .i64 (n : Int), .bool wh, .agg (hashArr old), .slice (some ⟨b, o, none⟩) (j + 1) c] w (Gives2 (a1, Tree.node a2 z) w) := by
  have hd1 : ((m : Int) == (n : Int)) = false := by simp; omega
  have hdi : decide ((m : Int) ≤ (k : Int)) = true := by simp; omega
  have ch := fun W => rhalf_any n W (by omega) hnm
  rw [hk] at ch
  have CH := Lib.hid ch
  have q0 : IntKind.i64.wrap ((j : Int) + 1 - 1) = (j : Int) := by rw [show (j : Int) + 1 - 1 = (j : Int) by omega]; exact IntWalk.i64_in _ (by omega)
  have q1 : (0 : Int) ≤ (j : Int) := by omega
  have q2 : (j : Int) < (j : Int) + 1 := by omega
  have q3 : (j : Int).toNat = j := by omega
  have hcut := cut_hs (some ⟨b, o, none⟩) (j + 1) j c (by omega)
  have b0 := below3 w (.cells (hashArr old) 24) (.cells (hashArr Tree.zero) 24) (.cells (hashArr Tree.zero) 24)
  have H0 := Lib.hid (heap3_0 w (.cells (hashArr old) 24) (.cells (hashArr Tree.zero) 24) (.cells (hashArr Tree.zero) 24))
  have H1 := Lib.hid (heap3_1 w (.cells (hashArr old) 24) (.cells (hashArr Tree.zero) 24) (.cells (hashArr Tree.zero) 24))
  have H2 := Lib.hid (heap3_2 w (.cells (hashArr old) 24) (.cells (hashArr Tree.zero) 24) (.cells (hashArr Tree.zero) 24))
  have HZ := Lib.hid (range_below hz b0)
  have LI := Lib.hid (hash_infoL z lz)
  have LO := Lib.hid lo
  have LA1 := Lib.hid la1
  have LA2 := Lib.hid la2
  have LZ := Lib.hid lz
  have L0 : Hid ((hashArr Tree.zero).size = 32) := by show _ = _; rw [hashArr_size]; exact zero_length
  have LZ0 := Lib.hid zero_length
  have CC := Lib.hid C
  have B0 := Lib.hid b0
  clear b0 C ch hk hz lo la1 la2 lz
  go_enter Tryd.func49, Tryd.ntmps49
  go_wp2_with fail
  with_reducible refine (CH.out _).mono ?_
  rintro e w' ⟨rfl, rfl⟩
  generalize ((w.alloc (.cells (hashArr old) 24)).alloc (.cells (hashArr Tree.zero) 24)).alloc (.cells (hashArr Tree.zero) 24) = W0 at *
  have bw : Below W0.heap.size W0 (W0.alloc (.cells (hashArr z) 24)) := (Below.refl _ _).alloc (Nat.le_refl _) _
  have G0 := heap_below H0.out bw
  have G1 := Lib.hid (heap_below H1.out bw)
  have G2 := Lib.hid (heap_below H2.out bw)
  have G3 := Lib.hid (heap_alloc_new W0 (.cells (hashArr z) 24))
  have e1 := isHashAt LO.out G0
  have e2 := hashOf_at G0
  have hs0 : w.heap.size + 1 + 1 < W0.heap.size := lt_of_block H2.out
  have B1 := Lib.hid (below_join B0.out bw)
  clear bw G0
  go_wp2_with (first
    | ((with_reducible refine op_is ⟨some 38, .load 24 (.tmp 37), _, _, _, _⟩ ?_); refine wpList_load_mid rfl 24 (.tmp 37) rfl b (o + j * 32) rfl (hashArr z).toList _ HZ.out Tryd.underlying24 rfl LI.out ?_; rw [Array.toArray_toList])
    | ((with_reducible refine op_is ⟨none, .store 24 (.tmp 13) (.tmp 38), _, _, _, _⟩ ?_); refine store_hash LZ.out L0.out (.tmp 13) (.tmp 38) rfl rfl rfl rfl rfl ?_))
  with_reducible refine (CC.out _ B1.out).mono ?_
  rintro ed w1 ⟨rfl, hb1⟩
  clear e1 e2
  have K1 := Lib.hid (heap2_old w1 (.cells (hashArr Tree.zero) 24) (.cells (hashArr Tree.zero) 24))
  have K2 := Lib.hid (heap2_new w1 (.cells (hashArr Tree.zero) 24) (.cells (hashArr Tree.zero) 24))
  have K3 := Lib.hid ((setRow_other _ w1.heap.size (w1.heap.size + 1) (hashArr a1) (by omega)).trans K2.out)
  have bz : Below w1.heap.size w1 ((w1.alloc (.cells (hashArr Tree.zero) 24)).alloc (.cells (hashArr Tree.zero) 24)) := ((Below.refl _ _).alloc (Nat.le_refl _) _).alloc (by simp) _
  have l3 : W0.heap.size < w1.heap.size := lt_of_block (heap_below G3.out hb1)
  have FA : Hid (FarB w w1.heap.size (w1.heap.size + 1) W0.heap.size) := ⟨by omega, by omega, by omega⟩
  have hbz := below_join hb1 bz
  have c0 : Hid (CurB w w1.heap.size (w1.heap.size + 1) W0.heap.size a1 a2 z ((((w1.alloc (.cells (hashArr Tree.zero) 24)).alloc (.cells (hashArr Tree.zero) 24)).setRow w1.heap.size (hashArr a1)).setRow (w1.heap.size + 1) (hashArr a2)) Tree.zero) := by
    have hp2 := pair_rows (hashArr a1) (hashArr a2) K1.out K2.out (by omega)
    have l4 := (below_join B1.out hb1).size
    exact ⟨below_setRow (below_setRow (below_join B1.out hbz) (by omega) _) (by omega) _, (setRow_other _ _ _ _ (by omega)).trans ((setRow_other _ _ _ _ (by omega)).trans (heap_below G1.out hbz)), (setRow_other _ _ _ _ (by omega)).trans ((setRow_other _ _ _ _ (by omega)).trans (heap_below G2.out hbz)), hp2.1, hp2.2, (setRow_other _ _ _ _ (by omega)).trans ((setRow_other _ _ _ _ (by omega)).trans (heap_below G3.out hbz))⟩
  clear bz hbz l3 hb1 hs0
  go_wp2_with (first
    | ((with_reducible refine op_is ⟨none, .store 24 (.tmp 15) (.tmp 54), _, _, _, _⟩ ?_); refine wpList_store_row rfl 24 (.tmp 15) (.tmp 54) rfl w1.heap.size (hashArr a1) rfl rfl 24 _ K1.out (hash_info _ LA1.out) (by rw [hashArr_size, hashArr_size, LA1.out, LZ0.out]) (hashArr_one _) ?_)
    | ((with_reducible refine op_is ⟨none, .store 24 (.tmp 16) (.tmp 55), _, _, _, _⟩ ?_); refine wpList_store_row rfl 24 (.tmp 16) (.tmp 55) rfl (w1.heap.size + 1) (hashArr a2) rfl rfl 24 _ K3.out (hash_info _ LA2.out) (by rw [hashArr_size, hashArr_size, LA2.out, LZ0.out]) (hashArr_one _) ?_))
  generalize (((w1.alloc (.cells (hashArr Tree.zero) 24)).alloc (.cells (hashArr Tree.zero) 24)).setRow w1.heap.size (hashArr a1)).setRow (w1.heap.size + 1) (hashArr a2) = W2 at *
  have CN2 := Lib.hid (fun (V : World) => rnode_any a2 z _ LA2.out LZ.out V rfl)
  have LN2 := Lib.hid (Tree.node_length a2 z)
  generalize Tree.node a2 z = n2 at *
  have c1 := Lib.hid (c0.out.step (Below.refl W2.heap.size W2).drew)
  clear c0
  have p1 := isHashAt LA1.out c1.out.c1
  have p2 := hashOf_at c1.out.c1
  have p3 := isHashAt LA2.out c1.out.c2
  have p4 := hashOf_at c1.out.c2
  have p5 := isHashAt LZ.out c1.out.c3
  have p6 := hashOf_at c1.out.c3
  have p8 := isHashAt zero_length c1.out.b2
  have p7 := isHashAt zero_length c1.out.b1
  have cs := Lib.hid (c1.out.set FA.out a1)
  have r1 := isHashAt LA1.out cs.out.c1
  have r2 := hashOf_at cs.out.c1
  have r3 := isHashAt LA2.out cs.out.c2
  have r4 := hashOf_at cs.out.c2
  have r5 := isHashAt LZ.out cs.out.c3
  have r6 := hashOf_at cs.out.c3
  have r8 := isHashAt zero_length cs.out.b2
  have r7 := isHashAt LA1.out cs.out.b1
  have hn1 := isHash LA1.out
  have hn2 := isHash LN2.out
  have hbk1 := blockOf_at (w.heap.size + 1)
  have hbk2 := blockOf_at (w.heap.size + 1 + 1)
  go_region_law (first
    | (go_simp; go_at_call 19; (with_reducible refine (CN2.out _).mono ?_); rintro ed wn ⟨rfl, hbn⟩; have cn := Lib.hid (CurB.step (Hid.out (by assumption)) hbn); have s1 := isHashAt LA1.out cn.out.c1; have s2 := hashOf_at cn.out.c1; have s3 := isHashAt LA2.out cn.out.c2; have s4 := hashOf_at cn.out.c2; have s5 := isHashAt LZ.out cn.out.c3; have s6 := hashOf_at cn.out.c3; have s8 := isHashAt zero_length cn.out.b2; (try have s7 := isHashAt zero_length cn.out.b1); (try have s7 := isHashAt LA1.out cn.out.b1); have ct := Lib.hid (cn.out.set FA.out a1); have t1 := isHashAt LA1.out ct.out.c1; have t2 := hashOf_at ct.out.c1; have t3 := isHashAt LA2.out ct.out.c2; have t4 := hashOf_at ct.out.c2; have t5 := isHashAt LZ.out ct.out.c3; have t6 := hashOf_at ct.out.c3; have t8 := isHashAt zero_length ct.out.b2))
  all_goals
    go_wp2_with fail
    refine bodyPost_ret (v := .tuple #[.agg (hashArr a1), .agg (hashArr n2)]) (results_two Tryd.results49 _ _ (w.heap.size + 1) (w.heap.size + 1 + 1) a1 n2 rfl rfl LA1.out LN2.out ((setRow_other _ _ _ _ (by omega)).trans (CurB.b1 (Hid.out (by assumption)))) (setRow_heap _ _ _ _ _ _ (CurB.b2 (Hid.out (by assumption))))) rfl ?_
    exact CurB.last (Hid.out (by assumption))
end
end Go.Proofs.YtjedhmoehepbnaaDoor
