/- The contracts of the reference's both and Grows; CheckPath and CheckGrowth say what the reference says. -/
import Derived.Test.YtjedhmoehepbnaaDoorTreeRBoth
import Derived.Test.YtjedhmoehepbnaaDoorTreeCheckGrowth
namespace Go.Proofs.YtjedhmoehepbnaaDoor
open Go.RowKit Go.Sort
set_option linter.unusedVariables false
section
section
attribute [local go_sem ↓] wp_alloc_hash Go.wp_at_zero Go.wp_at_succ wp_load_at wp_store_at
set_option maxHeartbeats 4000000 in
set_option maxRecDepth 100000 in
theorem rboth_right (m n k j b o c : Nat) (wh : Bool) (old a1 a2 z : Tree.H) (w : World) (h1 : 1 ≤ m) (hmn : m < n) (hnm : n ≤ 9223372036854775807) (hk : Tree.half n = k) (hk1 : 1 ≤ k) (hkn : k < n) (hmk : k < m) (hjc : j + 1 ≤ c) (hc : c ≤ 9223372036854775807) (lo : old.length = 32) (la1 : a1.length = 32) (la2 : a2.length = 32) (lz : z.length = 32) (hz : w.rangeAt b (o + j * 32) (hashArr z).toList)
    (C : ∀ W, Below w.heap.size w W → Calls Tryd.prog 49 #[.int .i64 ((m - k) : Nat), .int .i64 ((n - k) : Nat), .bool false, .agg (hashArr old), .slice (some ⟨b, o, none⟩) j c] W (Gives2 (a1, a2) W)) :
    Calls Tryd.prog 49 #[.int .i64 (m : Int), .int .i64 (n : Int), .bool wh, .agg (hashArr old), .slice (some ⟨b, o, none⟩) (j + 1) c] w (Gives2 (Tree.node z a1, Tree.node z a2) w) := by
  have hd1 : ((m : Int) == (n : Int)) = false := by simp; omega
  have hdi : decide ((m : Int) ≤ (k : Int)) = false := by simp; omega
  have ch := fun W => rhalf_any n W (by omega) hnm
  rw [hk] at ch
  have CH := Lib.hid ch
  have q0 : IntKind.i64.wrap ((j : Int) + 1 - 1) = (j : Int) := by rw [show (j : Int) + 1 - 1 = (j : Int) by omega]; exact IntWalk.i64_in _ (by omega)
  have q1 : (0 : Int) ≤ (j : Int) := by omega
  have q2 : (j : Int) < (j : Int) + 1 := by omega
  have q3 : (j : Int).toNat = j := by omega
  have hcut := cut_hs (some ⟨b, o, none⟩) (j + 1) j c (by omega)
  have b0 := below3 w (.cells (hashArr old) 24) (.cells (hashArr Tree.zero) 24) (.cells (hashArr Tree.zero) 24)
  have H0 := Lib.hid (heap3_0 w (.cells (hashArr old) 24) (.cells (hashArr Tree.zero) 24) (.cells (hashArr Tree.zero) 24))
  have H1 := Lib.hid (heap3_1 w (.cells (hashArr old) 24) (.cells (hashArr Tree.zero) 24) (.cells (hashArr Tree.zero) 24))
  have H2 := Lib.hid (heap3_2 w (.cells (hashArr old) 24) (.cells (hashArr Tree.zero) 24) (.cells (hashArr Tree.zero) 24))
  have HZ := Lib.hid (range_below hz b0)
  have LI := Lib.hid (hash_infoL z lz)
  have LO := Lib.hid lo
  have LA1 := Lib.hid la1
  have LA2 := Lib.hid la2
  have LZ := Lib.hid lz
  have L0 : Hid ((hashArr Tree.zero).size = 32) := by show _ = _; rw [hashArr_size]; exact zero_length
  have LZ0 := Lib.hid zero_length
  have CC := Lib.hid C
  have B0 := Lib.hid b0
  have q7 : IntKind.i64.wrap ((m : Int) - (k : Int)) = (m : Int) - (k : Int) := IntWalk.i64_in _ (by omega)
  have q8 : IntKind.i64.wrap ((n : Int) - (k : Int)) = (n : Int) - (k : Int) := IntWalk.i64_in _ (by omega)
  rw [show ((n - k : Nat) : Int) = (n : Int) - (k : Int) by omega, show ((m - k : Nat) : Int) = (m : Int) - (k : Int) by omega] at CC
  clear b0 C ch hk hz lo la1 la2 lz
  go_enter Tryd.func49, Tryd.ntmps49
  go_wp2_with fail
  with_reducible refine (CH.out _).mono ?_
  rintro e w' ⟨rfl, rfl⟩
  generalize ((w.alloc (.cells (hashArr old) 24)).alloc (.cells (hashArr Tree.zero) 24)).alloc (.cells (hashArr Tree.zero) 24) = W0 at *
  have bw : Below W0.heap.size W0 (W0.alloc (.cells (hashArr z) 24)) := (Below.refl _ _).alloc (Nat.le_refl _) _
  have G0 := heap_below H0.out bw
  have G1 := Lib.hid (heap_below H1.out bw)
  have G2 := Lib.hid (heap_below H2.out bw)
  have G3 := Lib.hid (heap_alloc_new W0 (.cells (hashArr z) 24))
  have e1 := isHashAt LO.out G0
  have e2 := hashOf_at G0
  have hs0 : w.heap.size + 1 + 1 < W0.heap.size := lt_of_block H2.out
  have B1 := Lib.hid (below_join B0.out bw)
  clear bw G0
  go_wp2_with (first
    | ((with_reducible refine op_is ⟨some 38, .load 24 (.tmp 37), _, _, _, _⟩ ?_); refine wpList_load_mid rfl 24 (.tmp 37) rfl b (o + j * 32) rfl (hashArr z).toList _ HZ.out Tryd.underlying24 rfl LI.out ?_; rw [Array.toArray_toList])
    | ((with_reducible refine op_is ⟨none, .store 24 (.tmp 13) (.tmp 38), _, _, _, _⟩ ?_); refine store_hash LZ.out L0.out (.tmp 13) (.tmp 38) rfl rfl rfl rfl rfl ?_))
  with_reducible refine (CC.out _ B1.out).mono ?_
  rintro ed w1 ⟨rfl, hb1⟩
  clear e1 e2
  have K1 := Lib.hid (heap2_old w1 (.cells (hashArr Tree.zero) 24) (.cells (hashArr Tree.zero) 24))
  have K2 := Lib.hid (heap2_new w1 (.cells (hashArr Tree.zero) 24) (.cells (hashArr Tree.zero) 24))
  have K3 := Lib.hid ((setRow_other _ w1.heap.size (w1.heap.size + 1) (hashArr a1) (by omega)).trans K2.out)
  have bz : Below w1.heap.size w1 ((w1.alloc (.cells (hashArr Tree.zero) 24)).alloc (.cells (hashArr Tree.zero) 24)) := ((Below.refl _ _).alloc (Nat.le_refl _) _).alloc (by simp) _
  have l3 : W0.heap.size < w1.heap.size := lt_of_block (heap_below G3.out hb1)
  have FA : Hid (FarB w w1.heap.size (w1.heap.size + 1) W0.heap.size) := ⟨by omega, by omega, by omega⟩
  have hbz := below_join hb1 bz
  have c0 : Hid (CurB w w1.heap.size (w1.heap.size + 1) W0.heap.size a1 a2 z ((((w1.alloc (.cells (hashArr Tree.zero) 24)).alloc (.cells (hashArr Tree.zero) 24)).setRow w1.heap.size (hashArr a1)).setRow (w1.heap.size + 1) (hashArr a2)) Tree.zero) := by
    have hp2 := pair_rows (hashArr a1) (hashArr a2) K1.out K2.out (by omega)
    have l4 := (below_join B1.out hb1).size
    exact ⟨below_setRow (below_setRow (below_join B1.out hbz) (by omega) _) (by omega) _, (setRow_other _ _ _ _ (by omega)).trans ((setRow_other _ _ _ _ (by omega)).trans (heap_below G1.out hbz)), (setRow_other _ _ _ _ (by omega)).trans ((setRow_other _ _ _ _ (by omega)).trans (heap_below G2.out hbz)), hp2.1, hp2.2, (setRow_other _ _ _ _ (by omega)).trans ((setRow_other _ _ _ _ (by omega)).trans (heap_below G3.out hbz))⟩
  clear bz hbz l3 hb1 hs0
  go_wp2_with (first
    | ((with_reducible refine op_is ⟨none, .store 24 (.tmp 17) (.tmp 70), _, _, _, _⟩ ?_); refine wpList_store_row rfl 24 (.tmp 17) (.tmp 70) rfl w1.heap.size (hashArr a1) rfl rfl 24 _ K1.out (hash_info _ LA1.out) (by rw [hashArr_size, hashArr_size, LA1.out, LZ0.out]) (hashArr_one _) ?_)
    | ((with_reducible refine op_is ⟨none, .store 24 (.tmp 18) (.tmp 71), _, _, _, _⟩ ?_); refine wpList_store_row rfl 24 (.tmp 18) (.tmp 71) rfl (w1.heap.size + 1) (hashArr a2) rfl rfl 24 _ K3.out (hash_info _ LA2.out) (by rw [hashArr_size, hashArr_size, LA2.out, LZ0.out]) (hashArr_one _) ?_))
  generalize (((w1.alloc (.cells (hashArr Tree.zero) 24)).alloc (.cells (hashArr Tree.zero) 24)).setRow w1.heap.size (hashArr a1)).setRow (w1.heap.size + 1) (hashArr a2) = W2 at *
  have CN1 := Lib.hid (fun (V : World) => rnode_any z a1 _ LZ.out LA1.out V rfl)
  have CN2 := Lib.hid (fun (V : World) => rnode_any z a2 _ LZ.out LA2.out V rfl)
  have LN1 := Lib.hid (Tree.node_length z a1)
  have LN2 := Lib.hid (Tree.node_length z a2)
  generalize Tree.node z a1 = n1 at *
  generalize Tree.node z a2 = n2 at *
  have c1 := Lib.hid (c0.out.step (Below.refl W2.heap.size W2).drew)
  clear c0
  have p1 := isHashAt LA1.out c1.out.c1
  have p2 := hashOf_at c1.out.c1
  have p3 := isHashAt LA2.out c1.out.c2
  have p4 := hashOf_at c1.out.c2
  have p5 := isHashAt LZ.out c1.out.c3
  have p6 := hashOf_at c1.out.c3
  have p8 := isHashAt zero_length c1.out.b2
  have p7 := isHashAt zero_length c1.out.b1
  have hn1 := isHash LN1.out
  have hn2 := isHash LN2.out
  have hbk1 := blockOf_at (w.heap.size + 1)
  have hbk2 := blockOf_at (w.heap.size + 1 + 1)
  go_region_law (first
    | (go_simp; go_at_call 19; (with_reducible refine (CN1.out _).mono ?_); rintro ed wn ⟨rfl, hbn⟩; have cn := Lib.hid (CurB.step (Hid.out (by assumption)) hbn); have s1 := isHashAt LA1.out cn.out.c1; have s2 := hashOf_at cn.out.c1; have s3 := isHashAt LA2.out cn.out.c2; have s4 := hashOf_at cn.out.c2; have s5 := isHashAt LZ.out cn.out.c3; have s6 := hashOf_at cn.out.c3; have s8 := isHashAt zero_length cn.out.b2; (try have s7 := isHashAt zero_length cn.out.b1); (try have s7 := isHashAt LN1.out cn.out.b1); have ct := Lib.hid (cn.out.set FA.out n1); have t1 := isHashAt LA1.out ct.out.c1; have t2 := hashOf_at ct.out.c1; have t3 := isHashAt LA2.out ct.out.c2; have t4 := hashOf_at ct.out.c2; have t5 := isHashAt LZ.out ct.out.c3; have t6 := hashOf_at ct.out.c3; have t8 := isHashAt zero_length ct.out.b2)
    | (go_simp; go_at_call 19; (with_reducible refine (CN2.out _).mono ?_); rintro ed wn ⟨rfl, hbn⟩; have cn := Lib.hid (CurB.step (Hid.out (by assumption)) hbn); have s1 := isHashAt LA1.out cn.out.c1; have s2 := hashOf_at cn.out.c1; have s3 := isHashAt LA2.out cn.out.c2; have s4 := hashOf_at cn.out.c2; have s5 := isHashAt LZ.out cn.out.c3; have s6 := hashOf_at cn.out.c3; have s8 := isHashAt zero_length cn.out.b2; (try have s7 := isHashAt zero_length cn.out.b1); (try have s7 := isHashAt LN1.out cn.out.b1); have ct := Lib.hid (cn.out.set FA.out n1); have t1 := isHashAt LA1.out ct.out.c1; have t2 := hashOf_at ct.out.c1; have t3 := isHashAt LA2.out ct.out.c2; have t4 := hashOf_at ct.out.c2; have t5 := isHashAt LZ.out ct.out.c3; have t6 := hashOf_at ct.out.c3; have t8 := isHashAt zero_length ct.out.b2))
  all_goals
    go_wp2_with fail
    refine bodyPost_ret (v := .tuple #[.agg (hashArr n1), .agg (hashArr n2)]) (results_two Tryd.results49 _ _ (w.heap.size + 1) (w.heap.size + 1 + 1) n1 n2 rfl rfl LN1.out LN2.out ((setRow_other _ _ _ _ (by omega)).trans (CurB.b1 (Hid.out (by assumption)))) (setRow_heap _ _ _ _ _ _ (CurB.b2 (Hid.out (by assumption))))) rfl ?_
    exact CurB.last (Hid.out (by assumption))
end
theorem both_length : ∀ (f m n : Nat) (b : Bool) (old : Tree.H) (hs : List Tree.H), Each hs → old.length = 32 → 1 ≤ m → m ≤ n → n ≤ 2 ^ f → hs.length = Tree.many f m n b → (Tree.both f m n b old hs).1.length = 32 ∧ (Tree.both f m n b old hs).2.length = 32 := by
  intro f
  induction f with
  | zero =>
    intro m n b old hs he ho h1 hmn hf hl
    rw [Tree.both]
    cases b with
    | true => exact ⟨ho, ho⟩
    | false =>
      have : hs.length = 1 := hl
      exact ⟨he.getD 0 (by omega), he.getD 0 (by omega)⟩
  | succ f ih =>
    intro m n b old hs he ho h1 hmn hf hl
    rw [Tree.many] at hl
    rw [Tree.both]
    by_cases hq : m = n
    · rw [if_pos hq] at hl ⊢
      cases b with
      | true => exact ⟨ho, ho⟩
      | false =>
        have : hs.length = 1 := hl
        exact ⟨he.getD 0 (by omega), he.getD 0 (by omega)⟩
    · rw [if_neg hq] at hl ⊢
      have hk1 := Tree.half_lt n (by omega)
      have hf1 := Tree.half_pow n f (by omega) hf
      have hf2 := Tree.rest_pow n f (by omega) hf
      have ht : Each (hs.take (hs.length - 1)) := fun x hx => he x (List.mem_of_mem_take hx)
      by_cases hik : m ≤ Tree.half n
      · rw [if_pos hik] at hl ⊢
        exact ⟨(ih m (Tree.half n) b old _ ht ho h1 hik hf1 (by rw [List.length_take]; omega)).1, Tree.node_length _ _⟩
      · rw [if_neg hik]
        exact ⟨Tree.node_length _ _, Tree.node_length _ _⟩
theorem rboth_any : ∀ (f m n k c : Nat) (b : Bool) (a : Option Addr) (hs : List Tree.H) (old : Tree.H) (w : World), 1 ≤ m → m ≤ n → n ≤ 2 ^ f → n ≤ 9223372036854775807 → IsHs w (.slice a k c) hs → hs.length = k → k = Tree.many f m n b → old.length = 32 →
    Calls Tryd.prog 49 #[.int .i64 (m : Int), .int .i64 (n : Int), .bool b, .agg (hashArr old), .slice a k c] w (Gives2 (Tree.both f m n b old hs) w) := by
  have leaf : ∀ (n k c : Nat) (b : Bool) (a : Option Addr) (hs : List Tree.H) (old : Tree.H) (w : World), IsHs w (.slice a k c) hs → hs.length = k → k = (if b then 0 else 1) → old.length = 32 →
      Calls Tryd.prog 49 #[.int .i64 (n : Int), .int .i64 (n : Int), .bool b, .agg (hashArr old), .slice a k c] w (Gives2 (if b then (old, old) else (hs.getD 0 [], hs.getD 0 [])) w) := by
    intro n k c b a hs old w hp hl hk lo
    cases b with
    | true => exact rboth_whole n old _ w lo
    | false =>
      obtain rfl : k = 1 := hk
      obtain ⟨b', o, rfl, hmc, hc, hel⟩ := hp.last hl (by omega)
      have h0 := hel 0 (by omega)
      rw [show o + 0 * 32 = o by omega] at h0
      exact rboth_one n old _ b' o c w lo (hp.1.getD 0 (by omega)) h0
  intro f
  induction f with
  | zero =>
    intro m n k c b a hs old w h1 hmn hf hnm hp hl hk lo
    have : (2 : Nat) ^ 0 = 1 := rfl
    obtain rfl : m = n := by omega
    exact leaf m k c b a hs old w hp hl hk lo
  | succ f ih =>
    intro m n k c b a hs old w h1 hmn hf hnm hp hl hk lo
    rw [Tree.many] at hk
    rw [Tree.both]
    by_cases he : m = n
    · rw [if_pos he] at hk ⊢
      subst he
      exact leaf m k c b a hs old w hp hl hk lo
    · rw [if_neg he] at hk ⊢
      have hk0 := Tree.half_pos n
      have hk1 := Tree.half_lt n (by omega)
      have hf1 := Tree.half_pow n f (by omega) hf
      have hf2 := Tree.rest_pow n f (by omega) hf
      by_cases hik : m ≤ Tree.half n
      · rw [if_pos hik] at hk ⊢
        obtain ⟨j, rfl⟩ : ∃ j, k = j + 1 := ⟨k - 1, by omega⟩
        obtain ⟨b', o, rfl, hmc, hc, hel⟩ := hp.last hl (by omega)
        rw [hl, show j + 1 - 1 = j by omega]
        have hl2 : (hs.take j).length = j := by rw [List.length_take]; omega
        have ht : Each (hs.take j) := fun x hx => hp.1 x (List.mem_of_mem_take hx)
        have lb := both_length f m (Tree.half n) b old (hs.take j) ht lo h1 hik hf1 (by omega)
        exact rboth_left m n (Tree.half n) j b' o c b old _ _ _ w h1 (by omega) hnm rfl hk0 hk1 hik hmc hc lo lb.1 lb.2 (hp.1.getD j (by omega)) (hel j (by omega)) (fun W g => ih m (Tree.half n) j c b _ (hs.take j) old W h1 hik hf1 (by omega) ((hp.below g).cut hl (by omega)) hl2 (by omega) lo)
      · rw [if_neg hik] at hk ⊢
        obtain ⟨j, rfl⟩ : ∃ j, k = j + 1 := ⟨k - 1, by omega⟩
        obtain ⟨b', o, rfl, hmc, hc, hel⟩ := hp.last hl (by omega)
        rw [hl, show j + 1 - 1 = j by omega]
        have hl2 : (hs.take j).length = j := by rw [List.length_take]; omega
        have ht : Each (hs.take j) := fun x hx => hp.1 x (List.mem_of_mem_take hx)
        have lb := both_length f (m - Tree.half n) (n - Tree.half n) false old (hs.take j) ht lo (by omega) (by omega) hf2 (by omega)
        exact rboth_right m n (Tree.half n) j b' o c b old _ _ _ w h1 (by omega) hnm rfl hk0 hk1 (by omega) hmc hc lo lb.1 lb.2 (hp.1.getD j (by omega)) (hel j (by omega)) (fun W g => ih (m - Tree.half n) (n - Tree.half n) j c false _ (hs.take j) old W (by omega) (by omega) hf2 (by omega) ((hp.below g).cut hl (by omega)) hl2 (by omega) lo)
end
section
attribute [local go_sem ↓] wp_alloc_hash wp_load_mid_at
set_option maxHeartbeats 1000000 in
set_option maxRecDepth 100000 in
theorem rgrow_no (size next : Int) (r t : Tree.H) (a : Option Addr) (m c : Nat) (w : World) (h : size < 0 ∨ next < size) :
    Calls Tryd.prog 35 #[.agg (headArr size r), .agg (headArr next t), .slice a m c] w fun e w' => e = .returned (.bool false) ∧ Below w.heap.size w w' := by
  have b0 : Below w.heap.size w ((w.alloc (.cells (headArr size r) 36)).alloc (.cells (headArr next t) 36)) := ((Below.refl _ _).alloc (Nat.le_refl _) _).alloc (by simp) _
  have h0 := heap2_old w (.cells (headArr size r) 36) (.cells (headArr next t) 36)
  have h1 := heap2_new w (.cells (headArr size r) 36) (.cells (headArr next t) 36)
  have hI := head_int h0
  have hJ := head_int h1
  have B0 := Lib.hid b0
  clear b0 h0 h1
  by_cases h0 : size < 0
  · have d0 : decide (size < 0) = true := by simpa using h0
    go_enter Tryd.func35, Tryd.ntmps35
    go_wp2_with fail
    go_ret
    exact ⟨rfl, B0.out⟩
  · have d0 : decide (size < 0) = false := by simpa using h0
    have d1 : decide (next < size) = true := by simp; omega
    go_enter Tryd.func35, Tryd.ntmps35
    go_wp2_with fail
    go_ret
    exact ⟨rfl, B0.out⟩
set_option maxHeartbeats 1000000 in
set_option maxRecDepth 100000 in
theorem rgrow_eq (size : Int) (r t : Tree.H) (a : Option Addr) (m c : Nat) (w : World) (h : 0 ≤ size) (lr : r.length = 32) (lt : t.length = 32) (b : Bool) (hb : (r == t && m == 0) = b) :
    Calls Tryd.prog 35 #[.agg (headArr size r), .agg (headArr size t), .slice a m c] w fun e w' => e = .returned (.bool b) ∧ Below w.heap.size w w' := by
  have d0 : decide (size < 0) = false := by simp; omega
  have d1 : decide (size < size) = false := by simp
  have d2 : (size == size) = true := by simp
  have b0 : Below w.heap.size w ((w.alloc (.cells (headArr size r) 36)).alloc (.cells (headArr size t) 36)) := ((Below.refl _ _).alloc (Nat.le_refl _) _).alloc (by simp) _
  have h0 := heap2_old w (.cells (headArr size r) 36) (.cells (headArr size t) 36)
  have h1 := heap2_new w (.cells (headArr size r) 36) (.cells (headArr size t) 36)
  have hI := head_int h0
  have hJ := head_int h1
  have B0 := Lib.hid b0
  have m1 := isMid lr (head_hash h0)
  have m2 := midOf_at lr (head_hash h0)
  have m3 := isMid lt (head_hash h1)
  have m4 := midOf_at lt (head_hash h1)
  have heq := fun W => hash_eql r t lr lt W
  have HB := Lib.hid hb
  clear b0 h0 h1 hb
  by_cases hm : m = 0
  · subst hm
    have hq : (((0 : Nat) : Int) == 0) = true := by simp
    go_enter Tryd.func35, Tryd.ntmps35
    go_wp2_with fail
    go_ret
    exact ⟨ret_bool (by rw [← HB.out]; simp), B0.out⟩
  · have hq : ((m : Int) == 0) = false := by simp; omega
    go_enter Tryd.func35, Tryd.ntmps35
    go_wp2_with fail
    go_ret
    exact ⟨ret_bool (by rw [← HB.out, show (m == 0) = false by simpa using hm]; simp), B0.out⟩
set_option maxHeartbeats 2000000 in
set_option maxRecDepth 100000 in
theorem rgrow_zero (next : Int) (r t z : Tree.H) (a : Option Addr) (m c : Nat) (w : World) (h : 0 < next) (lr : r.length = 32) (hz : Sha.sum [] = z) (b : Bool) (hb : (r == z && m == 0) = b) :
    Calls Tryd.prog 35 #[.agg (headArr 0 r), .agg (headArr next t), .slice a m c] w fun e w' => e = .returned (.bool b) ∧ Below w.heap.size w w' := by
  have d1 : decide (next < 0) = false := by simp; omega
  have d2 : ((0 : Int) == next) = false := by simp; omega
  have lz : z.length = 32 := by rw [← hz, ← root_nil 0]; exact Tree.root_length _ _
  have b0 : Below w.heap.size w ((w.alloc (.cells (headArr 0 r) 36)).alloc (.cells (headArr next t) 36)) := ((Below.refl _ _).alloc (Nat.le_refl _) _).alloc (by simp) _
  have h0 := heap2_old w (.cells (headArr 0 r) 36) (.cells (headArr next t) 36)
  have h1 := heap2_new w (.cells (headArr 0 r) 36) (.cells (headArr next t) 36)
  have hI := head_int h0
  have hJ := head_int h1
  have B0 := Lib.hid b0
  have hL : ∀ w', (∃ p : Regrown, w' = grow (redrawn ((w.alloc (.cells (headArr 0 r) 36)).alloc (.cells (headArr next t) 36)) p.d) p.os) → (loadVar 24 ⟨w.heap.size, 1, none⟩).run Tryd.prog w' = .ok (.agg (hashArr r)) w' := by
    rintro w' ⟨p, rfl⟩
    have := run_loadVar_mid (P := Tryd.prog) (grow (redrawn ((w.alloc (.cells (headArr 0 r) 36)).alloc (.cells (headArr next t) 36)) p.d) p.os) w.heap.size 1 24 (hashArr r).toList _ (range_below (head_hash h0) (below_regrown _ _ _)) Tryd.underlying24 rfl (hash_infoL r lr)
    rwa [Array.toArray_toList] at this
  have L6 := Lib.hid hL
  have CR : Hid (∀ V, Calls Tryd.prog 37 #[.string ⟨#[]⟩] V fun e w' => e = .returned (.agg (hashArr z)) ∧ Below V.heap.size V w') := by
    intro V
    have := rsum_any ⟨#[]⟩ V (by decide)
    rw [← hz]
    exact this
  have heq := fun W => hash_eql r z lr lz W
  have HB := Lib.hid hb
  clear hL h0 h1 b0 hb hz
  by_cases hm : m = 0
  · subst hm
    have hq : (((0 : Nat) : Int) == 0) = true := by simp
    go_enter Tryd.func35, Tryd.ntmps35
    go_wp2_with fail
    generalize (w.alloc (.cells (headArr 0 r) 36)).alloc (.cells (headArr next t) 36) = W at *
    refine wp_region_quiet_below (by kernel_rfl) (by kernel_rfl) ?_
    repeat (first | (refine quiet_load_row (by rfl) _ (.tmp 41) rfl _ _ rfl _ L6.out ?_; simp only [Act.put, List.setIfInBounds_toArray, List.set_cons_zero, List.set_cons_succ]) | go_big_quiet_step ((first | with_reducible exact Calls.regrown_of (CR.out _))))
    refine wpQuiet_nil ?_
    intro _ hw'
    obtain ⟨⟨dq, osq⟩, hw''⟩ := hw'
    subst hw''
    have hq2 := below_regrown W dq osq
    have HBQ := Lib.hid (below_join B0.out hq2)
    clear hq2
    generalize grow (redrawn W dq) osq = W1 at *
    go_wp2_with fail
    go_ret
    exact ⟨ret_bool (by rw [← HB.out]; simp), HBQ.out⟩
  · have hq : ((m : Int) == 0) = false := by simp; omega
    go_enter Tryd.func35, Tryd.ntmps35
    go_wp2_with fail
    generalize (w.alloc (.cells (headArr 0 r) 36)).alloc (.cells (headArr next t) 36) = W at *
    refine wp_region_quiet_below (by kernel_rfl) (by kernel_rfl) ?_
    repeat (first | (refine quiet_load_row (by rfl) _ (.tmp 41) rfl _ _ rfl _ L6.out ?_; simp only [Act.put, List.setIfInBounds_toArray, List.set_cons_zero, List.set_cons_succ]) | go_big_quiet_step ((first | with_reducible exact Calls.regrown_of (CR.out _))))
    refine wpQuiet_nil ?_
    intro _ hw'
    obtain ⟨⟨dq, osq⟩, hw''⟩ := hw'
    subst hw''
    have hq2 := below_regrown W dq osq
    have HBQ := Lib.hid (below_join B0.out hq2)
    clear hq2
    generalize grow (redrawn W dq) osq = W1 at *
    go_wp2_with fail
    go_ret
    exact ⟨ret_bool (by rw [← HB.out, show (m == 0) = false by simpa using hm]; simp), HBQ.out⟩
set_option maxHeartbeats 4000000 in
set_option maxRecDepth 100000 in
theorem rgrow_yes (f size next : Nat) (r t : Tree.H) (a : Option Addr) (m c : Nat) (hs : List Tree.H) (w : World) (b : Bool) (hp : IsHs w (.slice a m c) hs) (hm : hs.length = m) (lr : r.length = 32) (lt : t.length = 32) (h1s : 1 ≤ size) (hn : size < next) (hf : next ≤ 2 ^ f) (hf63 : f ≤ 63) (hb : next ≤ 9223372036854775807) (hfit : Tree.grown f size next r t hs = b) :
    Calls Tryd.prog 35 #[.agg (headArr (size : Int) r), .agg (headArr (next : Int) t), .slice a m c] w fun e w' => e = .returned (.bool b) ∧ Below w.heap.size w w' := by
  have d0 : decide ((size : Int) < 0) = false := by simp
  have d1 : decide ((next : Int) < (size : Int)) = false := by simp; omega
  have d1' : decide (next < size) = false := by simp; omega
  have d2 : ((size : Int) == (next : Int)) = false := by simp; omega
  have d3 : ((size : Int) == 0) = false := by simp; omega
  have b0 : Below w.heap.size w ((w.alloc (.cells (headArr size r) 36)).alloc (.cells (headArr next t) 36)) := ((Below.refl _ _).alloc (Nat.le_refl _) _).alloc (by simp) _
  have h0 := heap2_old w (.cells (headArr size r) 36) (.cells (headArr next t) 36)
  have h1 := heap2_new w (.cells (headArr size r) 36) (.cells (headArr next t) 36)
  have hI := head_int h0
  have hJ := head_int h1
  have B0 := Lib.hid b0
  obtain ⟨d, ed⟩ : ∃ d, Tree.many f size next true = d := ⟨_, rfl⟩
  have CD := Lib.hid (fun W => rmany_any f size next d true W h1s (by omega) hf hb hf63 ed)
  unfold Tree.grown at hfit
  rw [ed, hm] at hfit
  by_cases hmd : m = d
  · subst hmd
    have hq : ((m : Int) != (m : Int)) = false := by simp
    have CB := Lib.hid (fun (W : World) (g : Below w.heap.size w W) => rboth_any f size next m c true a hs r W h1s (by omega) hf hb (hp.below g) hm ed.symm lr)
    have lb := both_length f size next true r hs hp.1 lr h1s (by omega) hf (by omega)
    generalize Tree.both f size next true r hs = y at *
    obtain ⟨a1, a2⟩ := y
    have LA1 : Hid (a1.length = 32) := lb.1
    have LA2 : Hid (a2.length = 32) := lb.2
    have LR := Lib.hid lr
    have LT := Lib.hid lt
    have LZ0 := Lib.hid zero_length
    have HF := Lib.hid hfit
    have M0 := Lib.hid h0
    have M1 := Lib.hid h1
    have m1 := isMid lr (head_hash h0)
    have m2 := midOf_at lr (head_hash h0)
    clear h0 h1 b0 ed hfit hp hf lb lr lt
    go_enter Tryd.func35, Tryd.ntmps35
    go_wp2_with fail
    with_reducible refine (CD.out _).mono ?_
    rintro e w' ⟨rfl, rfl⟩
    go_wp2_with fail
    clear m1 m2
    with_reducible refine (CB.out _ B0.out).mono ?_
    rintro ed w1 ⟨rfl, hb1⟩
    have bz : Below w1.heap.size w1 ((w1.alloc (.cells (hashArr Tree.zero) 24)).alloc (.cells (hashArr Tree.zero) 24)) := ((Below.refl _ _).alloc (Nat.le_refl _) _).alloc (by simp) _
    have K1 := Lib.hid (heap2_old w1 (.cells (hashArr Tree.zero) 24) (.cells (hashArr Tree.zero) 24))
    have K2 := Lib.hid (heap2_new w1 (.cells (hashArr Tree.zero) 24) (.cells (hashArr Tree.zero) 24))
    have K3 := Lib.hid ((setRow_other _ w1.heap.size (w1.heap.size + 1) (hashArr a1) (by omega)).trans K2.out)
    have hp2 := pair_rows (hashArr a1) (hashArr a2) K1.out K2.out (by omega)
    have l0 := lt_of_block (heap_below M0.out hb1)
    have l1 := lt_of_block (heap_below M1.out hb1)
    have n0 := (setRow_other _ (w1.heap.size + 1) w.heap.size (hashArr a2) (by omega)).trans ((setRow_other _ w1.heap.size w.heap.size (hashArr a1) (by omega)).trans (heap_below M0.out (below_join hb1 bz)))
    have n1 := (setRow_other _ (w1.heap.size + 1) (w.heap.size + 1) (hashArr a2) (by omega)).trans ((setRow_other _ w1.heap.size (w.heap.size + 1) (hashArr a1) (by omega)).trans (heap_below M1.out (below_join hb1 bz)))
    have l4 := (below_join B0.out hb1).size
    have BQ := Lib.hid (below_setRow (below_setRow (below_join B0.out (below_join hb1 bz)) (g := w1.heap.size) (by omega) (hashArr a1)) (g := w1.heap.size + 1) (by omega) (hashArr a2))
    have f1 := isMid LA1.out (range_of_row hp2.1)
    have f2 := midOf_at LA1.out (range_of_row hp2.1)
    have f3 := isMid LA2.out (range_of_row hp2.2)
    have f4 := midOf_at LA2.out (range_of_row hp2.2)
    have f5 := isMid LR.out (head_hash n0)
    have f6 := midOf_at LR.out (head_hash n0)
    have f7 := isMid LT.out (head_hash n1)
    have f8 := midOf_at LT.out (head_hash n1)
    have heq := fun W => hash_eql a1 r LA1.out LR.out W
    have heq2 := fun W => hash_eql a2 t LA2.out LT.out W
    clear bz hp2 l0 l1 l4 n0 n1 hb1
    cases hrt : (a1 == r) with
    | false =>
      rw [hrt] at heq
      go_wp2_with (first
        | ((with_reducible refine op_is ⟨none, .store 24 (.tmp 7) (.tmp 63), _, _, _, _⟩ ?_); refine wpList_store_row rfl 24 (.tmp 7) (.tmp 63) rfl w1.heap.size (hashArr a1) rfl rfl 24 _ K1.out (hash_info _ LA1.out) (by rw [hashArr_size, hashArr_size, LA1.out, LZ0.out]) (hashArr_one _) ?_)
        | ((with_reducible refine op_is ⟨none, .store 24 (.tmp 8) (.tmp 64), _, _, _, _⟩ ?_); refine wpList_store_row rfl 24 (.tmp 8) (.tmp 64) rfl (w1.heap.size + 1) (hashArr a2) rfl rfl 24 _ K3.out (hash_info _ LA2.out) (by rw [hashArr_size, hashArr_size, LA2.out, LZ0.out]) (hashArr_one _) ?_))
      go_ret
      exact ⟨ret_bool (by have := HF.out; rw [hrt] at this; simpa using this), BQ.out⟩
    | true =>
      rw [hrt] at heq
      go_wp2_with (first
        | ((with_reducible refine op_is ⟨none, .store 24 (.tmp 7) (.tmp 63), _, _, _, _⟩ ?_); refine wpList_store_row rfl 24 (.tmp 7) (.tmp 63) rfl w1.heap.size (hashArr a1) rfl rfl 24 _ K1.out (hash_info _ LA1.out) (by rw [hashArr_size, hashArr_size, LA1.out, LZ0.out]) (hashArr_one _) ?_)
        | ((with_reducible refine op_is ⟨none, .store 24 (.tmp 8) (.tmp 64), _, _, _, _⟩ ?_); refine wpList_store_row rfl 24 (.tmp 8) (.tmp 64) rfl (w1.heap.size + 1) (hashArr a2) rfl rfl 24 _ K3.out (hash_info _ LA2.out) (by rw [hashArr_size, hashArr_size, LA2.out, LZ0.out]) (hashArr_one _) ?_))
      go_ret
      exact ⟨ret_bool (by have := HF.out; rw [hrt] at this; simpa using this), BQ.out⟩
  · have hq : ((m : Int) != (d : Int)) = true := by simp; omega
    have HF := Lib.hid hfit
    clear h0 h1 b0 ed hfit hp hf
    go_enter Tryd.func35, Tryd.ntmps35
    go_wp2_with fail
    with_reducible refine (CD.out _).mono ?_
    rintro e w' ⟨rfl, rfl⟩
    go_wp2_with fail
    go_ret
    exact ⟨ret_bool (by rw [← HF.out, show (m == d) = false by simpa using hmd]; rfl), B0.out⟩
end
section
theorem pow63 : (2 : Nat) ^ 63 = 9223372036854775808 := by decide
theorem fits_agree (size n : Int) (r : Tree.H) (s : ByteArray) (a : Option Addr) (m c : Nat) (hs : List Tree.H) (w : World) (hsize : size ≤ 9223372036854775807) (hp : IsHs w (.slice a m c) hs) (hm : hs.length = m) (hT : Tabs w) (hsz : s.size ≤ 140737488354000) (lr : r.length = 32) :
    ∃ b, (∀ W, Below w.heap.size w W → Calls Tryd.prog 21 #[.agg (headArr size r), .int .i64 n, .string s, .slice a m c] W fun e w' => e = .returned (.bool b) ∧ Below W.heap.size W w') ∧
      (∀ W, Below w.heap.size w W → Calls Tryd.prog 30 #[.agg (headArr size r), .int .i64 n, .string s, .slice a m c] W fun e w' => e = .returned (.bool b) ∧ Below W.heap.size W w') := by
  by_cases h : n < 0 ∨ size ≤ n
  · exact ⟨false, fun W g => fits_any size n r s _ false W lr (fun V g' => check_no size n r s a m c V h), fun W g => rfits_no size n r s _ W h⟩
  · obtain ⟨k, rfl⟩ : ∃ k : Nat, n = (k : Int) := ⟨n.toNat, by omega⟩
    obtain ⟨z, rfl⟩ : ∃ z : Nat, size = (z : Int) := ⟨size.toNat, by omega⟩
    have hf : z ≤ 2 ^ 63 := by rw [pow63]; omega
    exact ⟨Tree.fits 63 z r k (Tree.leaf s) hs, fun W g => fits_any z k r s _ _ W lr (fun V g' => check_yes 63 z k r _ s a m c hs V _ (hp.below (below_join g g')) hm (hT.below (below_join g g')) hsz lr rfl (by omega) hf (by omega) rfl),
      fun W g => rfits_yes 63 z k r _ s a m c hs W _ (hp.below g) hm hsz lr rfl (by omega) hf (by omega) (by omega) rfl⟩
theorem grows_agree (size next : Int) (r t : Tree.H) (a : Option Addr) (m c : Nat) (hs : List Tree.H) (w : World) (hnext : next ≤ 9223372036854775807) (hp : IsHs w (.slice a m c) hs) (hm : hs.length = m) (hT : Tabs w) (lr : r.length = 32) (lt : t.length = 32) :
    ∃ b, (∀ W, Below w.heap.size w W → Calls Tryd.prog 32 #[.agg (headArr size r), .agg (headArr next t), .slice a m c] W fun e w' => e = .returned (.bool b) ∧ Below W.heap.size W w') ∧
      (∀ W, Below w.heap.size w W → Calls Tryd.prog 35 #[.agg (headArr size r), .agg (headArr next t), .slice a m c] W fun e w' => e = .returned (.bool b) ∧ Below W.heap.size W w') := by
  by_cases h : size < 0 ∨ next < size
  · exact ⟨false, fun W g => grows_any size next r t _ false W lr lt (fun V g' => grow_no size next r t a m c V h), fun W g => rgrow_no size next r t a m c W h⟩
  · by_cases he : size = next
    · subst he
      exact ⟨_, fun W g => grows_any size size r t _ _ W lr lt (fun V g' => grow_eq size r t a m c V (by omega) lr lt _ rfl), fun W g => rgrow_eq size r t a m c W (by omega) lr lt _ rfl⟩
    · by_cases h0 : size = 0
      · subst h0
        exact ⟨_, fun W g => grows_any 0 next r t _ _ W lr lt (fun V g' => grow_zero next r t _ a m c V (by omega) (hT.below (below_join g g')) lr rfl _ rfl), fun W g => rgrow_zero next r t _ a m c W (by omega) lr rfl _ rfl⟩
      · obtain ⟨k, rfl⟩ : ∃ k : Nat, size = (k : Int) := ⟨size.toNat, by omega⟩
        obtain ⟨z, rfl⟩ : ∃ z : Nat, next = (z : Int) := ⟨next.toNat, by omega⟩
        have hf : z ≤ 2 ^ 63 := by rw [pow63]; omega
        exact ⟨Tree.grown 63 k z r t hs, fun W g => grows_any k z r t _ _ W lr lt (fun V g' => grow_yes 63 k z r t a m c hs V _ (hp.below (below_join g g')) hm (hT.below (below_join g g')) lr lt (by omega) (by omega) hf (by omega) rfl),
          fun W g => rgrow_yes 63 k z r t a m c hs W _ (hp.below g) hm lr lt (by omega) (by omega) hf (by omega) (by omega) rfl⟩
end
end Go.Proofs.YtjedhmoehepbnaaDoor
