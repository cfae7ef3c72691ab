/- The contracts of the reference's depth, up and Fits; stores of a hash into the middle of a block. -/
import Derived.Test.YtjedhmoehepbnaaDoorTreeFits
import Derived.Lib.LazyBuf
namespace Go.Proofs.YtjedhmoehepbnaaDoor
open Go.RowKit Go.Sort
set_option linter.unusedVariables false
section
set_option maxHeartbeats 1000000 in
theorem rdepth_any : ∀ (f i n d : Nat) (w : World), i < n → n ≤ 2 ^ f → n ≤ 9223372036854775807 → f ≤ 63 → Tree.depth f i n = d →
    Calls Tryd.prog 45 #[.int .i64 (i : Int), .int .i64 (n : Int)] w fun e w' => e = .returned (.int .i64 (d : Int)) ∧ w = w' := by
  intro f
  induction f with
  | zero =>
    intro i n d w hi hf hn h63 hd
    have : (2 : Nat) ^ 0 = 1 := rfl
    have hd1 : decide ((n : Int) ≤ 1) = true := by simp; omega
    obtain rfl : d = 0 := hd.symm
    clear hd
    go_enter Tryd.func45, Tryd.ntmps45
    go_wp2_with fail
    go_ret
    exact ⟨rfl, rfl⟩
  | succ f ih =>
    intro i n d w hi hf hn h63 hd
    rw [Tree.depth] at hd
    by_cases h1 : n ≤ 1
    · rw [if_pos h1] at hd
      obtain rfl : d = 0 := hd.symm
      have hd1 : decide ((n : Int) ≤ 1) = true := by simp; omega
      clear hd ih
      go_enter Tryd.func45, Tryd.ntmps45
      go_wp2_with fail
      go_ret
      exact ⟨rfl, rfl⟩
    · rw [if_neg h1] at hd
      have hd1 : decide ((n : Int) ≤ 1) = false := by simp; omega
      have hk0 := Tree.half_pos n
      have hk1 := Tree.half_lt n (by omega)
      have hf1 := Tree.half_pow n f (by omega) hf
      have hf2 := Tree.rest_pow n f (by omega) hf
      have ch := fun W => rhalf_any n W (by omega) (by omega)
      obtain ⟨k, ek⟩ : ∃ k, Tree.half n = k := ⟨_, rfl⟩
      rw [ek] at hk0 hk1 hf1 hf2 ch hd
      by_cases hik : i < k
      · rw [if_pos hik] at hd
        have hdi : decide ((i : Int) < (k : Int)) = true := by simp; omega
        obtain ⟨d', ed⟩ : ∃ x, Tree.depth f i k = x := ⟨_, rfl⟩
        have hle := Tree.depth_le f i k
        rw [ed] at hd hle
        subst hd
        have q : IntKind.i64.wrap (1 + (d' : Int)) = 1 + (d' : Int) := IntWalk.i64_in _ (by omega)
        have CA := Lib.hid (fun W => ih i k d' W hik hf1 (by omega) (by omega) ed)
        have CH := Lib.hid ch
        clear ih ch ek ed hf hf1 hf2
        go_enter Tryd.func45, Tryd.ntmps45
        go_wp2_with fail
        with_reducible refine (CH.out _).mono ?_
        rintro e w' ⟨rfl, rfl⟩
        go_wp2_with fail
        with_reducible refine (CA.out _).mono ?_
        rintro e w' ⟨rfl, rfl⟩
        go_wp2_with fail
        go_ret
        exact ⟨ret_int (by omega), rfl⟩
      · rw [if_neg hik] at hd
        have hdi : decide ((i : Int) < (k : Int)) = false := by simp; omega
        obtain ⟨d', ed⟩ : ∃ x, Tree.depth f (i - k) (n - k) = x := ⟨_, rfl⟩
        have hle := Tree.depth_le f (i - k) (n - k)
        rw [ed] at hd hle
        subst hd
        have q : IntKind.i64.wrap (1 + (d' : Int)) = 1 + (d' : Int) := IntWalk.i64_in _ (by omega)
        have q7 : IntKind.i64.wrap ((i : Int) - (k : Int)) = (i : Int) - (k : Int) := IntWalk.i64_in _ (by omega)
        have q8 : IntKind.i64.wrap ((n : Int) - (k : Int)) = (n : Int) - (k : Int) := IntWalk.i64_in _ (by omega)
        have CA := Lib.hid (fun W => ih (i - k) (n - k) d' W (by omega) hf2 (by omega) (by omega) ed)
        rw [show ((n - k : Nat) : Int) = (n : Int) - (k : Int) by omega, show ((i - k : Nat) : Int) = (i : Int) - (k : Int) by omega] at CA
        have CH := Lib.hid ch
        clear ih ch ek ed hf hf1 hf2
        go_enter Tryd.func45, Tryd.ntmps45
        go_wp2_with fail
        with_reducible refine (CH.out _).mono ?_
        rintro e w' ⟨rfl, rfl⟩
        go_wp2_with fail
        with_reducible refine (CA.out _).mono ?_
        rintro e w' ⟨rfl, rfl⟩
        go_wp2_with fail
        go_ret
        exact ⟨ret_int (by omega), rfl⟩
theorem elem_hs : Tryd.prog.underlying 38 = some (.slice (Tryd.prog.elem 38)) := by kernel_rfl
theorem size_hs (W : World) : (sizeOf (Tryd.prog.elem 38)).run Tryd.prog W = .ok 32 W := by kernel_rfl
theorem cut_hs (ao : Option Addr) (n m c : Nat) (h : m ≤ c) (W : World) : (Instr.slice 38 (.slice ao n c) none (some (.int .i64 (m : Int))) none).run Tryd.prog W = .ok (.slice ao m c) W := by
  rw [run_slice_h (P := Tryd.prog) W 38 ao n c elem_hs .i64 (m : Int) (by omega) (by omega), size_hs]
  simp only [Result.andThen, sliced, Nat.zero_mul, Nat.sub_zero, Int.toNat_natCast]
  have : ao.map (·.add 0) = ao := by cases ao <;> simp [Addr.add]
  rw [this]
  simp
theorem IsHs.cut {W : World} {a : Option Addr} {n c k : Nat} {hs : List Tree.H} (h : IsHs W (.slice a n c) hs) (hn : hs.length = n) (hk : k ≤ n) : IsHs W (.slice a k c) (hs.take k) := by
  obtain ⟨h1, ⟨rfl, a', c', e, hc⟩ | ⟨b, o, c', e, h3, h4, h5, h6⟩⟩ := h
  · injection e with e1 e2 e3
    obtain rfl : k = 0 := by omega
    exact ⟨(fun x hx => by simp at hx), .inl ⟨by simp, _, _, rfl, by omega⟩⟩
  · injection e with e1 e2 e3
    subst e1 e3
    refine ⟨fun x hx => h1 x (List.mem_of_mem_take hx), ?_⟩
    by_cases h0 : k = 0
    · subst h0; exact .inl ⟨by simp, _, _, rfl, h5⟩
    · have hl : (hs.take k).length = k := by rw [List.length_take]; omega
      refine .inr ⟨b, o, c, by rw [hl], by omega, by omega, h5, fun i hi => ?_⟩
      rw [hl] at hi
      have := h6 i (by omega)
      rwa [show (hs.take k).getD i [] = hs.getD i [] by rw [List.getD_eq_getElem?_getD, List.getD_eq_getElem?_getD, List.getElem?_take, if_pos hi]]
theorem IsHs.last {W : World} {a : Option Addr} {n c : Nat} {hs : List Tree.H} (h : IsHs W (.slice a n c) hs) (hn : hs.length = n) (h1 : 1 ≤ n) : ∃ b o, a = some ⟨b, o, none⟩ ∧ n ≤ c ∧ c ≤ 9223372036854775807 ∧ ∀ i, i < n → W.rangeAt b (o + i * 32) (hashArr (hs.getD i [])).toList := by
  obtain ⟨_, ⟨rfl, a', c', e, hc⟩ | ⟨b, o, c', e, h3, h4, h5, h6⟩⟩ := h
  · simp at hn; omega
  · injection e with e1 e2 e3
    subst e1 e3
    exact ⟨b, o, rfl, by omega, h5, fun i hi => h6 i (by omega)⟩
attribute [local go_sem ↓] wp_alloc_hash wp_load_at
theorem up_length (f : Nat) (x : Tree.H) (i n : Nat) (hs : List Tree.H) (hx : x.length = 32) : (Tree.up f x i n hs).length = 32 := by
  cases f with
  | zero => exact hx
  | succ f =>
    rw [Tree.up]
    split
    · exact hx
    · split <;> exact Tree.node_length _ _
set_option maxHeartbeats 1000000 in
set_option maxRecDepth 100000 in
theorem rup_one (i n : Int) (x : Tree.H) (v : Value) (w : World) (hn : n ≤ 1) (lx : x.length = 32) :
    Calls Tryd.prog 46 #[.agg (hashArr x), .int .i64 i, .int .i64 n, v] w fun e w' => e = .returned (.agg (hashArr x)) ∧ Below w.heap.size w w' := by
  have hd1 : decide (n ≤ 1) = true := by simpa using hn
  have b0 : Below w.heap.size w ((w.alloc (.cells (hashArr x) 24)).alloc (.cells (hashArr Tree.zero) 24)) := ((Below.refl _ _).alloc (Nat.le_refl _) _).alloc (by simp) _
  have h1 := heap_alloc2_old w (.cells (hashArr x) 24) (.cells (hashArr Tree.zero) 24)
  have H2 := Lib.hid (heap_alloc2_new w (.cells (hashArr x) 24) (.cells (hashArr Tree.zero) 24))
  have f1 := isHashAt lx h1
  have f2 := hashOf_at h1
  have LX := Lib.hid lx
  have B0 := Lib.hid b0
  clear h1 b0 lx
  go_enter Tryd.func46, Tryd.ntmps46
  go_wp2_with ((with_reducible refine op_is ⟨none, .store 24 (.tmp 8) (.tmp 14), _, _, _, _⟩ ?_); refine wpList_store_row rfl 24 (.tmp 8) (.tmp 14) rfl (w.heap.size + 1) (hashArr x) rfl rfl 24 _ H2.out (hash_info _ LX.out) (by rw [hashArr_size, hashArr_size, LX.out]; rfl) (hashArr_one _) ?_)
  refine bodyPost_ret (v := .agg (hashArr x)) (results_cell_row Tryd.results46 _ _ (w.heap.size + 1) 24 (hashArr x) (0, 0) _ rfl (setRow_heap _ _ _ _ _ _ H2.out) Tryd.underlying24 rfl (hash_info _ LX.out)) rfl ⟨rfl, below_setRow B0.out (by omega) _⟩
set_option maxHeartbeats 2000000 in
set_option maxRecDepth 100000 in
theorem rup_left (i n k m b o c : Nat) (x y z : Tree.H) (w : World) (hn : 2 ≤ n) (hnm : n ≤ 9223372036854775807) (hk : Tree.half n = k) (hk1 : 1 ≤ k) (hkn : k < n) (hi : i < k) (hin : i < n) (hmc : m + 1 ≤ c) (hc : c ≤ 9223372036854775807) (lx : x.length = 32) (ly : y.length = 32) (lz : z.length = 32) (hz : w.rangeAt b (o + m * 32) (hashArr z).toList)
    (C : ∀ W, Below w.heap.size w W → Calls Tryd.prog 46 #[.agg (hashArr x), .int .i64 (i : Nat), .int .i64 (k : Nat), .slice (some ⟨b, o, none⟩) m c] W fun e w' => e = .returned (.agg (hashArr y)) ∧ Below W.heap.size W w') :
    Calls Tryd.prog 46 #[.agg (hashArr x), .int .i64 (i : Int), .int .i64 (n : Int), .slice (some ⟨b, o, none⟩) (m + 1) c] w fun e w' => e = .returned (.agg (hashArr (Tree.node y z))) ∧ Below w.heap.size w w' := by
  have hd1 : decide ((n : Int) ≤ 1) = false := by simp; omega
  have hdi : decide ((i : Int) < (k : Int)) = true := by simp; omega
  have ch := fun W => rhalf_any n W hn hnm
  rw [hk] at ch
  have CH := Lib.hid ch
  have q0 : IntKind.i64.wrap ((m : Int) + 1 - 1) = (m : Int) := by rw [show (m : Int) + 1 - 1 = (m : Int) by omega]; exact IntWalk.i64_in _ (by omega)
  have q1 : (0 : Int) ≤ (m : Int) := by omega
  have q2 : (m : Int) < (m : Int) + 1 := by omega
  have q3 : (m : Int).toNat = m := by omega
  have hcut := cut_hs (some ⟨b, o, none⟩) (m + 1) m c (by omega)
  have b0 : Below w.heap.size w ((w.alloc (.cells (hashArr x) 24)).alloc (.cells (hashArr Tree.zero) 24)) := ((Below.refl _ _).alloc (Nat.le_refl _) _).alloc (by simp) _
  have HZ := Lib.hid (range_below hz b0)
  have LI := Lib.hid (hash_infoL z lz)
  have LX := Lib.hid lx
  have LY := Lib.hid ly
  have LZ := Lib.hid lz
  have L0 : Hid ((hashArr Tree.zero).size = 32) := by show _ = _; rw [hashArr_size]; exact zero_length
  have H4 := Lib.hid (heap_alloc2_old w (.cells (hashArr x) 24) (.cells (hashArr Tree.zero) 24))
  have H8 := Lib.hid (heap_alloc2_new w (.cells (hashArr x) 24) (.cells (hashArr Tree.zero) 24))
  have CC := Lib.hid C
  have B0 := Lib.hid b0
  clear b0 C ch hk hz lx ly lz
  go_enter Tryd.func46, Tryd.ntmps46
  go_wp2_with fail
  with_reducible refine (CH.out _).mono ?_
  rintro e w' ⟨rfl, rfl⟩
  generalize (w.alloc (.cells (hashArr x) 24)).alloc (.cells (hashArr Tree.zero) 24) = W0 at *
  go_wp2_with (first
    | ((with_reducible refine op_is ⟨some 22, .load 24 (.tmp 21), _, _, _, _⟩ ?_); refine wpList_load_mid rfl 24 (.tmp 21) rfl b (o + m * 32) rfl (hashArr z).toList _ HZ.out Tryd.underlying24 rfl LI.out ?_; rw [Array.toArray_toList])
    | ((with_reducible refine op_is ⟨none, .store 24 (.tmp 10) (.tmp 22), _, _, _, _⟩ ?_); refine store_hash LZ.out L0.out (.tmp 10) (.tmp 22) rfl rfl rfl rfl rfl ?_))
  have bw : Below W0.heap.size W0 (W0.alloc (.cells (hashArr z) 24)) := (Below.refl _ _).alloc (Nat.le_refl _) _
  have G4 := Lib.hid (heap_below H4.out bw)
  have G8 := Lib.hid (heap_below H8.out bw)
  have G10 := Lib.hid (heap_alloc_new W0 (.cells (hashArr z) 24))
  have B1 := Lib.hid (below_join B0.out bw)
  clear bw H4 H8
  generalize W0.alloc (.cells (hashArr z) 24) = W at *
  have L4 := Lib.hid (hash_load LX.out G4.out)
  have L10 := Lib.hid (hash_load LZ.out G10.out)
  refine wp_region_tail_below 7 (by kernel_rfl) (by kernel_rfl) ?_
  simp only [List.take_succ_cons, List.take_zero, List.drop_succ_cons, List.drop_zero]
  repeat (first | (refine quiet_load_row (by rfl) _ (.tmp 4) rfl _ _ rfl _ L4.out ?_; simp only [Act.put, List.setIfInBounds_toArray, List.set_cons_zero, List.set_cons_succ]) | (refine quiet_load_row (by rfl) _ (.tmp 10) rfl _ _ rfl _ L10.out ?_; simp only [Act.put, List.setIfInBounds_toArray, List.set_cons_zero, List.set_cons_succ]) | go_big_quiet_step ((first | with_reducible exact Calls.regrown_of (CC.out _ (below_join B1.out (below_regrown _ _ _))) | with_reducible exact Calls.regrown_of (rnode_any y z _ LY.out LZ.out _ rfl))))
  refine wpQuiet_nil ?_
  intro _ hw'
  obtain ⟨⟨dq, osq⟩, hw''⟩ := hw'
  subst hw''
  have hq := below_regrown W dq osq
  have BQ := Lib.hid (below_join B1.out hq)
  have R8 := Lib.hid (heap_below G8.out hq)
  have LN := Lib.hid (Tree.node_length y z)
  clear hq
  generalize grow (redrawn W dq) osq = W1 at *
  go_wp2_with ((with_reducible refine op_is ⟨none, .store 24 (.tmp 8) (.tmp 37), _, _, _, _⟩ ?_); refine wpList_store_row rfl 24 (.tmp 8) (.tmp 37) rfl (w.heap.size + 1) (hashArr (Tree.node y z)) rfl rfl 24 _ R8.out (hash_info _ LN.out) (by rw [hashArr_size, hashArr_size, LN.out]; rfl) (hashArr_one _) ?_)
  refine bodyPost_ret (v := .agg (hashArr (Tree.node y z))) (results_cell_row Tryd.results46 _ _ (w.heap.size + 1) 24 (hashArr (Tree.node y z)) (0, 0) _ rfl (setRow_heap _ _ _ _ _ _ R8.out) Tryd.underlying24 rfl (hash_info _ LN.out)) rfl ⟨rfl, below_setRow BQ.out (by omega) _⟩
set_option maxHeartbeats 2000000 in
set_option maxRecDepth 100000 in
theorem rup_right (i n k m b o c : Nat) (x y z : Tree.H) (w : World) (hn : 2 ≤ n) (hnm : n ≤ 9223372036854775807) (hk : Tree.half n = k) (hk1 : 1 ≤ k) (hkn : k < n) (hi : k ≤ i) (hin : i < n) (hmc : m + 1 ≤ c) (hc : c ≤ 9223372036854775807) (lx : x.length = 32) (ly : y.length = 32) (lz : z.length = 32) (hz : w.rangeAt b (o + m * 32) (hashArr z).toList)
    (C : ∀ W, Below w.heap.size w W → Calls Tryd.prog 46 #[.agg (hashArr x), .int .i64 ((i - k) : Nat), .int .i64 ((n - k) : Nat), .slice (some ⟨b, o, none⟩) m c] W fun e w' => e = .returned (.agg (hashArr y)) ∧ Below W.heap.size W w') :
    Calls Tryd.prog 46 #[.agg (hashArr x), .int .i64 (i : Int), .int .i64 (n : Int), .slice (some ⟨b, o, none⟩) (m + 1) c] w fun e w' => e = .returned (.agg (hashArr (Tree.node z y))) ∧ Below w.heap.size w w' := by
  have hd1 : decide ((n : Int) ≤ 1) = false := by simp; omega
  have hdi : decide ((i : Int) < (k : Int)) = false := by simp; omega
  have ch := fun W => rhalf_any n W hn hnm
  rw [hk] at ch
  have CH := Lib.hid ch
  have q0 : IntKind.i64.wrap ((m : Int) + 1 - 1) = (m : Int) := by rw [show (m : Int) + 1 - 1 = (m : Int) by omega]; exact IntWalk.i64_in _ (by omega)
  have q1 : (0 : Int) ≤ (m : Int) := by omega
  have q2 : (m : Int) < (m : Int) + 1 := by omega
  have q3 : (m : Int).toNat = m := by omega
  have hcut := cut_hs (some ⟨b, o, none⟩) (m + 1) m c (by omega)
  have b0 : Below w.heap.size w ((w.alloc (.cells (hashArr x) 24)).alloc (.cells (hashArr Tree.zero) 24)) := ((Below.refl _ _).alloc (Nat.le_refl _) _).alloc (by simp) _
  have HZ := Lib.hid (range_below hz b0)
  have LI := Lib.hid (hash_infoL z lz)
  have LX := Lib.hid lx
  have LY := Lib.hid ly
  have LZ := Lib.hid lz
  have L0 : Hid ((hashArr Tree.zero).size = 32) := by show _ = _; rw [hashArr_size]; exact zero_length
  have H4 := Lib.hid (heap_alloc2_old w (.cells (hashArr x) 24) (.cells (hashArr Tree.zero) 24))
  have H8 := Lib.hid (heap_alloc2_new w (.cells (hashArr x) 24) (.cells (hashArr Tree.zero) 24))
  have CC := Lib.hid C
  have B0 := Lib.hid b0
  have q7 : IntKind.i64.wrap ((i : Int) - (k : Int)) = (i : Int) - (k : Int) := IntWalk.i64_in _ (by omega)
  have q8 : IntKind.i64.wrap ((n : Int) - (k : Int)) = (n : Int) - (k : Int) := IntWalk.i64_in _ (by omega)
  rw [show ((n - k : Nat) : Int) = (n : Int) - (k : Int) by omega, show ((i - k : Nat) : Int) = (i : Int) - (k : Int) by omega] at CC
  clear b0 C ch hk hz lx ly lz
  go_enter Tryd.func46, Tryd.ntmps46
  go_wp2_with fail
  with_reducible refine (CH.out _).mono ?_
  rintro e w' ⟨rfl, rfl⟩
  generalize (w.alloc (.cells (hashArr x) 24)).alloc (.cells (hashArr Tree.zero) 24) = W0 at *
  go_wp2_with (first
    | ((with_reducible refine op_is ⟨some 22, .load 24 (.tmp 21), _, _, _, _⟩ ?_); refine wpList_load_mid rfl 24 (.tmp 21) rfl b (o + m * 32) rfl (hashArr z).toList _ HZ.out Tryd.underlying24 rfl LI.out ?_; rw [Array.toArray_toList])
    | ((with_reducible refine op_is ⟨none, .store 24 (.tmp 10) (.tmp 22), _, _, _, _⟩ ?_); refine store_hash LZ.out L0.out (.tmp 10) (.tmp 22) rfl rfl rfl rfl rfl ?_))
  have bw : Below W0.heap.size W0 (W0.alloc (.cells (hashArr z) 24)) := (Below.refl _ _).alloc (Nat.le_refl _) _
  have G4 := Lib.hid (heap_below H4.out bw)
  have G8 := Lib.hid (heap_below H8.out bw)
  have G10 := Lib.hid (heap_alloc_new W0 (.cells (hashArr z) 24))
  have B1 := Lib.hid (below_join B0.out bw)
  clear bw H4 H8
  generalize W0.alloc (.cells (hashArr z) 24) = W at *
  have L4 := Lib.hid (hash_load LX.out G4.out)
  have L10 := Lib.hid (hash_load LZ.out G10.out)
  refine wp_region_tail_below 11 (by kernel_rfl) (by kernel_rfl) ?_
  simp only [List.take_succ_cons, List.take_zero, List.drop_succ_cons, List.drop_zero]
  repeat (first | (refine quiet_load_row (by rfl) _ (.tmp 4) rfl _ _ rfl _ L4.out ?_; simp only [Act.put, List.setIfInBounds_toArray, List.set_cons_zero, List.set_cons_succ]) | (refine quiet_load_row (by rfl) _ (.tmp 10) rfl _ _ rfl _ L10.out ?_; simp only [Act.put, List.setIfInBounds_toArray, List.set_cons_zero, List.set_cons_succ]) | go_big_quiet_step ((first | with_reducible exact Calls.regrown_of (CC.out _ (below_join B1.out (below_regrown _ _ _))) | with_reducible exact Calls.regrown_of (rnode_any z y _ LZ.out LY.out _ rfl))))
  refine wpQuiet_nil ?_
  intro _ hw'
  obtain ⟨⟨dq, osq⟩, hw''⟩ := hw'
  subst hw''
  have hq := below_regrown W dq osq
  have BQ := Lib.hid (below_join B1.out hq)
  have R8 := Lib.hid (heap_below G8.out hq)
  have LN := Lib.hid (Tree.node_length z y)
  clear hq
  generalize grow (redrawn W dq) osq = W1 at *
  go_wp2_with ((with_reducible refine op_is ⟨none, .store 24 (.tmp 8) (.tmp 48), _, _, _, _⟩ ?_); refine wpList_store_row rfl 24 (.tmp 8) (.tmp 48) rfl (w.heap.size + 1) (hashArr (Tree.node z y)) rfl rfl 24 _ R8.out (hash_info _ LN.out) (by rw [hashArr_size, hashArr_size, LN.out]; rfl) (hashArr_one _) ?_)
  refine bodyPost_ret (v := .agg (hashArr (Tree.node z y))) (results_cell_row Tryd.results46 _ _ (w.heap.size + 1) 24 (hashArr (Tree.node z y)) (0, 0) _ rfl (setRow_heap _ _ _ _ _ _ R8.out) Tryd.underlying24 rfl (hash_info _ LN.out)) rfl ⟨rfl, below_setRow BQ.out (by omega) _⟩
theorem rup_any : ∀ (f i n m c : Nat) (a : Option Addr) (hs : List Tree.H) (x : Tree.H) (w : World), i < n → n ≤ 2 ^ f → n ≤ 9223372036854775807 → IsHs w (.slice a m c) hs → hs.length = m → m = Tree.depth f i n → x.length = 32 →
    Calls Tryd.prog 46 #[.agg (hashArr x), .int .i64 (i : Int), .int .i64 (n : Int), .slice a m c] w fun e w' => e = .returned (.agg (hashArr (Tree.up f x i n hs))) ∧ Below w.heap.size w w' := by
  intro f
  induction f with
  | zero =>
    intro i n m c a hs x w hi hf hnm hp hl hm lx
    have : (2 : Nat) ^ 0 = 1 := rfl
    exact rup_one i n x _ w (by omega) lx
  | succ f ih =>
    intro i n m c a hs x w hi hf hnm hp hl hm lx
    rw [Tree.depth] at hm
    rw [Tree.up]
    by_cases h1 : n ≤ 1
    · rw [if_pos h1]
      exact rup_one i n x _ w (by omega) lx
    · rw [if_neg h1] at hm ⊢
      have hk0 := Tree.half_pos n
      have hk1 := Tree.half_lt n (by omega)
      have hf1 := Tree.half_pow n f (by omega) hf
      have hf2 := Tree.rest_pow n f (by omega) hf
      by_cases hik : i < Tree.half n
      · rw [if_pos hik] at hm ⊢
        obtain ⟨m', rfl⟩ : ∃ m', m = m' + 1 := ⟨m - 1, by omega⟩
        obtain ⟨b, o, rfl, hmc, hc, hel⟩ := hp.last hl (by omega)
        rw [hl, show m' + 1 - 1 = m' by omega]
        have hl2 : (hs.take m').length = m' := by rw [List.length_take]; omega
        exact rup_left i n (Tree.half n) m' b o c x _ _ w (by omega) hnm rfl hk0 hk1 hik hi hmc hc lx (up_length f x _ _ _ lx) (hp.1.getD m' (by omega)) (hel m' (by omega)) (fun W g => ih i (Tree.half n) m' c _ (hs.take m') x W hik hf1 (by omega) ((hp.below g).cut hl (by omega)) hl2 (by omega) lx)
      · rw [if_neg hik] at hm ⊢
        obtain ⟨m', rfl⟩ : ∃ m', m = m' + 1 := ⟨m - 1, by omega⟩
        obtain ⟨b, o, rfl, hmc, hc, hel⟩ := hp.last hl (by omega)
        rw [hl, show m' + 1 - 1 = m' by omega]
        have hl2 : (hs.take m').length = m' := by rw [List.length_take]; omega
        exact rup_right i n (Tree.half n) m' b o c x _ _ w (by omega) hnm rfl hk0 hk1 (by omega) hi hmc hc lx (up_length f x _ _ _ lx) (hp.1.getD m' (by omega)) (hel m' (by omega)) (fun W g => ih (i - Tree.half n) (n - Tree.half n) m' c _ (hs.take m') x W (by omega) hf2 (by omega) ((hp.below g).cut hl (by omega)) hl2 (by omega) lx)
end
section
/-- a hash somewhere in memory, and its cells -/
def IsMid (w : World) (v : Value) : Prop := ∃ (b o : Nat) (l : Tree.H), v = .pointer (some ⟨b, o, none⟩) ∧ l.length = 32 ∧ w.rangeAt b o (hashArr l).toList
def midOf (w : World) : Value → Array Value
  | .pointer (some a) => ((List.range 32).map fun j => (w.cell? ⟨a.block, a.off + j, none⟩).getD undef).toArray
  | _ => #[]
theorem isMid {w : World} {b o : Nat} {l : Tree.H} (hl : l.length = 32) (h : w.rangeAt b o (hashArr l).toList) : IsMid w (.pointer (some ⟨b, o, none⟩)) := ⟨b, o, l, rfl, hl, h⟩
theorem midOf_at {w : World} {b o : Nat} {l : Tree.H} (hl : l.length = 32) (h : w.rangeAt b o (hashArr l).toList) : midOf w (.pointer (some ⟨b, o, none⟩)) = hashArr l := by
  have hs : (hashArr l).size = 32 := by rw [hashArr_size, hl]
  unfold midOf
  apply Array.ext_getElem?
  intro k
  by_cases hk : k < 32
  · have e : (hashArr l)[k]? = some ((hashArr l)[k]'(by omega)) := Array.getElem?_eq_getElem (by omega)
    have h1 := h k ((hashArr l)[k]'(by omega)) (by rw [Array.getElem?_toList]; exact e)
    rw [e]
    simp [hk, h1]
  · have e : (hashArr l)[k]? = none := Array.getElem?_eq_none (by omega)
    rw [e]
    simp; omega
theorem wp_load_mid_at {d : Option Tmp} {x : Operand} {ty : TypeId} {pos : String} {after : Array Edge} {gd : Option (Nat × Bool)} {a : Act} {w : World} {K : Act → World → Prop} {Q : Exit → Act → World → Prop} (h0 : IsMid w (a.eval x)) :
    Oper.wp Tryd.prog ⟨d, .load 24 x, ty, pos, after, gd⟩ a w K Q = K (a.put d (.agg (midOf w (a.eval x)))) w := by
  obtain ⟨b, o, l, e, hl, hg⟩ := h0
  unfold Oper.wp execOp
  have hr := run_loadVar_mid (P := Tryd.prog) w b o 24 (hashArr l).toList _ hg Tryd.underlying24 rfl (hash_infoL l hl)
  rw [Array.toArray_toList] at hr
  simp only [e, midOf_at hl hg, Instr.loadAt, Instr.sureAddr, Sem.run_bind, Sem.run_pure, Result.andThen_ok, hr]
  rfl
theorem range_of_row {w : World} {g : Nat} {l : Tree.H} {t : TypeId} {fr : Nat × Nat} (hg : w.heap[g]? = some (.cells (hashArr l) t fr)) : w.rangeAt g 0 (hashArr l).toList := by
  intro j v hv
  rw [Array.getElem?_toList] at hv
  rw [Nat.zero_add]
  exact (cell_of_row _ _ j _ _ _ hg).trans hv
set_option maxHeartbeats 1000000 in
set_option maxRecDepth 100000 in
theorem rfits_no (size n : Int) (r : Tree.H) (s : ByteArray) (v : Value) (w : World) (h : n < 0 ∨ size ≤ n) :
    Calls Tryd.prog 30 #[.agg (headArr size r), .int .i64 n, .string s, v] w fun e w' => e = .returned (.bool false) ∧ Below w.heap.size w w' := by
  have b0 : Below w.heap.size w (w.alloc (.cells (headArr size r) 36)) := (Below.refl _ _).alloc (Nat.le_refl _) _
  have hI := head_int (heap_alloc_new w (.cells (headArr size r) 36))
  have B0 := Lib.hid b0
  clear b0
  by_cases h0 : n < 0
  · have d0 : decide (n < 0) = true := by simpa using h0
    go_enter Tryd.func30, Tryd.ntmps30
    go_wp2_with fail
    go_ret
    exact ⟨rfl, B0.out⟩
  · have d0 : decide (n < 0) = false := by simpa using h0
    have d1 : decide (size ≤ n) = true := by simp; omega
    go_enter Tryd.func30, Tryd.ntmps30
    go_wp2_with fail
    go_ret
    exact ⟨rfl, B0.out⟩
set_option maxHeartbeats 2000000 in
set_option maxRecDepth 100000 in
theorem rfits_yes (f size n : Nat) (r x : Tree.H) (s : ByteArray) (a : Option Addr) (m c : Nat) (hs : List Tree.H) (w : World) (b : Bool) (hp : IsHs w (.slice a m c) hs) (hm : hs.length = m) (hsz : s.size ≤ 140737488354000) (hr : r.length = 32) (hx : Tree.leaf s = x) (hn : n < size) (hf : size ≤ 2 ^ f) (hf63 : f ≤ 63) (hb : size ≤ 9223372036854775807) (hfit : Tree.fits f size r n x hs = b) :
    Calls Tryd.prog 30 #[.agg (headArr size r), .int .i64 (n : Int), .string s, .slice a m c] w fun e w' => e = .returned (.bool b) ∧ Below w.heap.size w w' := by
  have d0 : decide ((n : Int) < 0) = false := by simp
  have d1 : decide ((size : Int) ≤ (n : Int)) = false := by simp; omega
  have d2 : decide (size ≤ n) = false := by simp; omega
  have lx : x.length = 32 := by rw [← hx]; exact Tree.leaf_length s
  have b0 : Below w.heap.size w (w.alloc (.cells (headArr size r) 36)) := (Below.refl _ _).alloc (Nat.le_refl _) _
  have h0 := heap_alloc_new w (.cells (headArr size r) 36)
  have hI := head_int h0
  have hI3 : ∀ d os, (grow (redrawn (w.alloc (.cells (headArr size r) 36)) d) os).cell? ⟨w.heap.size, 0, none⟩ = some (.int .i64 (size : Int)) := fun d os => ((below_regrown _ d os).cell (p := ⟨w.heap.size, 0, none⟩) (block_lt_of_cell hI)).trans hI
  have hL : ∀ w', (∃ p : Regrown, w' = grow (redrawn (w.alloc (.cells (headArr size r) 36)) p.d) p.os) → (loadVar 24 ⟨w.heap.size, 1, none⟩).run Tryd.prog w' = .ok (.agg (hashArr r)) w' := by
    rintro w' ⟨p, rfl⟩
    have := run_loadVar_mid (P := Tryd.prog) (grow (redrawn (w.alloc (.cells (headArr size r) 36)) p.d) p.os) w.heap.size 1 24 (hashArr r).toList _ (range_below (head_hash h0) (below_regrown _ _ _)) Tryd.underlying24 rfl (hash_infoL r hr)
    rwa [Array.toArray_toList] at this
  have LR := Lib.hid hL
  have HRL := Lib.hid hr
  have B0 := Lib.hid b0
  obtain ⟨d, ed⟩ : ∃ d, Tree.depth f n size = d := ⟨_, rfl⟩
  have CD := Lib.hid (fun W => rdepth_any f n size d W hn hf hb hf63 ed)
  unfold Tree.fits at hfit
  rw [ed, hm, show decide (n < size) = true by simpa using hn, Bool.true_and] at hfit
  by_cases hmd : m = d
  · subst hmd
    have hq : ((m : Int) != (m : Int)) = false := by simp
    have CL := Lib.hid (fun W => rleaf_any s x W hsz hx)
    have CU := Lib.hid (fun (W : World) (g : Below (w.alloc (.cells (headArr size r) 36)).heap.size (w.alloc (.cells (headArr size r) 36)) W) => rup_any f n size m c a hs x W hn hf hb (hp.below (below_join b0 g)) hm ed.symm lx)
    have lu := up_length f x n size hs lx
    generalize Tree.up f x n size hs = y at *
    have heq := fun W => hash_eql y r lu hr W
    have HF := Lib.hid hfit
    clear hL h0 hr b0 ed hfit hp hf hx lu hsz
    go_enter Tryd.func30, Tryd.ntmps30
    go_wp2_with fail
    with_reducible refine (CD.out _).mono ?_
    rintro e w' ⟨rfl, rfl⟩
    go_wp2_with fail
    generalize w.alloc (.cells (headArr size r) 36) = W at *
    refine wp_region_quiet_below (by kernel_rfl) (by kernel_rfl) ?_
    repeat (first | (refine quiet_load_row (by rfl) _ (.tmp 33) rfl _ _ rfl _ LR.out ?_; simp only [Act.put, List.setIfInBounds_toArray, List.set_cons_zero, List.set_cons_succ]) | go_big_quiet_step ((first | with_reducible exact Calls.regrown_of (CL.out _) | with_reducible exact Calls.regrown_of (CU.out _ (below_regrown _ _ _)))))
    refine wpQuiet_nil ?_
    intro _ hw'
    obtain ⟨⟨dq, osq⟩, hw''⟩ := hw'
    subst hw''
    have hq2 := below_regrown W dq osq
    have BQ := Lib.hid (below_join B0.out hq2)
    clear hq2
    generalize grow (redrawn W dq) osq = WQ at *
    go_wp2_with fail
    go_ret
    exact ⟨ret_bool (by rw [← HF.out]; simp), BQ.out⟩
  · have hq : ((m : Int) != (d : Int)) = true := by simp; omega
    have HF := Lib.hid hfit
    clear hL h0 hr b0 ed hfit hp hf hx hsz
    go_enter Tryd.func30, Tryd.ntmps30
    go_wp2_with fail
    with_reducible refine (CD.out _).mono ?_
    rintro e w' ⟨rfl, rfl⟩
    go_wp2_with fail
    go_ret
    exact ⟨ret_bool (by rw [← HF.out, show (m == d) = false by simpa using hmd]; rfl), B0.out⟩
end
section
def putCells : Array Value → Nat → List Value → Array Value
  | cs, _, [] => cs
  | cs, o, v :: r => putCells (cs.setIfInBounds o v) (o + 1) r
theorem putCells_size : ∀ (vs : List Value) (cs : Array Value) (o : Nat), (putCells cs o vs).size = cs.size
  | [], _, _ => rfl
  | v :: r, cs, o => by rw [putCells, putCells_size r]; simp
theorem putCells_get : ∀ (vs : List Value) (cs : Array Value) (o k : Nat), (putCells cs o vs)[k]? = if o ≤ k ∧ k < o + vs.length ∧ k < cs.size then vs[k - o]? else cs[k]?
  | [], cs, o, k => by rw [putCells, if_neg (by simp; omega)]
  | v :: r, cs, o, k => by
    rw [putCells, putCells_get r, Array.getElem?_setIfInBounds, Array.size_setIfInBounds, List.length_cons]
    by_cases h1 : k = o
    · subst h1
      rw [if_neg (by omega)]
      by_cases h2 : k < cs.size
      · rw [if_pos rfl, if_pos h2, if_pos (by omega), show k - k = 0 by omega]; rfl
      · rw [if_pos rfl, if_neg h2, if_neg (by omega), Array.getElem?_eq_none (by omega)]
    · rw [if_neg (Ne.symm h1)]
      by_cases h2 : o + 1 ≤ k ∧ k < o + 1 + r.length ∧ k < cs.size
      · rw [if_pos h2, if_pos (by omega), show k - o = (k - (o + 1)) + 1 by omega]; rfl
      · rw [if_neg h2, if_neg (by omega)]
theorem heap_setCell_at {w : World} {g o : Nat} {cs : Array Value} {t : TypeId} {fr : Nat × Nat} (h : w.heap[g]? = some (.cells cs t fr)) (v : Value) : (w.setCell ⟨g, o, none⟩ v).heap[g]? = some (.cells (cs.setIfInBounds o v) t fr) := by
  have hlt := lt_of_block h
  have h' : w.heap[g] = .cells cs t fr := by simpa [Array.getElem?_eq_getElem hlt] using h
  show (w.heap.modify g _)[g]? = _
  rw [Array.getElem?_eq_getElem (by simpa using hlt), Array.getElem_modify_self, h']
  rfl
theorem heap_setCells_at {g : Nat} {t : TypeId} {fr : Nat × Nat} : ∀ (vs : List Value) (o : Nat) (w : World) (cs : Array Value), w.heap[g]? = some (.cells cs t fr) → (w.setCells g o vs).heap[g]? = some (.cells (putCells cs o vs) t fr)
  | [], _, _, _, h => h
  | v :: r, o, w, cs, h => heap_setCells_at r (o + 1) _ _ (heap_setCell_at h v)
theorem heap_setCells_ne {g k : Nat} (hk : k ≠ g) : ∀ (vs : List Value) (o : Nat) (w : World), (w.setCells g o vs).heap[k]? = w.heap[k]?
  | [], _, _ => rfl
  | v :: r, o, w => (heap_setCells_ne hk r (o + 1) _).trans (Below.heap_setCell _ _ _ _ hk)
theorem putCells_head (n : Int) (old h : Tree.H) (lo : old.length = 32) (lh : h.length = 32) : putCells (headArr n old) 1 (hashArr h).toList = headArr n h := by
  have s1 := headArr_size n old lo
  have s2 : (hashArr h).size = 32 := by rw [hashArr_size, lh]
  apply Array.ext_getElem?
  intro k
  rw [putCells_get, s1, Array.length_toList, s2, headArr_eq, headArr_eq, Array.getElem?_append, Array.getElem?_append]
  simp only [Array.getElem?_toList, List.size_toArray, List.length_cons, List.length_nil]
  by_cases h0 : k = 0
  · subst h0; simp
  · by_cases h3 : k < 33
    · rw [if_pos (by omega), if_neg (by omega)]
    · rw [if_neg (by omega), if_neg (by omega), if_neg (by omega), Array.getElem?_eq_none (by rw [hashArr_size]; omega), Array.getElem?_eq_none (by omega)]
/-- the root of a Head in memory -/
def IsRootAt (w : World) (v : Value) : Prop := ∃ g n l, v = .pointer (some ⟨g, 1, none⟩) ∧ List.length l = 32 ∧ w.heap[g]? = some (.cells (headArr n l) 36 (0, 0))
theorem isRootAt {w : World} {g : Nat} {n : Int} {l : Tree.H} (hl : l.length = 32) (hg : w.heap[g]? = some (.cells (headArr n l) 36 (0, 0))) : IsRootAt w (.pointer (some ⟨g, 1, none⟩)) := ⟨g, n, l, rfl, hl, hg⟩
theorem there_of_row {w : World} {g : Nat} {cs : Array Value} {t : TypeId} (hg : w.heap[g]? = some (.cells cs t (0, 0))) (o n : Nat) (h : o + n ≤ cs.size) : w.there g o n := by
  intro j hj
  refine ⟨?_, ?_⟩
  · rw [cell_of_row _ _ (o + j) _ _ _ hg, Array.getElem?_eq_getElem (by omega)]; rfl
  · simp [World.frozen?, hg]
/-- the store of a Head's root: a rule of the walk -/
theorem wp_store_root {d : Option Tmp} {x y : Operand} {ty : TypeId} {pos : String} {after : Array Edge} {gd : Option (Nat × Bool)} {a : Act} {w : World} {K : Act → World → Prop} {Q : Exit → Act → World → Prop} (h0 : IsRootAt w (a.eval x)) (h1 : IsHash (a.eval y)) :
    Oper.wp Tryd.prog ⟨d, .store 24 x y, ty, pos, after, gd⟩ a w K Q = K (a.put d undef) (w.setCells (blockOf (a.eval x)) 1 (a.eval y).cells.toList) := by
  obtain ⟨g, n, l, e, hl, hg⟩ := h0
  obtain ⟨l', e', hl'⟩ := h1
  unfold Oper.wp execOp
  have hr := run_storeVar_mid (P := Tryd.prog) w g 1 24 (hashArr l') (there_of_row hg 1 _ (by rw [headArr_size _ _ hl, hashArr_size, hl']; omega)) (hash_info l' hl') (hashArr_one l')
  simp only [e, e', show blockOf (.pointer (some ⟨g, 1, none⟩)) = g from rfl, Value.cells, Instr.storeAt, Instr.sureAddr, Sem.run_bind, Sem.run_pure, Result.andThen_ok, hr]
  rfl
theorem head_setRoot {w : World} {g : Nat} {n : Int} {old h : Tree.H} (lo : old.length = 32) (lh : h.length = 32) (hg : w.heap[g]? = some (.cells (headArr n old) 36 (0, 0))) : (w.setCells g 1 (hashArr h).toList).heap[g]? = some (.cells (headArr n h) 36 (0, 0)) := by
  rw [heap_setCells_at _ _ _ _ hg, putCells_head n old h lo lh]
end
end Go.Proofs.YtjedhmoehepbnaaDoor
