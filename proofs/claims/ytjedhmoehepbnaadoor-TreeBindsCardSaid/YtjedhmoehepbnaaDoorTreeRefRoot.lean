/- The contract of the reference's Root. -/
import Derived.Test.YtjedhmoehepbnaaDoorTreeRoot
namespace Go.Proofs.YtjedhmoehepbnaaDoor
open Go.RowKit Go.Sort
set_option linter.unusedVariables false

set_option maxHeartbeats 1000000 in
theorem rroot_none (a : Option Addr) (c : Nat) (h : List UInt8) (w : World) (hh : Hid (Sha.sum [] = h)) :
    Calls Tryd.prog 17 #[.slice a 0 c] w fun e w' => e = .returned (.agg (hashArr h)) ∧ Below w.heap.size w w' := by
  have LH : Hid (h.length = 32) := by show _ = _; rw [← hh.out]; exact Sha.sum_length _
  have hb0 : Below w.heap.size w (w.alloc (.cells (hashArr (List.replicate 32 0)) 24)) := (Below.refl _ _).alloc (Nat.le_refl _) _
  have BR := Lib.hid (heap_alloc_new w (.cells (hashArr (List.replicate 32 0)) 24))
  have HB0 := Lib.hid hb0
  clear hb0
  go_enter Tryd.func17, Tryd.ntmps17
  go_wp2_with fail
  rw [zero_hash]
  generalize w.alloc (.cells (hashArr (List.replicate 32 0)) 24) = W0 at *
  refine (rsum_is ⟨#[]⟩ h _ (by show 0 ≤ _; omega) hh.out).mono ?_
  rintro e w1 ⟨rfl, hb1⟩
  have BA1 := Lib.hid (heap_below BR.out hb1)
  go_wp2_with (refine wpList_store_row rfl 24 (.tmp 2) (.tmp 7) rfl w.heap.size (hashArr h) rfl rfl 24 _ BA1.out (hash_info _ LH.out) (by rw [hashArr_size, hashArr_size, LH.out]; rfl) (hashArr_one _) ?_)
  refine bodyPost_ret (v := .agg (hashArr h)) (results_cell_row Tryd.results17 _ _ w.heap.size 24 (hashArr h) (0, 0) _ rfl (setRow_heap _ _ _ _ _ _ BA1.out) Tryd.underlying24 rfl (hash_info _ LH.out)) rfl ⟨rfl, ?_⟩
  exact below_setRow (HB0.out.trans (hb1.mono HB0.out.size)) (Nat.le_refl _) _
set_option maxHeartbeats 1000000 in
theorem rroot_one (s : ByteArray) (b o c : Nat) (h : List UInt8) (w : World) (hc : 1 ≤ c) (hcm : c ≤ 9223372036854775807) (hs1 : w.cell? ⟨b, o, none⟩ = some (.string s)) (hz : s.size ≤ 140737488351232) (hh : Hid (Tree.leaf s = h)) :
    Calls Tryd.prog 17 #[.slice (some ⟨b, o, none⟩) 1 c] w fun e w' => e = .returned (.agg (hashArr h)) ∧ Below w.heap.size w w' := by
  have LH : Hid (h.length = 32) := by show _ = _; rw [← hh.out]; exact Tree.leaf_length s
  have hb0 : Below w.heap.size w (w.alloc (.cells (hashArr (List.replicate 32 0)) 24)) := (Below.refl _ _).alloc (Nat.le_refl _) _
  have BR := Lib.hid (heap_alloc_new w (.cells (hashArr (List.replicate 32 0)) 24))
  have HB0 := Lib.hid hb0
  have hs0 : ∀ Z, (w.alloc Z).cell? ⟨b, o, none⟩ = some (.string s) := fun Z => by rw [World.cell?_alloc_lt _ _ _ (block_lt_of_cell hs1)]; exact hs1
  clear hb0 hs1
  go_enter Tryd.func17, Tryd.ntmps17
  go_wp2_with fail
  rw [zero_hash]
  generalize w.alloc (.cells (hashArr (List.replicate 32 0)) 24) = W0 at *
  refine (rleaf_any s h _ (by omega) hh.out).mono ?_
  rintro e w1 ⟨rfl, hb1⟩
  have BA1 := Lib.hid (heap_below BR.out hb1)
  go_wp2_with (refine wpList_store_row rfl 24 (.tmp 2) (.tmp 14) rfl w.heap.size (hashArr h) rfl rfl 24 _ BA1.out (hash_info _ LH.out) (by rw [hashArr_size, hashArr_size, LH.out]; rfl) (hashArr_one _) ?_)
  refine bodyPost_ret (v := .agg (hashArr h)) (results_cell_row Tryd.results17 _ _ w.heap.size 24 (hashArr h) (0, 0) _ rfl (setRow_heap _ _ _ _ _ _ BA1.out) Tryd.underlying24 rfl (hash_info _ LH.out)) rfl ⟨rfl, ?_⟩
  exact below_setRow (HB0.out.trans (hb1.mono HB0.out.size)) (Nat.le_refl _) _
theorem rroot_small (f : Nat) (l : List ByteArray) (v : Value) (h : List UInt8) (w : World) (hf : l.length ≤ 1) (hv : IsStrs w v l) (hh : Hid (Tree.root f l = h)) :
    Calls Tryd.prog 17 #[v] w fun e w' => e = .returned (.agg (hashArr h)) ∧ Below w.heap.size w w' := by
  obtain ⟨hSh, ⟨rfl, a, c, rfl⟩ | ⟨b, o, c, rfl, h1, hc, hcm, hS⟩⟩ := hv
  · exact rroot_none a c h w (by show _ = _; rw [← hh.out, root_nil])
  · have e1 : l.length = 1 := by omega
    rw [e1]
    exact rroot_one (l.getD 0 ByteArray.empty) b o c h w (by omega) hcm (by have := hS 0 (by omega); rwa [Nat.add_zero] at this) (hSh.getD 0) (by show _ = _; rw [← hh.out, root_one f l e1])
set_option maxHeartbeats 2000000 in
theorem rroot_any : ∀ (f : Nat) (l : List ByteArray) (v : Value) (h : List UInt8) (w : World), l.length ≤ 2 ^ f → IsStrs w v l → Hid (Tree.root f l = h) →
    Calls Tryd.prog 17 #[v] w fun e w' => e = .returned (.agg (hashArr h)) ∧ Below w.heap.size w w' := by
  intro f
  induction f with
  | zero =>
    intro l v h w hf hv hh
    exact rroot_small 0 l v h w (by simpa using hf) hv hh
  | succ f ih =>
    intro l v h w hf hv hh
    by_cases hsm : l.length ≤ 1
    · exact rroot_small (f + 1) l v h w hsm hv hh
    obtain ⟨hSh, ⟨rfl, a, c, rfl⟩ | ⟨b, o, c, rfl, h1, hc, hcm, hS⟩⟩ := hv
    · simp at hsm
    obtain ⟨n, en⟩ : ∃ n, l.length = n := ⟨_, rfl⟩
    rw [en] at hf h1 hc hsm ⊢
    have hl := Lib.hid en
    have LH : Hid (h.length = 32) := by show _ = _; rw [← hh.out]; exact Tree.root_length _ _
    have hb0 : Below w.heap.size w (w.alloc (.cells (hashArr (List.replicate 32 0)) 24)) := (Below.refl _ _).alloc (Nat.le_refl _) _
    have BR := Lib.hid (heap_alloc_new w (.cells (hashArr (List.replicate 32 0)) 24))
    have HS0 := Lib.hid (hS.below hb0)
    have HSh := Lib.hid hSh
    have HB0 := Lib.hid hb0
    have IH := Lib.hid ih
    clear hS hSh hb0 ih en
    have hd0 : ((n : Int) == 0) = false := by simp; omega
    have hd1 : ((n : Int) == 1) = false := by simp; omega
    have hk0 := Tree.half_pos n
    have hk1 := Tree.half_lt n (by omega)
    have HF1 := Lib.hid (Tree.half_pow n f (by omega) hf)
    have HF2 := Lib.hid (Tree.rest_pow n f (by omega) hf)
    have ch := fun W => rhalf_any n W (by omega) (by omega)
    have er : h = Tree.node (Tree.root f (l.take (Tree.half n))) (Tree.root f (l.drop (Tree.half n))) := by
      rw [← hh.out, Tree.root_succ, if_neg (by rw [hl.out]; omega), hl.out]
    obtain ⟨ha, eha⟩ : ∃ x, Tree.root f (l.take (Tree.half n)) = x := ⟨_, rfl⟩
    obtain ⟨hb, ehb⟩ : ∃ x, Tree.root f (l.drop (Tree.half n)) = x := ⟨_, rfl⟩
    rw [eha, ehb] at er
    have LA : Hid (ha.length = 32) := by show _ = _; rw [← eha]; exact Tree.root_length _ _
    have LB : Hid (hb.length = 32) := by show _ = _; rw [← ehb]; exact Tree.root_length _ _
    have EA := Lib.hid eha
    have EB := Lib.hid ehb
    have ER := Lib.hid er.symm
    obtain ⟨k, ek⟩ : ∃ k, Tree.half n = k := ⟨_, rfl⟩
    rw [ek] at hk0 hk1 HF1 HF2 ch EA EB
    have CH := Lib.hid ch
    clear er eha ehb ek ch
    have LT : Hid ((l.take k).length = k) := by show _ = _; rw [List.length_take, hl.out]; omega
    have LD : Hid ((l.drop k).length = n - k) := by show _ = _; rw [List.length_drop, hl.out]
    have ca : ∀ W, Below (w.alloc (.cells (hashArr (List.replicate 32 0)) 24)).heap.size (w.alloc (.cells (hashArr (List.replicate 32 0)) 24)) W → Calls Tryd.prog 17 #[.slice (some ⟨b, o, none⟩) k c] W fun e w' => e = .returned (.agg (hashArr ha)) ∧ Below W.heap.size W w' := fun W hW =>
      IH.out (l.take k) _ ha W (by rw [LT.out]; exact HF1.out) (strs_at LT.out hk0 (by omega) hcm (HS0.out.below hW).take (HSh.out.take k)) EA
    have cb : ∀ W, Below (w.alloc (.cells (hashArr (List.replicate 32 0)) 24)).heap.size (w.alloc (.cells (hashArr (List.replicate 32 0)) 24)) W → Calls Tryd.prog 17 #[.slice (some ⟨b, o + k, none⟩) (n - k) (c - k)] W fun e w' => e = .returned (.agg (hashArr hb)) ∧ Below W.heap.size W w' := fun W hW =>
      IH.out (l.drop k) _ hb W (by rw [LD.out]; exact HF2.out) (strs_at LD.out (by omega) (by omega) (by omega) (HS0.out.below hW).drop (HSh.out.drop k)) EB
    have CA := Lib.hid ca
    have CB := Lib.hid cb
    clear ca cb IH LT LD HF1 HF2 HS0 HSh EA EB
    go_enter Tryd.func17, Tryd.ntmps17
    go_wp2_with fail
    rw [zero_hash]
    generalize w.alloc (.cells (hashArr (List.replicate 32 0)) 24) = W0 at *
    with_reducible refine (CH.out _).mono ?_
    rintro e w' ⟨rfl, rfl⟩
    go_wp2_with fail
    have q1 : (0 : Int) ≤ (k : Int) := by omega
    have q2 : (k : Int) ≤ (c : Int) := by omega
    have q3 : (k : Int) ≤ (n : Int) := by omega
    have q4 : (k : Int).toNat = k := by omega
    have q5 : ¬ (c - k = 0) := by omega
    refine wp_region_tail_below 9 (by kernel_rfl) (by kernel_rfl) ?_
    simp only [List.take_succ_cons, List.take_zero, List.drop_succ_cons, List.drop_zero]
    repeat (first | go_big_quiet_step ((first | with_reducible exact Calls.regrown_of (CA.out _ (below_regrown _ _ _)) | with_reducible exact Calls.regrown_of (CB.out _ (below_regrown _ _ _)) | with_reducible exact Calls.regrown_of (rnode_any ha hb h LA.out LB.out _ ER.out))))
    refine wpQuiet_nil ?_
    intro _ hw'
    obtain ⟨⟨dq, osq⟩, hw''⟩ := hw'
    subst hw''
    have hq := below_regrown W0 dq osq
    have BR1 := Lib.hid (heap_below BR.out hq)
    have HBQ := Lib.hid (HB0.out.trans (hq.mono HB0.out.size))
    clear hq CA CB
    generalize grow (redrawn W0 dq) osq = W1 at *
    go_wp2_with (refine wpList_store_row rfl 24 (.tmp 2) (.tmp 26) rfl w.heap.size (hashArr h) rfl rfl 24 _ BR1.out (hash_info _ LH.out) (by rw [hashArr_size, hashArr_size, LH.out]; rfl) (hashArr_one _) ?_)
    refine bodyPost_ret (v := .agg (hashArr h)) (results_cell_row Tryd.results17 _ _ w.heap.size 24 (hashArr h) (0, 0) _ rfl (setRow_heap _ _ _ _ _ _ BR1.out) Tryd.underlying24 rfl (hash_info _ LH.out)) rfl ⟨rfl, ?_⟩
    exact below_setRow HBQ.out (by omega) _
end Go.Proofs.YtjedhmoehepbnaaDoor
