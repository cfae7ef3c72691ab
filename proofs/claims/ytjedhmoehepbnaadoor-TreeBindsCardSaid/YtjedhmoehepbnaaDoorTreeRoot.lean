/- The contracts of Root, in the program and in the reference. -/
import Derived.Test.YtjedhmoehepbnaaDoorTreeNode
import Derived.Test.YtjedhmoehepbnaaDoorTreeOk
import Derived.Laws.EntriesVeiled
namespace Go.Proofs.YtjedhmoehepbnaaDoor
open Go.RowKit Go.Sort
set_option linter.unusedVariables false

/-- strings that lie one behind the other -/
def SAt (W : World) (b o : Nat) (l : List ByteArray) : Prop := ∀ i, i < l.length → W.cell? ⟨b, o + i, none⟩ = some (.string (l.getD i ByteArray.empty))
def Short (l : List ByteArray) : Prop := ∀ s ∈ l, s.size ≤ 140737488351232
theorem SAt.below {W w1 : World} {b o : Nat} {l : List ByteArray} (h : SAt W b o l) (hb : Below W.heap.size W w1) : SAt w1 b o l := fun i hi =>
  (hb.cell (p := ⟨b, o + i, none⟩) (block_lt_of_cell (h i hi))).trans (h i hi)
theorem SAt.take {W : World} {b o k : Nat} {l : List ByteArray} (h : SAt W b o l) : SAt W b o (l.take k) := fun i hi => by
  rw [List.length_take] at hi
  rw [Tree.getD_take _ _ _ (by omega)]; exact h i (by omega)
theorem SAt.drop {W : World} {b o k : Nat} {l : List ByteArray} (h : SAt W b o l) : SAt W b (o + k) (l.drop k) := fun i hi => by
  rw [List.length_drop] at hi
  have := h (k + i) (by omega)
  rw [← Tree.getD_drop l k (k + i) (by omega), show k + i - k = i by omega, ← Nat.add_assoc] at this
  exact this
theorem Short.take {l : List ByteArray} (h : Short l) (k : Nat) : Short (l.take k) := fun s hs => h s (List.mem_of_mem_take hs)
theorem Short.drop {l : List ByteArray} (h : Short l) (k : Nat) : Short (l.drop k) := fun s hs => h s (List.mem_of_mem_drop hs)
theorem Short.getD {l : List ByteArray} (h : Short l) (i : Nat) : (l.getD i ByteArray.empty).size ≤ 140737488351232 := by
  rw [List.getD_eq_getElem?_getD]
  cases e : l[i]? with
  | none => simp
  | some s => exact h s (List.mem_of_getElem? e)
theorem root_one (f : Nat) (l : List ByteArray) (h : l.length = 1) : Tree.root f l = Tree.leaf (l.getD 0 ByteArray.empty) := by
  match l, h with
  | [s], _ =>
    cases f with
    | zero => rfl
    | succ f => rfl
/-- the variable that holds the function itself -/
abbrev selfAt (W : World) (k g : Nat) : Prop := W.cell? ⟨g, 0, none⟩ = some (.func (.func k) #[] #[.pointer (some ⟨g, 0, none⟩)])

set_option maxHeartbeats 1000000 in
theorem root1_one (f : Nat) (l : List ByteArray) (n b o c g : Nat) (h : List UInt8) (w : World) (hl : Hid (l.length = n)) (h1 : n = 1) (hc : n ≤ c) (hcm : c ≤ 9223372036854775807) (hS : SAt w b o l) (hSh : Short l) (hT : Tabs w) (hh : Hid (Tree.root f l = h)) :
    Calls Tryd.prog 38 #[.slice (some ⟨b, o, none⟩) n c, .pointer (some ⟨g, 0, none⟩)] w fun e w' => e = .returned (.agg (hashArr h)) ∧ Below w.heap.size w w' := by
  have hlen : h.length = 32 := by rw [← hh.out]; exact Tree.root_length _ _
  have LH := Lib.hid hlen
  have hb0 : Below w.heap.size w (w.alloc (.cells (hashArr (List.replicate 32 0)) 24)) := (Below.refl _ _).alloc (Nat.le_refl _) _
  have BR := Lib.hid (heap_alloc_new w (.cells (hashArr (List.replicate 32 0)) 24))
  have HT0 := Lib.hid (hT.below hb0)
  have hs1 := hS 0 (by rw [hl.out]; omega)
  have hz := hSh.getD 0
  have ee : Tree.leaf (l.getD 0 ByteArray.empty) = h := by rw [← hh.out, root_one f l (by rw [hl.out]; exact h1)]
  generalize l.getD 0 ByteArray.empty = s at *
  rw [Nat.add_zero] at hs1
  have hs0 : ∀ Z, (w.alloc Z).cell? ⟨b, o, none⟩ = some (.string s) := fun Z => by rw [World.cell?_alloc_lt _ _ _ (block_lt_of_cell hs1)]; exact hs1
  have EE := Lib.hid ee
  have HB0 := Lib.hid hb0
  have hd1 : ((n : Int) == 1) = true := by simp; omega
  have hn0 : (0 : Int) < (n : Int) := by omega
  have hn1 : 0 < n := by omega
  clear hlen hT hS hSh hb0 ee h1 hs1
  go_enter Tryd.func38, Tryd.ntmps38
  go_wp2_with (fail)
  rw [zero_hash]
  generalize w.alloc (.cells (hashArr (List.replicate 32 0)) 24) = W0 at *
  refine (leaf_any s h _ (by omega) HT0.out EE.out).mono ?_
  rintro e w1 ⟨rfl, hb1⟩
  have BA1 := Lib.hid (heap_below BR.out hb1)
  go_wp2_with (refine wpList_store_row rfl 24 (.tmp 3) (.tmp 11) rfl w.heap.size (hashArr h) rfl rfl 24 _ BA1.out (hash_info _ LH.out) (by rw [hashArr_size, hashArr_size, LH.out]; rfl) (hashArr_one _) ?_)
  refine bodyPost_ret (v := .agg (hashArr h)) (results_cell_row Tryd.results38 _ _ w.heap.size 24 (hashArr h) (0, 0) _ rfl (setRow_heap _ _ _ _ _ _ BA1.out) Tryd.underlying24 rfl (hash_info _ LH.out)) rfl ⟨rfl, ?_⟩
  exact below_setRow (HB0.out.trans (hb1.mono HB0.out.size)) (Nat.le_refl _) _
set_option maxHeartbeats 2000000 in
theorem root1_any : ∀ (f : Nat) (l : List ByteArray) (n b o c g : Nat) (h : List UInt8) (w : World), Hid (l.length = n) → 1 ≤ n → n ≤ 2 ^ f → n ≤ c → c ≤ 9223372036854775807 → SAt w b o l → Short l → Tabs w → selfAt w 38 g → Hid (Tree.root f l = h) →
    Calls Tryd.prog 38 #[.slice (some ⟨b, o, none⟩) n c, .pointer (some ⟨g, 0, none⟩)] w fun e w' => e = .returned (.agg (hashArr h)) ∧ Below w.heap.size w w' := by
  intro f
  induction f with
  | zero =>
    intro l n b o c g h w hl h1 hf hc hcm hS hSh hT hg hh
    exact root1_one 0 l n b o c g h w hl (by have : (2 : Nat) ^ 0 = 1 := rfl
                                             omega) hc hcm hS hSh hT hh
  | succ f ih =>
    intro l n b o c g h w hl h1 hf hc hcm hS hSh hT hg hh
    by_cases hn1 : n = 1
    · exact root1_one (f + 1) l n b o c g h w hl hn1 hc hcm hS hSh hT hh
    have hlen : h.length = 32 := by rw [← hh.out]; exact Tree.root_length _ _
    have LH := Lib.hid hlen
    have hb0 : Below w.heap.size w (w.alloc (.cells (hashArr (List.replicate 32 0)) 24)) := (Below.refl _ _).alloc (Nat.le_refl _) _
    have BR := Lib.hid (heap_alloc_new w (.cells (hashArr (List.replicate 32 0)) 24))
    have HT0 := Lib.hid (hT.below hb0)
    have HS0 := Lib.hid (hS.below hb0)
    have HSh := Lib.hid hSh
    have hg0 : selfAt (w.alloc (.cells (hashArr (List.replicate 32 0)) 24)) 38 g := (hb0.cell (p := ⟨g, 0, none⟩) (block_lt_of_cell hg)).trans hg
    have HB0 := Lib.hid hb0
    have IH := Lib.hid ih
    clear hlen hT hS hSh hg hb0 ih
    · have hd1 : ((n : Int) == 1) = false := by simp; omega
      have hk0 := Tree.half_pos n
      have hk1 := Tree.half_lt n (by omega)
      have HF1 := Lib.hid (Tree.half_pow n f (by omega) hf)
      have HF2 := Lib.hid (Tree.rest_pow n f (by omega) hf)
      have ch := fun W => half_any n W (by omega) (by omega)
      have er : h = Tree.node (Tree.root f (l.take (Tree.half n))) (Tree.root f (l.drop (Tree.half n))) := by
        rw [← hh.out, Tree.root_succ, if_neg (by rw [hl.out]; omega), hl.out]
      obtain ⟨ha, eha⟩ : ∃ x, Tree.root f (l.take (Tree.half n)) = x := ⟨_, rfl⟩
      obtain ⟨hb, ehb⟩ : ∃ x, Tree.root f (l.drop (Tree.half n)) = x := ⟨_, rfl⟩
      rw [eha, ehb] at er
      have LA : Hid (ha.length = 32) := by show _ = _; rw [← eha]; exact Tree.root_length _ _
      have LB : Hid (hb.length = 32) := by show _ = _; rw [← ehb]; exact Tree.root_length _ _
      have EA := Lib.hid eha
      have EB := Lib.hid ehb
      have ER := Lib.hid er.symm
      obtain ⟨k, ek⟩ : ∃ k, Tree.half n = k := ⟨_, rfl⟩
      rw [ek] at hk0 hk1 HF1 HF2 ch EA EB
      have CH := Lib.hid ch
      clear er eha ehb ek ch
      have LT : Hid ((l.take k).length = k) := by show _ = _; rw [List.length_take, hl.out]; omega
      have LD : Hid ((l.drop k).length = n - k) := by show _ = _; rw [List.length_drop, hl.out]
      go_enter Tryd.func38, Tryd.ntmps38
      go_wp2_with fail
      rw [zero_hash]
      generalize w.alloc (.cells (hashArr (List.replicate 32 0)) 24) = W0 at *
      with_reducible refine (CH.out _).mono ?_
      rintro e w' ⟨rfl, rfl⟩
      go_wp2_with fail
      have G := cell_regrown hg0
      have q1 : (0 : Int) ≤ (k : Int) := by omega
      have q2 : (k : Int) ≤ (c : Int) := by omega
      have q3 : (k : Int) ≤ (n : Int) := by omega
      have q4 : (k : Int).toNat = k := by omega
      have q5 : ¬ (c - k = 0) := by omega
      refine wp_region_tail_below 11 (by kernel_rfl) (by kernel_rfl) ?_
      simp only [List.take_succ_cons, List.take_zero, List.drop_succ_cons, List.drop_zero]
      repeat (first | go_big_quiet_step ((first
        | with_reducible exact Calls.regrown_of (IH.out (l.take k) k b o c g ha _ LT (by omega) HF1.out (by omega) hcm (HS0.out.below (below_regrown _ _ _)).take (HSh.out.take k) (HT0.out.below (below_regrown _ _ _)) (cell_regrown hg0 _ _) EA)
        | with_reducible exact Calls.regrown_of (IH.out (l.drop k) (n - k) b (o + k) (c - k) g hb _ LD (by omega) HF2.out (by omega) (by omega) (HS0.out.below (below_regrown _ _ _)).drop (HSh.out.drop k) (HT0.out.below (below_regrown _ _ _)) (cell_regrown hg0 _ _) EB)
        | with_reducible exact Calls.regrown_of (node_any ha hb h LA.out LB.out _ (HT0.out.below (below_regrown _ _ _)) ER.out))))
      refine wpQuiet_nil ?_
      intro _ hw'
      obtain ⟨⟨dq, osq⟩, hw''⟩ := hw'
      subst hw''
      have hq := below_regrown W0 dq osq
      have BR1 := Lib.hid (heap_below BR.out hq)
      have HBQ := Lib.hid (HB0.out.trans (hq.mono HB0.out.size))
      clear hq G
      generalize grow (redrawn W0 dq) osq = W1 at *
      go_wp2_with (refine wpList_store_row rfl 24 (.tmp 3) (.tmp 25) rfl w.heap.size (hashArr h) rfl rfl 24 _ BR1.out (hash_info _ LH.out) (by rw [hashArr_size, hashArr_size, LH.out]; rfl) (hashArr_one _) ?_)
      refine bodyPost_ret (v := .agg (hashArr h)) (results_cell_row Tryd.results38 _ _ w.heap.size 24 (hashArr h) (0, 0) _ rfl (setRow_heap _ _ _ _ _ _ BR1.out) Tryd.underlying24 rfl (hash_info _ LH.out)) rfl ⟨rfl, ?_⟩
      exact below_setRow HBQ.out (by omega) _

/-- a slice that reads as a list of strings -/
def IsStrs (W : World) (v : Value) (l : List ByteArray) : Prop :=
  Short l ∧ ((l = [] ∧ ∃ a c, v = .slice a 0 c) ∨ ∃ b o c, v = .slice (some ⟨b, o, none⟩) l.length c ∧ 1 ≤ l.length ∧ l.length ≤ c ∧ c ≤ 9223372036854775807 ∧ SAt W b o l)
theorem IsStrs.below {W w1 : World} {v : Value} {l : List ByteArray} (h : IsStrs W v l) (hb : Below W.heap.size W w1) : IsStrs w1 v l := by
  obtain ⟨h1, h2 | ⟨b, o, c, e, h3, h4, h5, h6⟩⟩ := h
  · exact ⟨h1, .inl h2⟩
  · exact ⟨h1, .inr ⟨b, o, c, e, h3, h4, h5, h6.below hb⟩⟩
theorem root_nil (f : Nat) : Tree.root f [] = Sha.sum [] := by cases f <;> rfl
set_option maxHeartbeats 1000000 in
theorem root_any (f : Nat) (l : List ByteArray) (v : Value) (h : List UInt8) (w : World) (hf : l.length ≤ 2 ^ f) (hv : IsStrs w v l) (hT : Tabs w) (hh : Tree.root f l = h) :
    Calls Tryd.prog 16 #[v] w fun e w' => e = .returned (.agg (hashArr h)) ∧ Below w.heap.size w w' := by
  have hlen : h.length = 32 := by rw [← hh]; exact Tree.root_length _ _
  have LH := Lib.hid hlen
  have hb0 : Below w.heap.size w (w.alloc (.cells (hashArr (List.replicate 32 0)) 24)) := (Below.refl _ _).alloc (Nat.le_refl _) _
  have BR := Lib.hid (heap_alloc_new w (.cells (hashArr (List.replicate 32 0)) 24))
  have HT0 := Lib.hid (hT.below hb0)
  obtain ⟨hSh, ⟨rfl, a, c, rfl⟩ | ⟨b, o, c, rfl, h1, hc, hcm, hS⟩⟩ := hv
  · have EH : Hid (Sha.sum (⟨#[]⟩ : ByteArray).data.toList = h) := by show _ = _; rw [← hh, root_nil]
    have HB0 := Lib.hid hb0
    clear hlen hT hb0 hh hf hSh
    go_enter Tryd.func16, Tryd.ntmps16
    go_wp2_with fail
    rw [zero_hash]
    generalize w.alloc (.cells (hashArr (List.replicate 32 0)) 24) = W0 at *
    refine (sum_is ⟨#[]⟩ h _ (by show 0 ≤ _; omega) HT0.out EH.out).mono ?_
    rintro e w1 ⟨rfl, hb1⟩
    have BA1 := Lib.hid (heap_below BR.out hb1)
    go_wp2_with (refine wpList_store_row rfl 24 (.tmp 2) (.tmp 7) rfl w.heap.size (hashArr h) rfl rfl 24 _ BA1.out (hash_info _ LH.out) (by rw [hashArr_size, hashArr_size, LH.out]; rfl) (hashArr_one _) ?_)
    refine bodyPost_ret (v := .agg (hashArr h)) (results_cell_row Tryd.results16 _ _ w.heap.size 24 (hashArr h) (0, 0) _ rfl (setRow_heap _ _ _ _ _ _ BA1.out) Tryd.underlying24 rfl (hash_info _ LH.out)) rfl ⟨rfl, ?_⟩
    exact below_setRow (HB0.out.trans (hb1.mono HB0.out.size)) (Nat.le_refl _) _
  · obtain ⟨n, en⟩ : ∃ n, l.length = n := ⟨_, rfl⟩
    rw [en] at hf h1 hc ⊢
    have EN := Lib.hid en
    have HH := Lib.hid hh
    have HS0 := Lib.hid (hS.below hb0)
    have HSh := Lib.hid hSh
    have HB0 := Lib.hid hb0
    have hd0 : ((n : Int) == 0) = false := by simp; omega
    clear hlen hT hb0 hh hS hSh en
    go_enter Tryd.func16, Tryd.ntmps16
    go_wp2_with fail
    rw [zero_hash]
    have hb1 : Below (w.alloc (.cells (hashArr (List.replicate 32 0)) 24)).heap.size (w.alloc (.cells (hashArr (List.replicate 32 0)) 24)) ((w.alloc (.cells (hashArr (List.replicate 32 0)) 24)).alloc (.cells #[.func (.func 38) #[] #[.pointer (some ⟨w.heap.size + 1, 0, none⟩)]] 27)) := (Below.refl _ _).alloc (Nat.le_refl _) _
    have hg : selfAt ((w.alloc (.cells (hashArr (List.replicate 32 0)) 24)).alloc (.cells #[.func (.func 38) #[] #[.pointer (some ⟨w.heap.size + 1, 0, none⟩)]] 27)) 38 (w.heap.size + 1) := by
      have := heap_alloc_new (w.alloc (.cells (hashArr (List.replicate 32 0)) 24)) (.cells #[.func (.func 38) #[] #[.pointer (some ⟨w.heap.size + 1, 0, none⟩)]] 27)
      rw [show (w.alloc (.cells (hashArr (List.replicate 32 0)) 24)).heap.size = w.heap.size + 1 by simp] at this
      exact (cell_of_row _ _ 0 _ _ _ this).trans rfl
    have BR1 := Lib.hid (heap_below BR.out hb1)
    have HT1 := Lib.hid (HT0.out.below hb1)
    have HS1 := Lib.hid (HS0.out.below hb1)
    have HB1 := Lib.hid (HB0.out.trans (hb1.mono HB0.out.size))
    have HG := Lib.hid hg
    clear hb1 hg
    generalize (w.alloc (.cells (hashArr (List.replicate 32 0)) 24)).alloc (.cells #[.func (.func 38) #[] #[.pointer (some ⟨w.heap.size + 1, 0, none⟩)]] 27) = W1 at *
    refine (root1_any f l n b o c _ h _ EN h1 hf hc hcm HS1.out HSh.out HT1.out HG.out HH).mono ?_
    rintro e w2 ⟨rfl, hb2⟩
    have BR2 := Lib.hid (heap_below BR1.out hb2)
    go_wp2_with (refine wpList_store_row rfl 24 (.tmp 2) (.tmp 11) rfl w.heap.size (hashArr h) rfl rfl 24 _ BR2.out (hash_info _ LH.out) (by rw [hashArr_size, hashArr_size, LH.out]; rfl) (hashArr_one _) ?_)
    refine bodyPost_ret (v := .agg (hashArr h)) (results_cell_row Tryd.results16 _ _ w.heap.size 24 (hashArr h) (0, 0) _ rfl (setRow_heap _ _ _ _ _ _ BR2.out) Tryd.underlying24 rfl (hash_info _ LH.out)) rfl ⟨rfl, ?_⟩
    exact below_setRow (HB1.out.trans (hb2.mono HB1.out.size)) (Nat.le_refl _) _

theorem strs_at {W : World} {l : List ByteArray} {n b o c : Nat} (hl : l.length = n) (h1 : 1 ≤ n) (hc : n ≤ c) (hcm : c ≤ 9223372036854775807) (hS : SAt W b o l) (hSh : Short l) : IsStrs W (.slice (some ⟨b, o, none⟩) n c) l :=
  ⟨hSh, .inr ⟨b, o, c, by rw [hl], by omega, by omega, hcm, hS⟩⟩
end Go.Proofs.YtjedhmoehepbnaaDoor
