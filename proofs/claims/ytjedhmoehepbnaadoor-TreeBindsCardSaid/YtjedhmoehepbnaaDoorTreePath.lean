/- The contract of Path. -/
import Derived.Test.YtjedhmoehepbnaaDoorTreeRows
namespace Go.Proofs.YtjedhmoehepbnaaDoor
open Go.RowKit Go.Sort
set_option linter.unusedVariables false
section
attribute [local go_sem ↓] Go.wp_at_zero Go.wp_at_succ wp_build_one

/-- a call that hands back a new slice of hashes -/
def Gives (hs : List Tree.H) (w : World) (e : Ending) (w' : World) : Prop := ∃ v, e = .returned v ∧ OwnsH w' w.heap.size v hs ∧ Below w.heap.size w w'
theorem below_drew_join {w w1 : World} (hb : Below w.drew.heap.size w.drew w1) : Below w.heap.size w w1 := below_join (Below.refl _ _).drew hb

theorem base_le {w w1 w2 : World} {o : Obj} (hb1 : Below w.drew.heap.size w.drew w1) (hb2 : Below w1.heap.size w1 w2) : w.heap.size ≤ (w2.alloc o).heap.size := by
  have h1 : w.heap.size ≤ w1.heap.size := hb1.size
  have h2 := hb2.size
  simp; omega
theorem gives_end {w w1 w2 w3 : World} {o : Obj} {v1 v3 : Value} {pa qa hs : List Tree.H} (hb1 : Below w.drew.heap.size w.drew w1) (hb2 : Below w1.heap.size w1 w2) (hown1 : OwnsH w1 w.drew.heap.size v1 pa) (hgrow : (w2.alloc o).grownBy w3 v1.ownBlock) (hown3 : OwnsH w3 w.heap.size v3 qa) (e : hs = qa) : Gives hs w (.returned v3) w3 := by
  subst e
  refine ⟨v3, rfl, hown3, ?_⟩
  have h2 : Below w.heap.size w (w2.alloc o) := (below_join (below_drew_join hb1) hb2).alloc (by have := (below_join (below_drew_join hb1) hb2).size; exact this) _
  exact h2.grown hgrow h2.size (fun k hk => hown1.block k hk)
set_option maxHeartbeats 4000000 in
set_option maxRecDepth 100000 in
theorem path1_any : ∀ (f : Nat) (l : List ByteArray) (n i b o c g : Nat) (hs : List Tree.H) (w : World), Hid (l.length = n) → 1 ≤ n → i < n → n ≤ 2 ^ f → f ≤ 63 → n ≤ c → c ≤ 9223372036854775807 → SAt w b o l → Short l → Tabs w → selfAt w 44 g → Hid (Tree.path f l i = hs) →
    Calls Tryd.prog 44 #[.slice (some ⟨b, o, none⟩) n c, .int .i64 (i : Int), .pointer (some ⟨g, 0, none⟩)] w (Gives hs w) := by
  intro f
  induction f with
  | zero =>
    intro l n i b o c g hs w hl h1 hi hf hf63 hc hcm hS hSh hT hg hh
    obtain rfl : hs = [] := hh.out.symm
    have hd1 : ((n : Int) == 1) = true := by
      have : (2 : Nat) ^ 0 = 1 := rfl
      simp; omega
    go_enter Tryd.func44, Tryd.ntmps44
    go_wp2_with fail
    go_ret
    exact ⟨_, rfl, OwnsH.nil _ _, Below.refl _ _⟩
  | succ f ih =>
    intro l n i b o c g hs w hl h1 hi hf hf63 hc hcm hS hSh hT hg hh
    by_cases hn1 : n = 1
    · obtain rfl : hs = [] := by rw [← hh.out, Tree.path, if_pos (by rw [hl.out]; omega)]
      have hd1 : ((n : Int) == 1) = true := by simp; omega
      clear hn1
      go_enter Tryd.func44, Tryd.ntmps44
      go_wp2_with fail
      go_ret
      exact ⟨_, rfl, OwnsH.nil _ _, Below.refl _ _⟩
    · have hd1 : ((n : Int) == 1) = false := by simp; omega
      have hk0 := Tree.half_pos n
      have hk1 := Tree.half_lt n (by omega)
      have HF1 := Lib.hid (Tree.half_pow n f (by omega) hf)
      have HF2 := Lib.hid (Tree.rest_pow n f (by omega) hf)
      have ch := fun W => half_any n W (by omega) (by omega)
      have ep : hs = if i < Tree.half n then Tree.path f (l.take (Tree.half n)) i ++ [Tree.root f (l.drop (Tree.half n))] else Tree.path f (l.drop (Tree.half n)) (i - Tree.half n) ++ [Tree.root f (l.take (Tree.half n))] := by
        rw [← hh.out, Tree.path, if_neg (by rw [hl.out]; omega), hl.out]
      obtain ⟨k, ek⟩ : ∃ k, Tree.half n = k := ⟨_, rfl⟩
      rw [ek] at hk0 hk1 HF1 HF2 ch ep
      have CH := Lib.hid ch
      clear ek ch
      have LT : Hid ((l.take k).length = k) := by show _ = _; rw [List.length_take, hl.out]; omega
      have LD : Hid ((l.drop k).length = n - k) := by show _ = _; rw [List.length_drop, hl.out]
      have q1 : (0 : Int) ≤ (k : Int) := by omega
      have q2 : (k : Int) ≤ (c : Int) := by omega
      have q3 : (k : Int) ≤ (n : Int) := by omega
      have q4 : (k : Int).toNat = k := by omega
      have q5 : ¬ (c - k = 0) := by omega
      have q6 : ¬ (c = k) := by omega
      have HG : Hid (∀ W, Below w.heap.size w W → selfAt W 44 g) := fun W hW => (hW.cell (p := ⟨g, 0, none⟩) (block_lt_of_cell hg)).trans hg
      by_cases hik : i < k
      · rw [if_pos hik] at ep
        have hdi : decide ((i : Int) < (k : Int)) = true := by simp; omega
        obtain ⟨pa, epa⟩ : ∃ x, Tree.path f (l.take k) i = x := ⟨_, rfl⟩
        obtain ⟨r, er⟩ : ∃ x, Tree.root f (l.drop k) = x := ⟨_, rfl⟩
        have lpa : pa.length ≤ 63 := by have := Tree.path_length f (l.take k) i; rw [epa] at this; omega
        have LR : Hid (r.length = 32) := by show _ = _; rw [← er]; exact Tree.root_length _ _
        have zr : (hashArr r).size = 32 := by rw [hashArr_size]; exact LR.out
        rw [epa, er] at ep
        have EP := Lib.hid ep
        have EPA := Lib.hid epa
        have ca : ∀ W, Below w.heap.size w W → Calls Tryd.prog 44 #[.slice (some ⟨b, o, none⟩) k c, .int .i64 (i : Int), .pointer (some ⟨g, 0, none⟩)] W (Gives pa W) := fun W hW =>
          ih (l.take k) k i b o c g pa W LT hk0 hik HF1.out (by omega) (by omega) hcm (hS.below hW).take (hSh.take k) (hT.below hW) (HG.out W hW) EPA
        have cr : ∀ W, Below w.heap.size w W → Calls Tryd.prog 16 #[.slice (some ⟨b, o + k, none⟩) (n - k) (c - k)] W fun e w' => e = .returned (.agg (hashArr r)) ∧ Below W.heap.size W w' := fun W hW =>
          root_any f (l.drop k) _ r W (by rw [LD.out]; exact HF2.out) (strs_at LD.out (by omega) (by omega) (by omega) (hS.below hW).drop (hSh.drop k)) (hT.below hW) er
        have CA := Lib.hid ca
        have CR := Lib.hid cr
        clear ca cr ih ep epa er HF1 HF2 LT LD hS hSh hT HG
        go_enter Tryd.func44, Tryd.ntmps44
        go_wp2_with fail
        with_reducible refine (CH.out _).mono ?_
        rintro e w' ⟨rfl, rfl⟩
        go_wp2_with fail
        go_region_law (first
          | (go_simp; go_at_call 44; (with_reducible refine (CA.out _ (Below.refl _ _).drew).mono ?_); rintro e w1 ⟨v1, rfl, hown1, hb1⟩)
          | (go_simp; go_at_call 16; (with_reducible refine (CR.out _ (below_drew_join hb1)).mono ?_); rintro e w2 ⟨rfl, hb2⟩)
          | (refine step_append_hash (by rfl) _ _ (by rfl) w.heap.size v1 pa r w2.heap.size (by rfl) (by rfl) ((hown1.below hb2).below ((Below.refl _ _).alloc (Nat.le_refl _) _)) (heap_alloc_new _ _) LR.out (by omega) (base_le hb1 hb2) ?_; intro g3 cap3 w3 hown3 hgrow3))
        go_wp2_with fail
        go_ret
        exact gives_end hb1 hb2 hown1 hgrow3 hown3 EP.out
      · rw [if_neg hik] at ep
        have hdi : decide ((i : Int) < (k : Int)) = false := by simp; omega
        obtain ⟨pa, epa⟩ : ∃ x, Tree.path f (l.drop k) (i - k) = x := ⟨_, rfl⟩
        obtain ⟨r, er⟩ : ∃ x, Tree.root f (l.take k) = x := ⟨_, rfl⟩
        have lpa : pa.length ≤ 63 := by have := Tree.path_length f (l.drop k) (i - k); rw [epa] at this; omega
        have LR : Hid (r.length = 32) := by show _ = _; rw [← er]; exact Tree.root_length _ _
        have q7 : IntKind.i64.wrap ((i : Int) - (k : Int)) = (i : Int) - (k : Int) := IntWalk.i64_in _ (by omega)
        have zr : (hashArr r).size = 32 := by rw [hashArr_size]; exact LR.out
        rw [epa, er] at ep
        have EP := Lib.hid ep
        have EPA := Lib.hid epa
        have ca : ∀ W, Below w.heap.size w W → Calls Tryd.prog 44 #[.slice (some ⟨b, o + k, none⟩) (n - k) (c - k), .int .i64 ((i : Int) - (k : Int)), .pointer (some ⟨g, 0, none⟩)] W (Gives pa W) := fun W hW => by
          rw [show ((i : Int) - (k : Int)) = ((i - k : Nat) : Int) by omega]
          exact ih (l.drop k) (n - k) (i - k) b (o + k) (c - k) g pa W LD (by omega) (by omega) HF2.out (by omega) (by omega) (by omega) (hS.below hW).drop (hSh.drop k) (hT.below hW) (HG.out W hW) EPA
        have cr : ∀ W, Below w.heap.size w W → Calls Tryd.prog 16 #[.slice (some ⟨b, o, none⟩) k c] W fun e w' => e = .returned (.agg (hashArr r)) ∧ Below W.heap.size W w' := fun W hW =>
          root_any f (l.take k) _ r W (by rw [LT.out]; exact HF1.out) (strs_at LT.out (by omega) (by omega) hcm (hS.below hW).take (hSh.take k)) (hT.below hW) er
        have CA := Lib.hid ca
        have CR := Lib.hid cr
        clear ca cr ih ep epa er HF1 HF2 LT LD hS hSh hT HG
        go_enter Tryd.func44, Tryd.ntmps44
        go_wp2_with fail
        with_reducible refine (CH.out _).mono ?_
        rintro e w' ⟨rfl, rfl⟩
        go_wp2_with fail
        go_region_law (first
          | (go_simp; go_at_call 44; (with_reducible refine (CA.out _ (Below.refl _ _).drew).mono ?_); rintro e w1 ⟨v1, rfl, hown1, hb1⟩)
          | (go_simp; go_at_call 16; (with_reducible refine (CR.out _ (below_drew_join hb1)).mono ?_); rintro e w2 ⟨rfl, hb2⟩)
          | (refine step_append_hash (by rfl) _ _ (by rfl) w.heap.size v1 pa r w2.heap.size (by rfl) (by rfl) ((hown1.below hb2).below ((Below.refl _ _).alloc (Nat.le_refl _) _)) (heap_alloc_new _ _) LR.out (by omega) (base_le hb1 hb2) ?_; intro g3 cap3 w3 hown3 hgrow3))
        go_wp2_with fail
        go_ret
        exact gives_end hb1 hb2 hown1 hgrow3 hown3 EP.out
end
section
/-- a call that hands back a new slice of hashes, and a bool -/
def GivesB (hs : List Tree.H) (ok : Bool) (w : World) (e : Ending) (w' : World) : Prop := ∃ v, e = .returned (.tuple #[v, .bool ok]) ∧ OwnsH w' w.heap.size v hs ∧ Below w.heap.size w w'
theorem OwnsH.rebase {w w1 : World} {B : Nat} {v : Value} {hs : List Tree.H} (h : OwnsH w1 B v hs) (hb : w.heap.size ≤ B) : OwnsH w1 w.heap.size v hs := h.mono hb
set_option maxHeartbeats 1000000 in
theorem path_no (l : List ByteArray) (v : Value) (i : Int) (w : World) (hv : IsStrs w v l) (hi : i < 0 ∨ (l.length : Int) ≤ i) :
    Calls Tryd.prog 28 #[v, .int .i64 i] w (GivesB [] false w) := by
  obtain ⟨a, n, c, rfl, hn⟩ : ∃ a n c, v = .slice a n c ∧ l.length = n := by
    obtain ⟨_, ⟨rfl, a, c, rfl⟩ | ⟨b, o, c, rfl, _⟩⟩ := hv
    · exact ⟨_, _, _, rfl, rfl⟩
    · exact ⟨_, _, _, rfl, rfl⟩
  rw [hn] at hi
  clear hv hn
  by_cases h0 : i < 0
  · have d0 : decide (i < 0) = true := by simpa using h0
    go_enter Tryd.func28, Tryd.ntmps28
    go_wp2_with fail
    go_ret2
    exact ⟨_, rfl, OwnsH.nil _ _, Below.refl _ _⟩
  · have d0 : decide (i < 0) = false := by simpa using h0
    have d1 : decide ((n : Int) ≤ i) = true := by simp; omega
    go_enter Tryd.func28, Tryd.ntmps28
    go_wp2_with fail
    go_ret2
    exact ⟨_, rfl, OwnsH.nil _ _, Below.refl _ _⟩
set_option maxHeartbeats 1000000 in
theorem path_yes (f : Nat) (l : List ByteArray) (v : Value) (i : Nat) (hs : List Tree.H) (w : World) (hf : l.length ≤ 2 ^ f) (hf63 : f ≤ 63) (hv : IsStrs w v l) (hi : i < l.length) (hT : Tabs w) (hh : Tree.path f l i = hs) :
    Calls Tryd.prog 28 #[v, .int .i64 (i : Int)] w (GivesB hs true w) := by
  obtain ⟨hSh, ⟨rfl, a, c, rfl⟩ | ⟨b, o, c, rfl, h1, hc, hcm, hS⟩⟩ := hv
  · simp at hi
  obtain ⟨n, en⟩ : ∃ n, l.length = n := ⟨_, rfl⟩
  rw [en] at hf h1 hc hi ⊢
  have EN := Lib.hid en
  have HH := Lib.hid hh
  have hb1 : Below w.heap.size w (w.alloc (.cells #[.func (.func 44) #[] #[.pointer (some ⟨w.heap.size, 0, none⟩)]] 68)) := (Below.refl _ _).alloc (Nat.le_refl _) _
  have hg : selfAt (w.alloc (.cells #[.func (.func 44) #[] #[.pointer (some ⟨w.heap.size, 0, none⟩)]] 68)) 44 w.heap.size := (cell_of_row _ _ 0 _ _ _ (heap_alloc_new w _)).trans rfl
  have cp := path1_any f l n i b o c w.heap.size hs _ EN h1 hi hf hf63 hc hcm (hS.below hb1) hSh (hT.below hb1) hg HH
  have CP := Lib.hid cp
  have HB1 := Lib.hid hb1
  have d0 : decide ((i : Int) < 0) = false := by simp
  have d1 : decide ((n : Int) ≤ (i : Int)) = false := by simp; omega
  clear cp hb1 hg hS hSh hT hh en
  go_enter Tryd.func28, Tryd.ntmps28
  go_wp2_with fail
  with_reducible refine CP.out.mono ?_
  rintro e w1 ⟨v1, rfl, hown1, hb2⟩
  go_wp2_with fail
  go_ret2
  exact ⟨_, rfl, hown1.rebase HB1.out.size, HB1.out.trans (hb2.mono HB1.out.size)⟩
end
end Go.Proofs.YtjedhmoehepbnaaDoor
