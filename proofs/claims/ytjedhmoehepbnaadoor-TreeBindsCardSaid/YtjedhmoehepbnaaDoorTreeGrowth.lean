/- The contract of the program's Growth. -/
import Derived.Test.YtjedhmoehepbnaaDoorTreePath
namespace Go.Proofs.YtjedhmoehepbnaaDoor
open Go.RowKit Go.Sort
set_option linter.unusedVariables false
attribute [local go_sem ↓] Go.wp_at_zero Go.wp_at_succ wp_build_one

/-- a new slice of one hash -/
theorem OwnsH.one (w : World) (base : Nat) (r : Tree.H) (hr : r.length = 32) (hb : base ≤ w.heap.size) : OwnsH (w.alloc (.cells (hashArr r) 24)) base (.slice (some ⟨w.heap.size, 0, none⟩) 1 1) [r] := by
  refine ⟨by simp [hr], by rw [flat_length [r] (by simp [hr])], .inr ⟨w.heap.size, 1, hashArr r, rfl, hb, heap_alloc_new _ _, by simp, by unfold maxLen; omega, by rw [hashArr_size, hr], ?_⟩⟩
  rw [show flat [r] = (hashArr r).toList by simp [flat], List.take_of_length_le (by rw [Array.length_toList, hashArr_size, hr]; simp)]
set_option maxHeartbeats 1000000 in
theorem growth1_end (f : Nat) (l : List ByteArray) (n : Nat) (whole : Bool) (b o c g : Nat) (hs : List Tree.H) (w : World) (hl : Hid (l.length = n)) (h1 : 1 ≤ n) (hf : n ≤ 2 ^ f) (hc : n ≤ c) (hcm : c ≤ 9223372036854775807) (hS : SAt w b o l) (hSh : Short l) (hT : Tabs w) (hh : hs = if whole then [] else [Tree.root f l]) :
    Calls Tryd.prog 50 #[.slice (some ⟨b, o, none⟩) n c, .int .i64 (n : Int), .bool whole, .pointer (some ⟨g, 0, none⟩)] w (Gives hs w) := by
  cases whole with
  | true =>
    obtain rfl : hs = [] := hh
    go_enter Tryd.func50, Tryd.ntmps50
    go_wp2_with fail
    go_ret
    exact ⟨_, rfl, OwnsH.nil _ _, Below.refl _ _⟩
  | false =>
    obtain rfl : hs = [Tree.root f l] := hh
    obtain ⟨r, er⟩ : ∃ x, Tree.root f l = x := ⟨_, rfl⟩
    have LR : Hid (r.length = 32) := by show _ = _; rw [← er]; exact Tree.root_length _ _
    have zr : (hashArr r).size = 32 := by rw [hashArr_size]; exact LR.out
    have cr := root_any f l (.slice (some ⟨b, o, none⟩) n c) r w (by rw [hl.out]; exact hf) (strs_at hl.out h1 hc hcm hS hSh) hT er
    have CR := Lib.hid cr
    rw [er]
    clear cr er hS hSh hT
    go_enter Tryd.func50, Tryd.ntmps50
    go_wp2_with fail
    with_reducible refine CR.out.mono ?_
    rintro e w1 ⟨rfl, hb1⟩
    go_wp2_with fail
    go_ret
    exact ⟨_, rfl, OwnsH.one w1 _ r LR.out hb1.size, hb1.alloc hb1.size _⟩
set_option maxHeartbeats 4000000 in
set_option maxRecDepth 100000 in
theorem growth1_any : ∀ (f : Nat) (l : List ByteArray) (n m : Nat) (whole : Bool) (b o c g : Nat) (hs : List Tree.H) (w : World), Hid (l.length = n) → 1 ≤ n → 1 ≤ m → m ≤ n → n ≤ 2 ^ f → f ≤ 63 → n ≤ c → c ≤ 9223372036854775807 → SAt w b o l → Short l → Tabs w → selfAt w 50 g → Hid (Tree.growth f l m whole = hs) →
    Calls Tryd.prog 50 #[.slice (some ⟨b, o, none⟩) n c, .int .i64 (m : Int), .bool whole, .pointer (some ⟨g, 0, none⟩)] w (Gives hs w) := by
  intro f
  induction f with
  | zero =>
    intro l n m whole b o c g hs w hl h1 hm1 hmn hf hf63 hc hcm hS hSh hT hg hh
    obtain rfl : m = n := by
      have : (2 : Nat) ^ 0 = 1 := rfl
      omega
    exact growth1_end 0 l m whole b o c g hs w hl h1 hf hc hcm hS hSh hT hh.out.symm
  | succ f ih =>
    intro l n m whole b o c g hs w hl h1 hm1 hmn hf hf63 hc hcm hS hSh hT hg hh
    by_cases hmn' : m = n
    · subst hmn'
      exact growth1_end (f + 1) l m whole b o c g hs w hl h1 hf hc hcm hS hSh hT (by rw [← hh.out, Tree.growth, if_pos hl.out.symm])
    · have hd1 : ((m : Int) == (n : Int)) = false := by simp; omega
      have hk0 := Tree.half_pos n
      have hk1 := Tree.half_lt n (by omega)
      have HF1 := Lib.hid (Tree.half_pow n f (by omega) hf)
      have HF2 := Lib.hid (Tree.rest_pow n f (by omega) hf)
      have ch := fun W => half_any n W (by omega) (by omega)
      have ep : hs = if m ≤ Tree.half n then Tree.growth f (l.take (Tree.half n)) m whole ++ [Tree.root f (l.drop (Tree.half n))] else Tree.growth f (l.drop (Tree.half n)) (m - Tree.half n) false ++ [Tree.root f (l.take (Tree.half n))] := by
        rw [← hh.out, Tree.growth, if_neg (by rw [hl.out]; omega), hl.out]
      obtain ⟨k, ek⟩ : ∃ k, Tree.half n = k := ⟨_, rfl⟩
      rw [ek] at hk0 hk1 HF1 HF2 ch ep
      have CH := Lib.hid ch
      clear ek ch
      have LT : Hid ((l.take k).length = k) := by show _ = _; rw [List.length_take, hl.out]; omega
      have LD : Hid ((l.drop k).length = n - k) := by show _ = _; rw [List.length_drop, hl.out]
      have q1 : (0 : Int) ≤ (k : Int) := by omega
      have q2 : (k : Int) ≤ (c : Int) := by omega
      have q3 : (k : Int) ≤ (n : Int) := by omega
      have q4 : (k : Int).toNat = k := by omega
      have q5 : ¬ (c - k = 0) := by omega
      have q6 : ¬ (c = k) := by omega
      have HG : Hid (∀ W, Below w.heap.size w W → selfAt W 50 g) := fun W hW => (hW.cell (p := ⟨g, 0, none⟩) (block_lt_of_cell hg)).trans hg
      by_cases hmk : m ≤ k
      · rw [if_pos hmk] at ep
        have hdm : decide ((m : Int) ≤ (k : Int)) = true := by simp; omega
        obtain ⟨pa, epa⟩ : ∃ x, Tree.growth f (l.take k) m whole = x := ⟨_, rfl⟩
        obtain ⟨r, er⟩ : ∃ x, Tree.root f (l.drop k) = x := ⟨_, rfl⟩
        have lpa : pa.length ≤ 64 := by have := Tree.growth_length f (l.take k) m whole; rw [epa] at this; omega
        have LR : Hid (r.length = 32) := by show _ = _; rw [← er]; exact Tree.root_length _ _
        have zr : (hashArr r).size = 32 := by rw [hashArr_size]; exact LR.out
        rw [epa, er] at ep
        have EP := Lib.hid ep
        have EPA := Lib.hid epa
        have ca : ∀ W, Below w.heap.size w W → Calls Tryd.prog 50 #[.slice (some ⟨b, o, none⟩) k c, .int .i64 (m : Int), .bool whole, .pointer (some ⟨g, 0, none⟩)] W (Gives pa W) := fun W hW =>
          ih (l.take k) k m whole b o c g pa W LT hk0 hm1 hmk HF1.out (by omega) (by omega) hcm (hS.below hW).take (hSh.take k) (hT.below hW) (HG.out W hW) EPA
        have cr : ∀ W, Below w.heap.size w W → Calls Tryd.prog 16 #[.slice (some ⟨b, o + k, none⟩) (n - k) (c - k)] W fun e w' => e = .returned (.agg (hashArr r)) ∧ Below W.heap.size W w' := fun W hW =>
          root_any f (l.drop k) _ r W (by rw [LD.out]; exact HF2.out) (strs_at LD.out (by omega) (by omega) (by omega) (hS.below hW).drop (hSh.drop k)) (hT.below hW) er
        have CA := Lib.hid ca
        have CR := Lib.hid cr
        clear ca cr ih ep epa er HF1 HF2 LT LD hS hSh hT HG
        go_enter Tryd.func50, Tryd.ntmps50
        go_wp2_with fail
        with_reducible refine (CH.out _).mono ?_
        rintro e w' ⟨rfl, rfl⟩
        go_wp2_with fail
        go_region_law (first
          | (go_simp; go_at_call 50; (with_reducible refine (CA.out _ (Below.refl _ _).drew).mono ?_); rintro e w1 ⟨v1, rfl, hown1, hb1⟩)
          | (go_simp; go_at_call 16; (with_reducible refine (CR.out _ (below_drew_join hb1)).mono ?_); rintro e w2 ⟨rfl, hb2⟩)
          | (refine step_append_hash (by rfl) _ _ (by rfl) w.heap.size v1 pa r w2.heap.size (by rfl) (by rfl) ((hown1.below hb2).below ((Below.refl _ _).alloc (Nat.le_refl _) _)) (heap_alloc_new _ _) LR.out (by omega) (base_le hb1 hb2) ?_; intro g3 cap3 w3 hown3 hgrow3))
        go_wp2_with fail
        go_ret
        exact gives_end hb1 hb2 hown1 hgrow3 hown3 EP.out
      · rw [if_neg hmk] at ep
        have hdm : decide ((m : Int) ≤ (k : Int)) = false := by simp; omega
        obtain ⟨pa, epa⟩ : ∃ x, Tree.growth f (l.drop k) (m - k) false = x := ⟨_, rfl⟩
        obtain ⟨r, er⟩ : ∃ x, Tree.root f (l.take k) = x := ⟨_, rfl⟩
        have lpa : pa.length ≤ 64 := by have := Tree.growth_length f (l.drop k) (m - k) false; rw [epa] at this; omega
        have LR : Hid (r.length = 32) := by show _ = _; rw [← er]; exact Tree.root_length _ _
        have q7 : IntKind.i64.wrap ((m : Int) - (k : Int)) = (m : Int) - (k : Int) := IntWalk.i64_in _ (by omega)
        have zr : (hashArr r).size = 32 := by rw [hashArr_size]; exact LR.out
        rw [epa, er] at ep
        have EP := Lib.hid ep
        have EPA := Lib.hid epa
        have ca : ∀ W, Below w.heap.size w W → Calls Tryd.prog 50 #[.slice (some ⟨b, o + k, none⟩) (n - k) (c - k), .int .i64 ((m : Int) - (k : Int)), .bool false, .pointer (some ⟨g, 0, none⟩)] W (Gives pa W) := fun W hW => by
          rw [show ((m : Int) - (k : Int)) = ((m - k : Nat) : Int) by omega]
          exact ih (l.drop k) (n - k) (m - k) false b (o + k) (c - k) g pa W LD (by omega) (by omega) (by omega) HF2.out (by omega) (by omega) (by omega) (hS.below hW).drop (hSh.drop k) (hT.below hW) (HG.out W hW) EPA
        have cr : ∀ W, Below w.heap.size w W → Calls Tryd.prog 16 #[.slice (some ⟨b, o, none⟩) k c] W fun e w' => e = .returned (.agg (hashArr r)) ∧ Below W.heap.size W w' := fun W hW =>
          root_any f (l.take k) _ r W (by rw [LT.out]; exact HF1.out) (strs_at LT.out (by omega) (by omega) hcm (hS.below hW).take (hSh.take k)) (hT.below hW) er
        have CA := Lib.hid ca
        have CR := Lib.hid cr
        clear ca cr ih ep epa er HF1 HF2 LT LD hS hSh hT HG
        go_enter Tryd.func50, Tryd.ntmps50
        go_wp2_with fail
        with_reducible refine (CH.out _).mono ?_
        rintro e w' ⟨rfl, rfl⟩
        go_wp2_with fail
        go_region_law (first
          | (go_simp; go_at_call 50; (with_reducible refine (CA.out _ (Below.refl _ _).drew).mono ?_); rintro e w1 ⟨v1, rfl, hown1, hb1⟩)
          | (go_simp; go_at_call 16; (with_reducible refine (CR.out _ (below_drew_join hb1)).mono ?_); rintro e w2 ⟨rfl, hb2⟩)
          | (refine step_append_hash (by rfl) _ _ (by rfl) w.heap.size v1 pa r w2.heap.size (by rfl) (by rfl) ((hown1.below hb2).below ((Below.refl _ _).alloc (Nat.le_refl _) _)) (heap_alloc_new _ _) LR.out (by omega) (base_le hb1 hb2) ?_; intro g3 cap3 w3 hown3 hgrow3))
        go_wp2_with fail
        go_ret
        exact gives_end hb1 hb2 hown1 hgrow3 hown3 EP.out
set_option maxHeartbeats 1000000 in
theorem growth_no (l : List ByteArray) (v : Value) (m : Int) (w : World) (hv : IsStrs w v l) (hm : m < 0 ∨ (l.length : Int) < m) :
    Calls Tryd.prog 34 #[v, .int .i64 m] w (GivesB [] false w) := by
  obtain ⟨a, n, c, rfl, hn⟩ : ∃ a n c, v = .slice a n c ∧ l.length = n := by
    obtain ⟨_, ⟨rfl, a, c, rfl⟩ | ⟨b, o, c, rfl, _⟩⟩ := hv
    · exact ⟨_, _, _, rfl, rfl⟩
    · exact ⟨_, _, _, rfl, rfl⟩
  rw [hn] at hm
  clear hv hn
  by_cases h0 : m < 0
  · have d0 : decide (m < 0) = true := by simpa using h0
    go_enter Tryd.func34, Tryd.ntmps34
    go_wp2_with fail
    go_ret2
    exact ⟨_, rfl, OwnsH.nil _ _, Below.refl _ _⟩
  · have d0 : decide (m < 0) = false := by simpa using h0
    have d1 : decide ((n : Int) < m) = true := by simp; omega
    go_enter Tryd.func34, Tryd.ntmps34
    go_wp2_with fail
    go_ret2
    exact ⟨_, rfl, OwnsH.nil _ _, Below.refl _ _⟩
set_option maxHeartbeats 1000000 in
theorem growth_zero (l : List ByteArray) (v : Value) (w : World) (hv : IsStrs w v l) :
    Calls Tryd.prog 34 #[v, .int .i64 0] w (GivesB [] true w) := by
  obtain ⟨a, n, c, rfl⟩ : ∃ a n c, v = .slice a n c := by
    obtain ⟨_, ⟨rfl, a, c, rfl⟩ | ⟨b, o, c, rfl, _⟩⟩ := hv
    · exact ⟨_, _, _, rfl⟩
    · exact ⟨_, _, _, rfl⟩
  clear hv
  go_enter Tryd.func34, Tryd.ntmps34
  go_wp2_with fail
  go_ret2
  exact ⟨_, rfl, OwnsH.nil _ _, Below.refl _ _⟩
set_option maxHeartbeats 1000000 in
theorem growth_yes (f : Nat) (l : List ByteArray) (v : Value) (m : Nat) (hs : List Tree.H) (w : World) (hf : l.length ≤ 2 ^ f) (hf63 : f ≤ 63) (hv : IsStrs w v l) (hm1 : 1 ≤ m) (hm : m ≤ l.length) (hT : Tabs w) (hh : Tree.growth f l m true = hs) :
    Calls Tryd.prog 34 #[v, .int .i64 (m : Int)] w (GivesB hs true w) := by
  obtain ⟨hSh, ⟨rfl, a, c, rfl⟩ | ⟨b, o, c, rfl, h1, hc, hcm, hS⟩⟩ := hv
  · simp at hm; omega
  obtain ⟨n, en⟩ : ∃ n, l.length = n := ⟨_, rfl⟩
  rw [en] at hf h1 hc hm ⊢
  have EN := Lib.hid en
  have HH := Lib.hid hh
  have hb1 : Below w.heap.size w (w.alloc (.cells #[.func (.func 50) #[] #[.pointer (some ⟨w.heap.size, 0, none⟩)]] 71)) := (Below.refl _ _).alloc (Nat.le_refl _) _
  have hg : selfAt (w.alloc (.cells #[.func (.func 50) #[] #[.pointer (some ⟨w.heap.size, 0, none⟩)]] 71)) 50 w.heap.size := (cell_of_row _ _ 0 _ _ _ (heap_alloc_new w _)).trans rfl
  have cp := growth1_any f l n m true b o c w.heap.size hs _ EN h1 hm1 hm hf hf63 hc hcm (hS.below hb1) hSh (hT.below hb1) hg HH
  have CP := Lib.hid cp
  have HB1 := Lib.hid hb1
  have d0 : decide ((m : Int) < 0) = false := by simp
  have d1 : decide ((n : Int) < (m : Int)) = false := by simp; omega
  have d2 : ((m : Int) == 0) = false := by simp; omega
  clear cp hb1 hg hS hSh hT hh en
  go_enter Tryd.func34, Tryd.ntmps34
  go_wp2_with fail
  with_reducible refine CP.out.mono ?_
  rintro e w1 ⟨v1, rfl, hown1, hb2⟩
  go_wp2_with fail
  go_ret2
  exact ⟨_, rfl, hown1.rebase HB1.out.size, HB1.out.trans (hb2.mono HB1.out.size)⟩
end Go.Proofs.YtjedhmoehepbnaaDoor
