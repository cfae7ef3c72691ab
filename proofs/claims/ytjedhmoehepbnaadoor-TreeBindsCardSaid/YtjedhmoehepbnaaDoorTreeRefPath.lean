/- The contracts of the reference's Path and Growth. -/
import Derived.Test.YtjedhmoehepbnaaDoorTreePath
import Derived.Test.YtjedhmoehepbnaaDoorTreeRefRoot
import Derived.Test.YtjedhmoehepbnaaDoorSanity12
import Derived.Test.YtjedhmoehepbnaaDoorTreeGrowth
namespace Go.Proofs.YtjedhmoehepbnaaDoor
open Go.RowKit Go.Sort
set_option linter.unusedVariables false
section
attribute [local go_sem ↓] Go.wp_at_zero Go.wp_at_succ wp_build_one

/-- 'append(s, r)' in a region whose order is fixed -/
theorem wpList_append_hash {ops : Array Oper} {rest : List Oper} {o : Oper} {a : Act} {w : World} {Q : Exit → Act → World → Prop} (hgd : o.guard = none) (s x : Operand)
    (ho : o.op = .call { callee := .builtin .append, args := #[s, x], argTypes := #[38, 38] }) (base : Nat) (v : Value) (hs : List Tree.H) (r : Tree.H) (B : Nat)
    (hsv : a.eval s = v) (hx : a.eval x = .slice (some ⟨B, 0, none⟩) 1 1) (hown : OwnsH w base v hs) (hB : w.heap[B]? = some (.cells (hashArr r) 24 (0, 0))) (hr : r.length = 32) (hlen : hs.length ≤ 100000) (hbase : base ≤ w.heap.size)
    (h : ∀ g cap w', OwnsH w' base (.slice (some ⟨g, 0, none⟩) (hs.length + 1) cap) (hs ++ [r]) → w.grownBy w' v.ownBlock → wpList Tryd.prog ops Q rest (a.put o.dst (.slice (some ⟨g, 0, none⟩) (hs.length + 1) cap)) w') :
    wpList Tryd.prog ops Q (o :: rest) a w := by
  obtain ⟨i0, hi, hz0, hz1, hz2⟩ := info_parts hash_infos
  refine wpList_append_lies (P := Tryd.prog) w hgd s x 38 ho base 24 i0 _ 32 32 Tryd.underlying38 hi hz0 hz1 hz2 rfl (by omega) v hs.length (flat hs) hsv hown.2 ⟨B, 0, none⟩ 1 1 (hashArr r).toList hx (by rw [Array.length_toList, hashArr_size, hr]) (World.news_of_block hB)
    (fun u hu => Array.all_eq_true_iff_forall_mem.1 (hashArr_one r) u (by simpa using hu)) (by omega) (by unfold maxLen; omega) (by omega) hbase _ rfl ?_
  intro g cap w1 hown1 hgrow _ _
  refine h g cap w1 ⟨fun y hy => ?_, ?_⟩ hgrow
  · rcases List.mem_append.1 hy with hy | hy
    · exact hown.1 y hy
    · rw [List.mem_singleton.1 hy]; exact hr
  · rw [flat_snoc, List.length_append]; exact hown1
theorem base_le' {w w1 w2 : World} {o : Obj} (hb1 : Below w.heap.size w w1) (hb2 : Below w1.heap.size w1 w2) : w.heap.size ≤ (w2.alloc o).heap.size := by
  have h1 := hb1.size
  have h2 := hb2.size
  simp; omega
theorem givesB_end {w w1 w2 w3 : World} {o : Obj} {v1 v3 : Value} {pa qa hs : List Tree.H} (hb1 : Below w.heap.size w w1) (hb2 : Below w1.heap.size w1 w2) (hown1 : OwnsH w1 w.heap.size v1 pa) (hgrow : (w2.alloc o).grownBy w3 v1.ownBlock) (hown3 : OwnsH w3 w.heap.size v3 qa) (e : hs = qa) : GivesB hs true w (.returned (.tuple #[v3, .bool true])) w3 := by
  subst e
  refine ⟨v3, rfl, hown3, ?_⟩
  have h2 : Below w.heap.size w (w2.alloc o) := (below_join hb1 hb2).alloc (by have := (below_join hb1 hb2).size; exact this) _
  exact h2.grown hgrow h2.size (fun k hk => hown1.block k hk)
set_option maxHeartbeats 1000000 in
theorem rpath_no (l : List ByteArray) (v : Value) (i : Int) (w : World) (hv : IsStrs w v l) (hi : i < 0 ∨ (l.length : Int) ≤ i) :
    Calls Tryd.prog 23 #[v, .int .i64 i] w (GivesB [] false w) := by
  obtain ⟨a, n, c, rfl, hn⟩ : ∃ a n c, v = .slice a n c ∧ l.length = n := by
    obtain ⟨_, ⟨rfl, a, c, rfl⟩ | ⟨b, o, c, rfl, _⟩⟩ := hv
    · exact ⟨_, _, _, rfl, rfl⟩
    · exact ⟨_, _, _, rfl, rfl⟩
  rw [hn] at hi
  clear hv hn
  by_cases h0 : i < 0
  · have d0 : decide (i < 0) = true := by simpa using h0
    go_enter Tryd.func23, Tryd.ntmps23
    go_wp2_with fail
    go_ret2
    exact ⟨_, rfl, OwnsH.nil _ _, Below.refl _ _⟩
  · have d0 : decide (i < 0) = false := by simpa using h0
    have d1 : decide ((n : Int) ≤ i) = true := by simp; omega
    go_enter Tryd.func23, Tryd.ntmps23
    go_wp2_with fail
    go_ret2
    exact ⟨_, rfl, OwnsH.nil _ _, Below.refl _ _⟩
set_option maxHeartbeats 1000000 in
theorem rpath_one (a : Option Addr) (n i c : Nat) (w : World) (hn : n = 1) (hi : i < n) :
    Calls Tryd.prog 23 #[.slice a n c, .int .i64 (i : Int)] w (GivesB [] true w) := by
  have d0 : decide ((i : Int) < 0) = false := by simp
  have d1 : decide ((n : Int) ≤ (i : Int)) = false := by simp; omega
  have hd1 : ((n : Int) == 1) = true := by simp; omega
  clear hn
  go_enter Tryd.func23, Tryd.ntmps23
  go_wp2_with fail
  go_ret2
  exact ⟨_, rfl, OwnsH.nil _ _, Below.refl _ _⟩
set_option maxHeartbeats 4000000 in
set_option maxRecDepth 100000 in
theorem rpath1_any : ∀ (f : Nat) (l : List ByteArray) (n i b o c : Nat) (hs : List Tree.H) (w : World), Hid (l.length = n) → 1 ≤ n → i < n → n ≤ 2 ^ f → f ≤ 63 → n ≤ c → c ≤ 9223372036854775807 → SAt w b o l → Short l → Hid (Tree.path f l i = hs) →
    Calls Tryd.prog 23 #[.slice (some ⟨b, o, none⟩) n c, .int .i64 (i : Int)] w (GivesB hs true w) := by
  intro f
  induction f with
  | zero =>
    intro l n i b o c hs w hl h1 hi hf hf63 hc hcm hS hSh hh
    obtain rfl : hs = [] := hh.out.symm
    have : (2 : Nat) ^ 0 = 1 := rfl
    exact rpath_one _ n i c w (by omega) hi
  | succ f ih =>
    intro l n i b o c hs w hl h1 hi hf hf63 hc hcm hS hSh hh
    by_cases hn1 : n = 1
    · obtain rfl : hs = [] := by rw [← hh.out, Tree.path, if_pos (by rw [hl.out]; omega)]
      exact rpath_one _ n i c w hn1 hi
    · have d0 : decide ((i : Int) < 0) = false := by simp
      have d1 : decide ((n : Int) ≤ (i : Int)) = false := by simp; omega
      have hd1 : ((n : Int) == 1) = false := by simp; omega
      have hk0 := Tree.half_pos n
      have hk1 := Tree.half_lt n (by omega)
      have HF1 := Lib.hid (Tree.half_pow n f (by omega) hf)
      have HF2 := Lib.hid (Tree.rest_pow n f (by omega) hf)
      have ch := fun W => rhalf_any n W (by omega) (by omega)
      have ep : hs = if i < Tree.half n then Tree.path f (l.take (Tree.half n)) i ++ [Tree.root f (l.drop (Tree.half n))] else Tree.path f (l.drop (Tree.half n)) (i - Tree.half n) ++ [Tree.root f (l.take (Tree.half n))] := by
        rw [← hh.out, Tree.path, if_neg (by rw [hl.out]; omega), hl.out]
      obtain ⟨k, ek⟩ : ∃ k, Tree.half n = k := ⟨_, rfl⟩
      rw [ek] at hk0 hk1 HF1 HF2 ch ep
      have CH := Lib.hid ch
      clear ek ch
      have LT : Hid ((l.take k).length = k) := by show _ = _; rw [List.length_take, hl.out]; omega
      have LD : Hid ((l.drop k).length = n - k) := by show _ = _; rw [List.length_drop, hl.out]
      have q1 : (0 : Int) ≤ (k : Int) := by omega
      have q2 : (k : Int) ≤ (c : Int) := by omega
      have q3 : (k : Int) ≤ (n : Int) := by omega
      have q4 : (k : Int).toNat = k := by omega
      have q5 : ¬ (c - k = 0) := by omega
      have q6 : ¬ (c = k) := by omega
      by_cases hik : i < k
      · rw [if_pos hik] at ep
        have hdi : decide ((i : Int) < (k : Int)) = true := by simp; omega
        obtain ⟨pa, epa⟩ : ∃ x, Tree.path f (l.take k) i = x := ⟨_, rfl⟩
        obtain ⟨r, er⟩ : ∃ x, Tree.root f (l.drop k) = x := ⟨_, rfl⟩
        have lpa : pa.length ≤ 63 := by have := Tree.path_length f (l.take k) i; rw [epa] at this; omega
        have LR : Hid (r.length = 32) := by show _ = _; rw [← er]; exact Tree.root_length _ _
        have zr : (hashArr r).size = 32 := by rw [hashArr_size]; exact LR.out
        rw [epa, er] at ep
        have EP := Lib.hid ep
        have EPA := Lib.hid epa
        have ca : ∀ W, Below w.heap.size w W → Calls Tryd.prog 23 #[.slice (some ⟨b, o, none⟩) k c, .int .i64 (i : Int)] W (GivesB pa true W) := fun W hW =>
          ih (l.take k) k i b o c pa W LT hk0 hik HF1.out (by omega) (by omega) hcm (hS.below hW).take (hSh.take k) EPA
        have cr : ∀ W, Below w.heap.size w W → Calls Tryd.prog 17 #[.slice (some ⟨b, o + k, none⟩) (n - k) (c - k)] W fun e w' => e = .returned (.agg (hashArr r)) ∧ Below W.heap.size W w' := fun W hW =>
          rroot_any f (l.drop k) _ r W (by rw [LD.out]; exact HF2.out) (strs_at LD.out (by omega) (by omega) (by omega) (hS.below hW).drop (hSh.drop k)) (Lib.hid er)
        have CA := Lib.hid ca
        have CR := Lib.hid cr
        clear ca cr ih ep epa er HF1 HF2 LT LD hS hSh
        go_enter Tryd.func23, Tryd.ntmps23
        go_wp2_with fail
        with_reducible refine (CH.out _).mono ?_
        rintro e w' ⟨rfl, rfl⟩
        go_wp2_with fail
        with_reducible refine (CA.out _ (Below.refl _ _)).mono ?_
        rintro e w1 ⟨v1, rfl, hown1, hb1⟩
        go_wp2_with fail
        with_reducible refine (CR.out _ hb1).mono ?_
        rintro e w2 ⟨rfl, hb2⟩
        go_wp2_with ((with_reducible refine op_is ⟨some 42, .call { callee := .builtin .append, args := #[.tmp 36, .tmp 41], argTypes := #[38, 38] }, _, _, _, _⟩ ?_); refine wpList_append_hash rfl (.tmp 36) (.tmp 41) rfl w.heap.size v1 pa r w2.heap.size rfl rfl ((hown1.below hb2).below ((Below.refl _ _).alloc (Nat.le_refl _) _)) (heap_alloc_new _ _) LR.out (by omega) (base_le' hb1 hb2) ?_; intro g3 cap3 w3 hown3 hgrow3)
        go_ret2
        exact givesB_end hb1 hb2 hown1 hgrow3 hown3 EP.out
      · rw [if_neg hik] at ep
        have hdi : decide ((i : Int) < (k : Int)) = false := by simp; omega
        obtain ⟨pa, epa⟩ : ∃ x, Tree.path f (l.drop k) (i - k) = x := ⟨_, rfl⟩
        obtain ⟨r, er⟩ : ∃ x, Tree.root f (l.take k) = x := ⟨_, rfl⟩
        have lpa : pa.length ≤ 63 := by have := Tree.path_length f (l.drop k) (i - k); rw [epa] at this; omega
        have LR : Hid (r.length = 32) := by show _ = _; rw [← er]; exact Tree.root_length _ _
        have q7 : IntKind.i64.wrap ((i : Int) - (k : Int)) = (i : Int) - (k : Int) := IntWalk.i64_in _ (by omega)
        have zr : (hashArr r).size = 32 := by rw [hashArr_size]; exact LR.out
        rw [epa, er] at ep
        have EP := Lib.hid ep
        have EPA := Lib.hid epa
        have ca : ∀ W, Below w.heap.size w W → Calls Tryd.prog 23 #[.slice (some ⟨b, o + k, none⟩) (n - k) (c - k), .int .i64 ((i : Int) - (k : Int))] W (GivesB pa true W) := fun W hW => by
          rw [show ((i : Int) - (k : Int)) = ((i - k : Nat) : Int) by omega]
          exact ih (l.drop k) (n - k) (i - k) b (o + k) (c - k) pa W LD (by omega) (by omega) HF2.out (by omega) (by omega) (by omega) (hS.below hW).drop (hSh.drop k) EPA
        have cr : ∀ W, Below w.heap.size w W → Calls Tryd.prog 17 #[.slice (some ⟨b, o, none⟩) k c] W fun e w' => e = .returned (.agg (hashArr r)) ∧ Below W.heap.size W w' := fun W hW =>
          rroot_any f (l.take k) _ r W (by rw [LT.out]; exact HF1.out) (strs_at LT.out (by omega) (by omega) hcm (hS.below hW).take (hSh.take k)) (Lib.hid er)
        have CA := Lib.hid ca
        have CR := Lib.hid cr
        clear ca cr ih ep epa er HF1 HF2 LT LD hS hSh
        go_enter Tryd.func23, Tryd.ntmps23
        go_wp2_with fail
        with_reducible refine (CH.out _).mono ?_
        rintro e w' ⟨rfl, rfl⟩
        go_wp2_with fail
        with_reducible refine (CA.out _ (Below.refl _ _)).mono ?_
        rintro e w1 ⟨v1, rfl, hown1, hb1⟩
        go_wp2_with fail
        with_reducible refine (CR.out _ hb1).mono ?_
        rintro e w2 ⟨rfl, hb2⟩
        go_wp2_with (refine wpList_append_hash rfl _ _ rfl w.heap.size v1 pa r w2.heap.size rfl rfl ((hown1.below hb2).below ((Below.refl _ _).alloc (Nat.le_refl _) _)) (heap_alloc_new _ _) LR.out (by omega) (base_le' hb1 hb2) ?_; intro g3 cap3 w3 hown3 hgrow3)
        go_ret2
        exact givesB_end hb1 hb2 hown1 hgrow3 hown3 EP.out
theorem rpath_yes (f : Nat) (l : List ByteArray) (v : Value) (i : Nat) (hs : List Tree.H) (w : World) (hf : l.length ≤ 2 ^ f) (hf63 : f ≤ 63) (hv : IsStrs w v l) (hi : i < l.length) (hh : Tree.path f l i = hs) :
    Calls Tryd.prog 23 #[v, .int .i64 (i : Int)] w (GivesB hs true w) := by
  obtain ⟨hSh, ⟨rfl, a, c, rfl⟩ | ⟨b, o, c, rfl, h1, hc, hcm, hS⟩⟩ := hv
  · simp at hi
  exact rpath1_any f l _ i b o c hs w (Lib.hid rfl) h1 hi hf hf63 hc hcm hS hSh (Lib.hid hh)
end
section
attribute [local go_sem ↓] Go.wp_at_zero Go.wp_at_succ wp_build_one

set_option maxHeartbeats 2000000 in
theorem rgrow_end (f : Nat) (l : List ByteArray) (n : Nat) (whole : Bool) (b o c : Nat) (hs : List Tree.H) (w : World) (hl : Hid (l.length = n)) (h1 : 1 ≤ n) (hf : n ≤ 2 ^ f) (hc : n ≤ c) (hcm : c ≤ 9223372036854775807) (hS : SAt w b o l) (hSh : Short l) (hh : hs = if whole then [] else [Tree.root f l]) :
    Calls Tryd.prog 47 #[.slice (some ⟨b, o, none⟩) n c, .int .i64 (n : Int), .bool whole] w (Gives hs w) := by
  cases whole with
  | true =>
    obtain rfl : hs = [] := hh
    go_enter Tryd.func47, Tryd.ntmps47
    go_wp2_with fail
    go_ret
    exact ⟨_, rfl, OwnsH.nil _ _, Below.refl _ _⟩
  | false =>
    obtain rfl : hs = [Tree.root f l] := hh
    obtain ⟨r, er⟩ : ∃ x, Tree.root f l = x := ⟨_, rfl⟩
    have LR : Hid (r.length = 32) := by show _ = _; rw [← er]; exact Tree.root_length _ _
    have zr : (hashArr r).size = 32 := by rw [hashArr_size]; exact LR.out
    have cr := rroot_any f l (.slice (some ⟨b, o, none⟩) n c) r w (by rw [hl.out]; exact hf) (strs_at hl.out h1 hc hcm hS hSh) (Lib.hid er)
    have CR := Lib.hid cr
    rw [er]
    clear cr er hS hSh
    go_enter Tryd.func47, Tryd.ntmps47
    go_wp2_with fail
    with_reducible refine CR.out.mono ?_
    rintro e w1 ⟨rfl, hb1⟩
    go_wp2_with fail
    go_ret
    exact ⟨_, rfl, OwnsH.one w1 _ r LR.out hb1.size, hb1.alloc hb1.size _⟩
set_option maxHeartbeats 4000000 in
set_option maxRecDepth 100000 in
theorem rgrow_any : ∀ (f : Nat) (l : List ByteArray) (n m : Nat) (whole : Bool) (b o c : Nat) (hs : List Tree.H) (w : World), Hid (l.length = n) → 1 ≤ n → 1 ≤ m → m ≤ n → n ≤ 2 ^ f → f ≤ 63 → n ≤ c → c ≤ 9223372036854775807 → SAt w b o l → Short l → Hid (Tree.growth f l m whole = hs) →
    Calls Tryd.prog 47 #[.slice (some ⟨b, o, none⟩) n c, .int .i64 (m : Int), .bool whole] w (Gives hs w) := by
  intro f
  induction f with
  | zero =>
    intro l n m whole b o c hs w hl h1 hm1 hmn hf hf63 hc hcm hS hSh hh
    obtain rfl : m = n := by
      have : (2 : Nat) ^ 0 = 1 := rfl
      omega
    exact rgrow_end 0 l m whole b o c hs w hl h1 hf hc hcm hS hSh hh.out.symm
  | succ f ih =>
    intro l n m whole b o c hs w hl h1 hm1 hmn hf hf63 hc hcm hS hSh hh
    by_cases hmn' : m = n
    · subst hmn'
      exact rgrow_end (f + 1) l m whole b o c hs w hl h1 hf hc hcm hS hSh (by rw [← hh.out, Tree.growth, if_pos hl.out.symm])
    · have hd1 : ((m : Int) == (n : Int)) = false := by simp; omega
      have hk0 := Tree.half_pos n
      have hk1 := Tree.half_lt n (by omega)
      have HF1 := Lib.hid (Tree.half_pow n f (by omega) hf)
      have HF2 := Lib.hid (Tree.rest_pow n f (by omega) hf)
      have ch := fun W => rhalf_any n W (by omega) (by omega)
      have ep : hs = if m ≤ Tree.half n then Tree.growth f (l.take (Tree.half n)) m whole ++ [Tree.root f (l.drop (Tree.half n))] else Tree.growth f (l.drop (Tree.half n)) (m - Tree.half n) false ++ [Tree.root f (l.take (Tree.half n))] := by
        rw [← hh.out, Tree.growth, if_neg (by rw [hl.out]; omega), hl.out]
      obtain ⟨k, ek⟩ : ∃ k, Tree.half n = k := ⟨_, rfl⟩
      rw [ek] at hk0 hk1 HF1 HF2 ch ep
      have CH := Lib.hid ch
      clear ek ch
      have LT : Hid ((l.take k).length = k) := by show _ = _; rw [List.length_take, hl.out]; omega
      have LD : Hid ((l.drop k).length = n - k) := by show _ = _; rw [List.length_drop, hl.out]
      have q1 : (0 : Int) ≤ (k : Int) := by omega
      have q2 : (k : Int) ≤ (c : Int) := by omega
      have q3 : (k : Int) ≤ (n : Int) := by omega
      have q4 : (k : Int).toNat = k := by omega
      have q5 : ¬ (c - k = 0) := by omega
      have q6 : ¬ (c = k) := by omega
      by_cases hmk : m ≤ k
      · rw [if_pos hmk] at ep
        have hdm : decide ((m : Int) ≤ (k : Int)) = true := by simp; omega
        obtain ⟨pa, epa⟩ : ∃ x, Tree.growth f (l.take k) m whole = x := ⟨_, rfl⟩
        obtain ⟨r, er⟩ : ∃ x, Tree.root f (l.drop k) = x := ⟨_, rfl⟩
        have lpa : pa.length ≤ 64 := by have := Tree.growth_length f (l.take k) m whole; rw [epa] at this; omega
        have LR : Hid (r.length = 32) := by show _ = _; rw [← er]; exact Tree.root_length _ _
        have zr : (hashArr r).size = 32 := by rw [hashArr_size]; exact LR.out
        rw [epa, er] at ep
        have EP := Lib.hid ep
        have EPA := Lib.hid epa
        have ca : ∀ W, Below w.heap.size w W → Calls Tryd.prog 47 #[.slice (some ⟨b, o, none⟩) k c, .int .i64 (m : Int), .bool whole] W (Gives pa W) := fun W hW =>
          ih (l.take k) k m whole b o c pa W LT hk0 hm1 hmk HF1.out (by omega) (by omega) hcm (hS.below hW).take (hSh.take k) EPA
        have cr : ∀ W, Below w.heap.size w W → Calls Tryd.prog 17 #[.slice (some ⟨b, o + k, none⟩) (n - k) (c - k)] W fun e w' => e = .returned (.agg (hashArr r)) ∧ Below W.heap.size W w' := fun W hW =>
          rroot_any f (l.drop k) _ r W (by rw [LD.out]; exact HF2.out) (strs_at LD.out (by omega) (by omega) (by omega) (hS.below hW).drop (hSh.drop k)) (Lib.hid er)
        have CA := Lib.hid ca
        have CR := Lib.hid cr
        clear ca cr ih ep epa er HF1 HF2 LT LD hS hSh
        go_enter Tryd.func47, Tryd.ntmps47
        go_wp2_with fail
        with_reducible refine (CH.out _).mono ?_
        rintro e w' ⟨rfl, rfl⟩
        go_wp2_with fail
        go_region_law (first
          | (go_simp; go_at_call 47; (with_reducible refine (CA.out _ (Below.refl _ _).drew).mono ?_); rintro e w1 ⟨v1, rfl, hown1, hb1⟩)
          | (go_simp; go_at_call 17; (with_reducible refine (CR.out _ (below_drew_join hb1)).mono ?_); rintro e w2 ⟨rfl, hb2⟩)
          | (refine step_append_hash (by rfl) _ _ (by rfl) w.heap.size v1 pa r w2.heap.size (by rfl) (by rfl) ((hown1.below hb2).below ((Below.refl _ _).alloc (Nat.le_refl _) _)) (heap_alloc_new _ _) LR.out (by omega) (base_le hb1 hb2) ?_; intro g3 cap3 w3 hown3 hgrow3))
        go_wp2_with fail
        go_ret
        exact gives_end hb1 hb2 hown1 hgrow3 hown3 EP.out
      · rw [if_neg hmk] at ep
        have hdm : decide ((m : Int) ≤ (k : Int)) = false := by simp; omega
        obtain ⟨pa, epa⟩ : ∃ x, Tree.growth f (l.drop k) (m - k) false = x := ⟨_, rfl⟩
        obtain ⟨r, er⟩ : ∃ x, Tree.root f (l.take k) = x := ⟨_, rfl⟩
        have lpa : pa.length ≤ 64 := by have := Tree.growth_length f (l.drop k) (m - k) false; rw [epa] at this; omega
        have LR : Hid (r.length = 32) := by show _ = _; rw [← er]; exact Tree.root_length _ _
        have q7 : IntKind.i64.wrap ((m : Int) - (k : Int)) = (m : Int) - (k : Int) := IntWalk.i64_in _ (by omega)
        have zr : (hashArr r).size = 32 := by rw [hashArr_size]; exact LR.out
        rw [epa, er] at ep
        have EP := Lib.hid ep
        have EPA := Lib.hid epa
        have ca : ∀ W, Below w.heap.size w W → Calls Tryd.prog 47 #[.slice (some ⟨b, o + k, none⟩) (n - k) (c - k), .int .i64 ((m : Int) - (k : Int)), .bool false] W (Gives pa W) := fun W hW => by
          rw [show ((m : Int) - (k : Int)) = ((m - k : Nat) : Int) by omega]
          exact ih (l.drop k) (n - k) (m - k) false b (o + k) (c - k) pa W LD (by omega) (by omega) (by omega) HF2.out (by omega) (by omega) (by omega) (hS.below hW).drop (hSh.drop k) EPA
        have cr : ∀ W, Below w.heap.size w W → Calls Tryd.prog 17 #[.slice (some ⟨b, o, none⟩) k c] W fun e w' => e = .returned (.agg (hashArr r)) ∧ Below W.heap.size W w' := fun W hW =>
          rroot_any f (l.take k) _ r W (by rw [LT.out]; exact HF1.out) (strs_at LT.out (by omega) (by omega) hcm (hS.below hW).take (hSh.take k)) (Lib.hid er)
        have CA := Lib.hid ca
        have CR := Lib.hid cr
        clear ca cr ih ep epa er HF1 HF2 LT LD hS hSh
        go_enter Tryd.func47, Tryd.ntmps47
        go_wp2_with fail
        with_reducible refine (CH.out _).mono ?_
        rintro e w' ⟨rfl, rfl⟩
        go_wp2_with fail
        go_region_law (first
          | (go_simp; go_at_call 47; (with_reducible refine (CA.out _ (Below.refl _ _).drew).mono ?_); rintro e w1 ⟨v1, rfl, hown1, hb1⟩)
          | (go_simp; go_at_call 17; (with_reducible refine (CR.out _ (below_drew_join hb1)).mono ?_); rintro e w2 ⟨rfl, hb2⟩)
          | (refine step_append_hash (by rfl) _ _ (by rfl) w.heap.size v1 pa r w2.heap.size (by rfl) (by rfl) ((hown1.below hb2).below ((Below.refl _ _).alloc (Nat.le_refl _) _)) (heap_alloc_new _ _) LR.out (by omega) (base_le hb1 hb2) ?_; intro g3 cap3 w3 hown3 hgrow3))
        go_wp2_with fail
        go_ret
        exact gives_end hb1 hb2 hown1 hgrow3 hown3 EP.out
set_option maxHeartbeats 1000000 in
theorem rgrowth_no (l : List ByteArray) (v : Value) (m : Int) (w : World) (hv : IsStrs w v l) (hm : m < 0 ∨ (l.length : Int) < m) :
    Calls Tryd.prog 31 #[v, .int .i64 m] w (GivesB [] false w) := by
  obtain ⟨a, n, c, rfl, hn⟩ : ∃ a n c, v = .slice a n c ∧ l.length = n := by
    obtain ⟨_, ⟨rfl, a, c, rfl⟩ | ⟨b, o, c, rfl, _⟩⟩ := hv
    · exact ⟨_, _, _, rfl, rfl⟩
    · exact ⟨_, _, _, rfl, rfl⟩
  rw [hn] at hm
  clear hv hn
  by_cases h0 : m < 0
  · have d0 : decide (m < 0) = true := by simpa using h0
    go_enter Tryd.func31, Tryd.ntmps31
    go_wp2_with fail
    go_ret2
    exact ⟨_, rfl, OwnsH.nil _ _, Below.refl _ _⟩
  · have d0 : decide (m < 0) = false := by simpa using h0
    have d1 : decide ((n : Int) < m) = true := by simp; omega
    go_enter Tryd.func31, Tryd.ntmps31
    go_wp2_with fail
    go_ret2
    exact ⟨_, rfl, OwnsH.nil _ _, Below.refl _ _⟩
set_option maxHeartbeats 1000000 in
theorem rgrowth_zero (l : List ByteArray) (v : Value) (w : World) (hv : IsStrs w v l) :
    Calls Tryd.prog 31 #[v, .int .i64 0] w (GivesB [] true w) := by
  obtain ⟨a, n, c, rfl⟩ : ∃ a n c, v = .slice a n c := by
    obtain ⟨_, ⟨rfl, a, c, rfl⟩ | ⟨b, o, c, rfl, _⟩⟩ := hv
    · exact ⟨_, _, _, rfl⟩
    · exact ⟨_, _, _, rfl⟩
  clear hv
  go_enter Tryd.func31, Tryd.ntmps31
  go_wp2_with fail
  go_ret2
  exact ⟨_, rfl, OwnsH.nil _ _, Below.refl _ _⟩
set_option maxHeartbeats 1000000 in
theorem rgrowth_yes (f : Nat) (l : List ByteArray) (v : Value) (m : Nat) (hs : List Tree.H) (w : World) (hf : l.length ≤ 2 ^ f) (hf63 : f ≤ 63) (hv : IsStrs w v l) (hm1 : 1 ≤ m) (hm : m ≤ l.length) (hh : Tree.growth f l m true = hs) :
    Calls Tryd.prog 31 #[v, .int .i64 (m : Int)] w (GivesB hs true w) := by
  obtain ⟨hSh, ⟨rfl, a, c, rfl⟩ | ⟨b, o, c, rfl, h1, hc, hcm, hS⟩⟩ := hv
  · simp at hm; omega
  obtain ⟨n, en⟩ : ∃ n, l.length = n := ⟨_, rfl⟩
  rw [en] at hf h1 hc hm ⊢
  have EN := Lib.hid en
  have HH := Lib.hid hh
  have d0 : decide ((m : Int) < 0) = false := by simp
  have d1 : decide ((n : Int) < (m : Int)) = false := by simp; omega
  have d2 : ((m : Int) == 0) = false := by simp; omega
  by_cases hmn : m = n
  · have d3 : ((m : Int) == (n : Int)) = true := by simp; omega
    obtain rfl : hs = [] := by
      rw [← hh]
      cases f with
      | zero => rfl
      | succ f => rw [Tree.growth, if_pos (by omega)]; rfl
    clear hS hSh hh en hmn
    go_enter Tryd.func31, Tryd.ntmps31
    go_wp2_with fail
    go_ret2
    exact ⟨_, rfl, OwnsH.nil _ _, Below.refl _ _⟩
  · have d3 : ((m : Int) == (n : Int)) = false := by simp; omega
    have cp := rgrow_any f l n m true b o c hs w EN h1 hm1 hm hf hf63 hc hcm hS hSh HH
    have CP := Lib.hid cp
    clear cp hS hSh hh en
    go_enter Tryd.func31, Tryd.ntmps31
    go_wp2_with fail
    with_reducible refine CP.out.mono ?_
    rintro e w1 ⟨v1, rfl, hown1, hb2⟩
    go_wp2_with fail
    go_ret2
    exact ⟨_, rfl, hown1, hb2⟩
end
end Go.Proofs.YtjedhmoehepbnaaDoor
