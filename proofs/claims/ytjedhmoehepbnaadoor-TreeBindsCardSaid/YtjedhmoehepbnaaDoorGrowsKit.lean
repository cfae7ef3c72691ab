/- Growths of a list, at every length of its beginning. -/
import Derived.Test.YtjedhmoehepbnaaDoorSanity12
import Derived.Test.YtjedhmoehepbnaaDoorTreeCheckGrowth
namespace Go.Proofs.YtjedhmoehepbnaaDoor
open Go.RowKit Go.Sort
set_option linter.unusedVariables false
theorem strs_sl {W : World} {v : Value} {l : List ByteArray} (h : IsStrs W v l) : ∃ a c, v = .slice a l.length c ∧ (1 ≤ l.length → l.length ≤ c) := by
  obtain ⟨_, ⟨rfl, a, c, rfl⟩ | ⟨b, o, c, rfl, _, h3, _⟩⟩ := h
  · exact ⟨_, _, rfl, fun h => by simp at h⟩
  · exact ⟨_, _, rfl, fun _ => h3⟩
theorem hs_sl {W : World} {v : Value} {l : List Tree.H} (h : IsHs W v l) : ∃ a c, v = .slice a l.length c := by
  obtain ⟨_, ⟨rfl, a, c, rfl, _⟩ | ⟨b, o, c, rfl, _⟩⟩ := h
  · exact ⟨_, _, rfl⟩
  · exact ⟨_, _, rfl⟩
theorem IsStrs.cut {W : World} {a : Option Addr} {n c k : Nat} {l : List ByteArray} (h : IsStrs W (.slice a n c) l) (hn : l.length = n) (hk : k ≤ n) : IsStrs W (.slice a k c) (l.take k) := by
  obtain ⟨h1, ⟨rfl, a', c', e⟩ | ⟨b, o, c', e, h3, h4, h5, h6⟩⟩ := h
  · injection e with e1 e2 e3
    obtain rfl : k = 0 := by omega
    exact ⟨h1.take 0, .inl ⟨by simp, _, _, rfl⟩⟩
  · injection e with e1 e2 e3
    subst e1 e3
    refine ⟨h1.take k, ?_⟩
    by_cases h0 : k = 0
    · subst h0; exact .inl ⟨by simp, _, _, rfl⟩
    · have hl : (l.take k).length = k := by rw [List.length_take]; omega
      exact .inr ⟨b, o, c, by rw [hl], by omega, by omega, h5, h6.take⟩
/-- the growth from the first k strings -/
def Tree.grow0 (f : Nat) (l : List ByteArray) (k : Nat) : List Tree.H := if k = 0 then [] else Tree.growth f l k true
theorem grow0_all (f : Nat) (l : List ByteArray) : Tree.grow0 f l l.length = [] := by
  unfold Tree.grow0
  split
  · rfl
  · cases f with
    | zero => rfl
    | succ f => simp [Tree.growth]
theorem growth0_any (f : Nat) (l : List ByteArray) (v : Value) (k : Nat) (w : World) (hf : l.length ≤ 2 ^ f) (hf63 : f ≤ 63) (hv : IsStrs w v l) (hk : k ≤ l.length) (hT : Tabs w) :
    Calls Tryd.prog 34 #[v, .int .i64 (k : Int)] w (GivesB (Tree.grow0 f l k) true w) := by
  unfold Tree.grow0
  split
  · rename_i h0; subst h0; exact growth_zero l v w hv
  · exact growth_yes f l v k _ w hf hf63 hv (by omega) hk hT rfl
theorem rgrowth0_any (f : Nat) (l : List ByteArray) (v : Value) (k : Nat) (w : World) (hf : l.length ≤ 2 ^ f) (hf63 : f ≤ 63) (hv : IsStrs w v l) (hk : k ≤ l.length) :
    Calls Tryd.prog 31 #[v, .int .i64 (k : Int)] w (GivesB (Tree.grow0 f l k) true w) := by
  unfold Tree.grow0
  split
  · rename_i h0; subst h0; exact rgrowth_zero l v w hv
  · exact rgrowth_yes f l v k _ w hf hf63 hv (by omega) hk rfl
/-- growths are those of the reference -/
theorem growths_same (f : Nat) (l : List ByteArray) (v : Value) (i : Int) (w : World) (hf : l.length ≤ 2 ^ f) (hf63 : f ≤ 63) (hv : IsStrs w v l) (hT : Tabs w) :
    ∃ hs ok, (∀ W, Below w.heap.size w W → Calls Tryd.prog 34 #[v, .int .i64 i] W (GivesB hs ok W)) ∧ (∀ W, Below w.heap.size w W → Calls Tryd.prog 31 #[v, .int .i64 i] W (GivesB hs ok W)) := by
  by_cases h : i < 0 ∨ (l.length : Int) < i
  · exact ⟨[], false, fun W g => growth_no l v i W (hv.below g) h, fun W g => rgrowth_no l v i W (hv.below g) h⟩
  · obtain ⟨j, rfl⟩ : ∃ j : Nat, i = (j : Int) := ⟨i.toNat, by omega⟩
    exact ⟨_, true, fun W g => growth0_any f l v j W hf hf63 (hv.below g) (by omega) (hT.below g), fun W g => rgrowth0_any f l v j W hf hf63 (hv.below g) (by omega)⟩
/-- CheckGrowth accepts the growth of a list from its first k strings -/
theorem grown_any (f : Nat) (l : List ByteArray) (k n : Nat) (r t : Tree.H) (v : Value) (w : World) (hf : l.length ≤ 2 ^ f) (hn : l.length = n) (hnm : n ≤ 9223372036854775807) (hk : k ≤ n) (hr : Tree.root f (l.take k) = r) (ht : Tree.root f l = t) (hT : Tabs w) (hv : IsHs w v (Tree.grow0 f l k)) :
    Calls Tryd.prog 48 #[.int .i64 (k : Int), .agg (hashArr r), .int .i64 (n : Int), .agg (hashArr t), v] w fun e w' => e = .returned (.bool true) ∧ Below w.heap.size w w' := by
  have lr : r.length = 32 := by rw [← hr]; exact Tree.root_length _ _
  have lt : t.length = 32 := by rw [← ht]; exact Tree.root_length _ _
  obtain ⟨a, c, rfl⟩ := hs_sl hv
  by_cases hkn : k = n
  · subst hkn
    subst hn
    rw [grow0_all]
    rw [List.take_length, ht] at hr
    subst hr
    exact grow_eq _ t t a _ c w (by omega) lt lt true (by simp)
  · by_cases h0 : k = 0
    · subst h0
      rw [List.take_zero, root_nil] at hr
      exact grow_zero _ r t r a _ c w (by omega) hT lr hr true (by simp [Tree.grow0])
    · refine grow_yes f k n r t a _ c _ w true hv rfl hT lr lt (by omega) (by omega) (by omega) hnm ?_
      have h := Tree.growth_grown f l k (by omega) (by omega) hf
      rw [hr, ht, hn] at h
      unfold Tree.grow0
      rw [if_neg h0]
      exact h
end Go.Proofs.YtjedhmoehepbnaaDoor
