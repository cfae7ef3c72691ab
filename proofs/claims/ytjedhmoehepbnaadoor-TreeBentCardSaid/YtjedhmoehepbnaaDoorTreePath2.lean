/- The contract of the program's Path. -/
import Derived.Test.YtjedhmoehepbnaaDoorTreePath
namespace Go.Proofs.YtjedhmoehepbnaaDoor
open Go.RowKit Go.Sort
set_option linter.unusedVariables false
/-- a call that hands back a new slice of hashes, and a bool -/
def GivesB (hs : List Tree.H) (ok : Bool) (w : World) (e : Ending) (w' : World) : Prop := ∃ v, e = .returned (.tuple #[v, .bool ok]) ∧ OwnsH w' w.heap.size v hs ∧ Below w.heap.size w w'
theorem OwnsH.rebase {w w1 : World} {B : Nat} {v : Value} {hs : List Tree.H} (h : OwnsH w1 B v hs) (hb : w.heap.size ≤ B) : OwnsH w1 w.heap.size v hs := h.mono hb
set_option maxHeartbeats 1000000 in
theorem path_no (l : List ByteArray) (v : Value) (i : Int) (w : World) (hv : IsStrs w v l) (hi : i < 0 ∨ (l.length : Int) ≤ i) :
    Calls Tryd.prog 28 #[v, .int .i64 i] w (GivesB [] false w) := by
  obtain ⟨a, n, c, rfl, hn⟩ : ∃ a n c, v = .slice a n c ∧ l.length = n := by
    obtain ⟨_, ⟨rfl, a, c, rfl⟩ | ⟨b, o, c, rfl, _⟩⟩ := hv
    · exact ⟨_, _, _, rfl, rfl⟩
    · exact ⟨_, _, _, rfl, rfl⟩
  rw [hn] at hi
  clear hv hn
  by_cases h0 : i < 0
  · have d0 : decide (i < 0) = true := by simpa using h0
    go_enter Tryd.func28, Tryd.ntmps28
    go_wp2_with fail
    go_ret2
    exact ⟨_, rfl, OwnsH.nil _ _, Below.refl _ _⟩
  · have d0 : decide (i < 0) = false := by simpa using h0
    have d1 : decide ((n : Int) ≤ i) = true := by simp; omega
    go_enter Tryd.func28, Tryd.ntmps28
    go_wp2_with fail
    go_ret2
    exact ⟨_, rfl, OwnsH.nil _ _, Below.refl _ _⟩
set_option maxHeartbeats 1000000 in
theorem path_yes (f : Nat) (l : List ByteArray) (v : Value) (i : Nat) (hs : List Tree.H) (w : World) (hf : l.length ≤ 2 ^ f) (hf63 : f ≤ 63) (hv : IsStrs w v l) (hi : i < l.length) (hT : Tabs w) (hh : Tree.path f l i = hs) :
    Calls Tryd.prog 28 #[v, .int .i64 (i : Int)] w (GivesB hs true w) := by
  obtain ⟨hSh, ⟨rfl, a, c, rfl⟩ | ⟨b, o, c, rfl, h1, hc, hcm, hS⟩⟩ := hv
  · simp at hi
  obtain ⟨n, en⟩ : ∃ n, l.length = n := ⟨_, rfl⟩
  rw [en] at hf h1 hc hi ⊢
  have EN := Lib.hid en
  have HH := Lib.hid hh
  have hb1 : Below w.heap.size w (w.alloc (.cells #[.func (.func 44) #[] #[.pointer (some ⟨w.heap.size, 0, none⟩)]] 68)) := (Below.refl _ _).alloc (Nat.le_refl _) _
  have hg : selfAt (w.alloc (.cells #[.func (.func 44) #[] #[.pointer (some ⟨w.heap.size, 0, none⟩)]] 68)) 44 w.heap.size := (cell_of_row _ _ 0 _ _ _ (heap_alloc_new w _)).trans rfl
  have cp := path1_any f l n i b o c w.heap.size hs _ EN h1 hi hf hf63 hc hcm (hS.below hb1) hSh (hT.below hb1) hg HH
  have CP := Lib.hid cp
  have HB1 := Lib.hid hb1
  have d0 : decide ((i : Int) < 0) = false := by simp
  have d1 : decide ((n : Int) ≤ (i : Int)) = false := by simp; omega
  clear cp hb1 hg hS hSh hT hh en
  go_enter Tryd.func28, Tryd.ntmps28
  go_wp2_with fail
  with_reducible refine CP.out.mono ?_
  rintro e w1 ⟨v1, rfl, hown1, hb2⟩
  go_wp2_with fail
  go_ret2
  exact ⟨_, rfl, hown1.rebase HB1.out.size, HB1.out.trans (hb2.mono HB1.out.size)⟩
end Go.Proofs.YtjedhmoehepbnaaDoor
