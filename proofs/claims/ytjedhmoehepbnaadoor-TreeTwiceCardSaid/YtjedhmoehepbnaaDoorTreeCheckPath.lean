/- The contract of CheckPath: what the reference says of a path. -/
import Derived.Test.YtjedhmoehepbnaaDoorTreeHead
namespace Go.Proofs.YtjedhmoehepbnaaDoor
open Go.RowKit Go.Sort
set_option linter.unusedVariables false
theorem push_old {h : Array Obj} {o : Obj} {k : Nat} (hk : k < h.size) : (h.push o)[k]? = h[k]? := by rw [Array.getElem?_push, if_neg (by omega)]
theorem push_new {h : Array Obj} {o : Obj} {k : Nat} (hk : k = h.size) : (h.push o)[k]? = some o := by rw [Array.getElem?_push, if_pos hk]
attribute [local go_sem ↓] wp_alloc_hash wp_load_at
set_option maxHeartbeats 2000000 in
set_option maxRecDepth 100000 in
theorem check_no (size n : Int) (r : Tree.H) (s : ByteArray) (a : Option Addr) (m c : Nat) (w : World) (h : n < 0 ∨ size ≤ n) :
    Calls Tryd.prog 41 #[.int .i64 size, .agg (hashArr r), .int .i64 n, .string s, .slice a m c] w fun e w' => e = .returned (.bool false) ∧ Below w.heap.size w w' := by
  by_cases h0 : n < 0
  · have d0 : decide (n < 0) = true := by simpa using h0
    go_enter Tryd.func41, Tryd.ntmps41
    go_wp2_with fail
    go_ret
    exact ⟨rfl, (((Below.refl _ _).alloc (Nat.le_refl _) _).alloc (by simp) _).alloc (by simp; omega) _⟩
  · have d0 : decide (n < 0) = false := by simpa using h0
    have d1 : decide (size ≤ n) = true := by simp; omega
    go_enter Tryd.func41, Tryd.ntmps41
    go_wp2_with fail
    go_ret
    exact ⟨rfl, (((Below.refl _ _).alloc (Nat.le_refl _) _).alloc (by simp) _).alloc (by simp; omega) _⟩
/-- the memory in which CheckPath calls its walk -/
def pathWorld (w : World) (r : Tree.H) (s : ByteArray) (vp : Value) : World :=
  (((((((w.alloc (.cells (hashArr r) 24)).alloc (.cells #[.string s] 9)).alloc (.cells #[vp] 38)).alloc (.cells #[.int .i64 0] 3)).alloc (.cells #[.bool true] 4)).alloc
    (.cells #[.func (.func 57) #[] #[.pointer (some ⟨w.heap.size + 1 + 1 + 1, 0, none⟩), .pointer (some ⟨w.heap.size + 1 + 1, 0, none⟩), .pointer (some ⟨w.heap.size + 1 + 1 + 1 + 1, 0, none⟩)]] 83)).alloc
    (.cells #[.func (.func 58) #[] #[.pointer (some ⟨w.heap.size + 1, 0, none⟩), .pointer (some ⟨w.heap.size + 1 + 1 + 1 + 1 + 1 + 1, 0, none⟩), .pointer (some ⟨w.heap.size + 1 + 1 + 1 + 1 + 1, 0, none⟩)]] 84))
theorem pathWorld_below (w : World) (r : Tree.H) (s : ByteArray) (vp : Value) : Below w.heap.size w (pathWorld w r s vp) := by
  unfold pathWorld
  refine (((((((Below.refl _ _).alloc ?_ _).alloc ?_ _).alloc ?_ _).alloc ?_ _).alloc ?_ _).alloc ?_ _).alloc ?_ _ <;> simp <;> omega
theorem pathWorld_root (w : World) (r : Tree.H) (s : ByteArray) (vp : Value) : (pathWorld w r s vp).heap[w.heap.size]? = some (.cells (hashArr r) 24 (0, 0)) := by
  (show (((((((w.heap.push _).push _).push _).push _).push _).push _).push _)[_]? = _; repeat (first | exact push_new (by simp) | rw [push_old (by simp only [Array.size_push]; omega)]))
theorem pathWorld_vars (w : World) (r : Tree.H) (s : ByteArray) (vp : Value) : Vars w (w.heap.size + 1 + 1 + 1) (w.heap.size + 1 + 1 + 1 + 1) (w.heap.size + 1 + 1) 0 true vp (pathWorld w r s vp) := by
  refine ⟨pathWorld_below w r s vp, by omega, by omega, by omega, by omega, by omega, by omega, ?_, ?_, ?_⟩ <;> (show (((((((w.heap.push _).push _).push _).push _).push _).push _).push _)[_]? = _; repeat (first | exact push_new (by simp) | rw [push_old (by simp only [Array.size_push]; omega)]))
theorem pathWorld_boxes (w : World) (r : Tree.H) (s : ByteArray) (vp : Value) : Boxes w (w.heap.size + 1 + 1 + 1) (w.heap.size + 1 + 1 + 1 + 1) (w.heap.size + 1 + 1) (w.heap.size + 1) (w.heap.size + 1 + 1 + 1 + 1 + 1 + 1) (w.heap.size + 1 + 1 + 1 + 1 + 1) s (pathWorld w r s vp) := by
  refine ⟨cell_of_one (t := 9) ?_, cell_of_one (t := 84) ?_, cell_of_one (t := 83) ?_, by omega, by omega, by omega⟩ <;> (show (((((((w.heap.push _).push _).push _).push _).push _).push _).push _)[_]? = _; repeat (first | exact push_new (by simp) | rw [push_old (by simp only [Array.size_push]; omega)]))
set_option maxHeartbeats 4000000 in
set_option maxRecDepth 100000 in
theorem check_yes (f size n : Nat) (r x : Tree.H) (s : ByteArray) (a : Option Addr) (m c : Nat) (hs : List Tree.H) (w : World) (b : Bool) (hp : IsHs w (.slice a m c) hs) (hm : hs.length = m) (hT : Tabs w) (hsz : s.size ≤ 140737488354000) (hr : r.length = 32) (hx : Tree.leaf s = x) (hn : n < size) (hf : size ≤ 2 ^ f) (hb : size ≤ 9223372036854775807) (hfit : Tree.fits f size r n x hs = b) :
    Calls Tryd.prog 41 #[.int .i64 (size : Int), .agg (hashArr r), .int .i64 (n : Int), .string s, .slice a m c] w fun e w' => e = .returned (.bool b) ∧ Below w.heap.size w w' := by
  have d0 : decide ((n : Int) < 0) = false := by simp
  have d1 : decide ((size : Int) ≤ (n : Int)) = false := by simp; omega
  have lx : x.length = 32 := by rw [← hx]; exact Tree.leaf_length s
  rw [← Tree.fits_walk f size r n x hs hn] at hfit
  have lta := walk_length f x hs n size 0 true lx
  have ltu := walk_le f x hs n size 0 true (by omega)
  have CW := Lib.hid (walk1_any w (w.heap.size + 1 + 1 + 1) (w.heap.size + 1 + 1 + 1 + 1) (w.heap.size + 1 + 1) (w.heap.size + 1) (w.heap.size + 1 + 1 + 1 + 1 + 1 + 1) (w.heap.size + 1 + 1 + 1 + 1 + 1) (.slice a m c) hs s x hp hT hsz hx f size n 0 true _ (pathWorld w r s (.slice a m c)) (by omega) hn hf hb (by omega) (pathWorld_vars w r s _) (pathWorld_boxes w r s _) (Lib.hid rfl))
  generalize Tree.walk f x hs n size (0, true) = rr at hfit lta ltu CW
  obtain ⟨ta, tu, te⟩ := rr
  have HB := Lib.hid (pathWorld_below w r s (.slice a m c))
  have HR := Lib.hid (pathWorld_root w r s (.slice a m c))
  rw [hm] at hfit
  have HF := Lib.hid hfit
  have LTA := Lib.hid lta
  have LR := Lib.hid hr
  clear hp hT hsz hx hf lx hfit lta ltu hr hm
  go_enter Tryd.func41, Tryd.ntmps41
  go_wp2_with fail
  refine CW.out.mono ?_
  rintro ed w1 ⟨rfl, hk1, hv1⟩
  have LZ : Hid ((hashArr Tree.zero).size = 32) := by show _ = _; rw [hashArr_size]; exact zero_length
  have bw : Below w1.heap.size w1 (w1.alloc (.cells (hashArr ta) 24)) := (Below.refl _ _).alloc (Nat.le_refl _) _
  have hv2 := hv1.mono bw
  have hU := cell_of_one hv2.atU
  have hE := cell_of_one hv2.atE
  have hP := cell_of_one hv2.atP
  have hr1 := heap_below (hk1.heap HR.out (by omega) (by omega)) bw
  have ha1 := isHashAt LTA.out (heap_alloc_new w1 (.cells (hashArr ta) 24))
  have ha2 := hashOf_at (heap_alloc_new w1 (.cells (hashArr ta) 24))
  have ha3 := isHashAt LR.out hr1
  have ha4 := hashOf_at hr1
  have heq := fun W => hash_eql ta r LTA.out LR.out W
  have HV2 := Lib.hid hv2.below
  clear hv1 hv2 hk1 bw hr1
  cases te with
  | false =>
    go_wp2_with ((with_reducible refine op_is ⟨none, .store 24 (.tmp 15) (.tmp 28), _, _, _, _⟩ ?_); refine store_hash LTA.out LZ.out (.tmp 15) (.tmp 28) rfl rfl rfl rfl rfl ?_)
    go_ret
    exact ⟨ret_bool HF.out, HV2.out⟩
  | true =>
    by_cases htm : tu = m
    · subst htm
      have hq1 : ((tu : Int) == (tu : Int)) = true := by simp
      go_wp2_with ((with_reducible refine op_is ⟨none, .store 24 (.tmp 15) (.tmp 28), _, _, _, _⟩ ?_); refine store_hash LTA.out LZ.out (.tmp 15) (.tmp 28) rfl rfl rfl rfl rfl ?_)
      go_ret
      exact ⟨ret_bool (by have := HF.out; simpa using this), HV2.out⟩
    · have hq1 : ((tu : Int) == (m : Int)) = false := by simp; omega
      go_wp2_with ((with_reducible refine op_is ⟨none, .store 24 (.tmp 15) (.tmp 28), _, _, _, _⟩ ?_); refine store_hash LTA.out LZ.out (.tmp 15) (.tmp 28) rfl rfl rfl rfl rfl ?_)
      go_ret
      exact ⟨ret_bool (by rw [← HF.out, show (tu == m) = false by simpa using htm]; rfl), HV2.out⟩
end Go.Proofs.YtjedhmoehepbnaaDoor
