/- Contracts of New, Balance, Paid and of the law's post. -/
import Derived.Test.YtfligfompdcddaaGreatDoorLedMem
import Derived.Laws.StructEq
namespace Go.Proofs.YtfligfompdcddaaGreatDoor
open Go.RowKit Go.Sort Go.Maps
set_option linter.unusedVariables false
def Born (w : World) (e : Ending) (w' : World) : Prop := e = .returned (.pointer (some ⟨w.heap.size, 0, none⟩)) ∧ LedAt w' w.heap.size (.slice none 0 0) (.map none) (.map none) [] 0 ∧ Below w.heap.size w w'
set_option maxHeartbeats 1000000 in
theorem new_any (w : World) : Calls Tryz.prog 8 #[] w (Born w) := by
  have H := Lib.hid (heap_alloc_new w (.cells #[.slice none 0 0, .map none, .map none] 51))
  go_enter Tryz.func8, Tryz.ntmps8
  go_wp2_with fail
  go_ret
  exact ⟨rfl, ⟨H.out, ⟨rfl, .inl ⟨rfl, rfl⟩⟩, ⟨fun p hp => by simp at hp, by simp, List.Pairwise.nil⟩, .inl ⟨rfl, rfl, rfl⟩⟩, (Below.refl _ _).alloc (Nat.le_refl _) _⟩
set_option maxHeartbeats 1000000 in
theorem balance_any {w : World} {p : Nat} {vs vk vb : Value} {L : List Pst} {c : Nat} (h : LedAt w p vs vk vb L c) (a : ByteArray) (ha : a.size ≤ maxLen) :
    Calls Tryz.prog 13 #[.pointer (some ⟨p, 0, none⟩), .string a] w fun e w' => e = .returned (.int .i64 (Led.bal L a)) ∧ w' = w := by
  have c2 : w.cell? ⟨p, 2, none⟩ = some vb := (cell_of_row _ _ 2 _ _ _ h.cells).trans rfl
  have hl := h.bal ha
  clear h ha
  go_enter Tryz.func13, Tryz.ntmps13
  go_wp2_with fail
  go_ret
  exact ⟨rfl, rfl⟩
set_option maxHeartbeats 1000000 in
theorem paid_any {w : World} {p : Nat} {vs vk vb : Value} {L : List Pst} {c : Nat} (h : LedAt w p vs vk vb L c) (a : ByteArray) (ha : a.size ≤ maxLen) :
    Calls Tryz.prog 15 #[.pointer (some ⟨p, 0, none⟩), .string a] w fun e w' => e = .returned (.bool (keysF L a).isSome) ∧ w' = w := by
  have c1 : w.cell? ⟨p, 1, none⟩ = some vk := (cell_of_row _ _ 1 _ _ _ h.cells).trans rfl
  have hl := h.key ha
  generalize (keysF L a).isSome = kn at *
  generalize (keysF L a).getD 0 = ix at *
  clear h ha
  go_enter Tryz.func15, Tryz.ntmps15
  go_wp2_with fail
  go_ret
  exact ⟨rfl, rfl⟩
set_option maxHeartbeats 1000000 in
theorem lpost_any (k s d : ByteArray) (n : Int) (w : World) :
    Calls Tryz.prog 26 #[.string k, .string s, .string d, .int .i64 n] w fun e w' => e = .returned (.agg (Pst.mk k s d n).arr) ∧ Below w.heap.size w w' := by
  have H := Lib.hid (heap_alloc_new w (.cells #[.string k, .string s, .string d, .int .i64 n] 24))
  go_enter Tryz.func26, Tryz.ntmps26
  go_wp2_with fail
  refine bodyPost_ret (v := .agg (Pst.mk k s d n).arr) (results_cell_row Tryz.results26 _ _ w.heap.size 24 (Pst.mk k s d n).arr (0, 0) _ rfl H.out Tryz.underlying24 rfl (by kernel_rfl)) rfl ⟨rfl, (Below.refl _ _).alloc (Nat.le_refl _) _⟩
theorem toList_inj {a b : ByteArray} (h : a.toList = b.toList) : a = b := by
  rw [ByteArray.toList_eq, ByteArray.toList_eq] at h
  cases a; cases b
  simp at h
  rw [ByteArray.mk.injEq]; exact h
set_option maxRecDepth 100000 in
theorem pst_eql (x y : Pst) (w : World) : (binOp .eql 24 (.agg #[.string x.key, .string x.src, .string x.dst, .int .i64 x.amt]) (.agg #[.string y.key, .string y.src, .string y.dst, .int .i64 y.amt])).run Tryz.prog w = .ok (.bool (decide (x = y))) w := by
  have u3 := Tryz.underlying3
  have a3 := Tryz.isAgg3
  have z3 := Tryz.sizeOf3
  have u9 := Tryz.underlying9
  have a9 := Tryz.isAgg9
  have z9 := Tryz.sizeOf9
  have hS : Tryz.prog.underlying 24 = some (.struct (Tryz.prog.fieldsOf 24)) := by kernel_rfl
  have hp : Tryz.prog.stoodInHeld 24 = false := by kernel_rfl
  have key : (x = y) ↔ (x.key.toList = y.key.toList ∧ x.src.toList = y.src.toList ∧ x.dst.toList = y.dst.toList ∧ x.amt = y.amt) :=
    ⟨fun e => by rw [e]; simp, fun ⟨h1, h2, h3, h4⟩ => Pst.ext' (toList_inj h1) (toList_inj h2) (toList_inj h3) h4⟩
  have hd : decide (x = y) = decide (x.key.toList = y.key.toList ∧ x.src.toList = y.src.toList ∧ x.dst.toList = y.dst.toList ∧ x.amt = y.amt) := decide_eq_decide.2 key
  rw [hd, run_eql_struct, show (10000 : Nat) = 9999 + 1 from rfl, run_equalIn_agg w 9999 24 _ _ hS hp]
  simp only [Program.fieldsOf, Tryz.underlying24]
  go_simp
  by_cases h1 : x.key.toList = y.key.toList <;> by_cases h2 : x.src.toList = y.src.toList <;> by_cases h3 : x.dst.toList = y.dst.toList <;> by_cases h4 : x.amt = y.amt <;> simp [h1, h2, h3, h4]
end Go.Proofs.YtfligfompdcddaaGreatDoor
