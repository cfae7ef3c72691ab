/- A ledger in memory. -/
import Derived.Test.YtfligfompdcddaaGreatDoorLed
import Derived.Laws.AppendOwn
namespace Go.Proofs.YtfligfompdcddaaGreatDoor
open Go.RowKit Go.Sort Go.Maps
set_option linter.unusedVariables false
theorem heap_below {W w1 : World} {b : Nat} {o : Obj} (h : W.heap[b]? = some o) (hb : Below W.heap.size W w1) : w1.heap[b]? = some o := by
  rcases Nat.lt_or_ge b W.heap.size with hl | hl
  · rw [hb.block b hl]; exact h
  · rw [Array.getElem?_eq_none hl] at h; cases h
def rowP (L : List Pst) : List Value := L.flatMap fun p => p.arr.toList
theorem rowP_length (L : List Pst) : (rowP L).length = L.length * 4 := by
  induction L with
  | nil => rfl
  | cons p L ih => simp only [rowP, List.flatMap_cons, List.length_append] at ih ⊢; rw [ih]; simp [Pst.arr]; omega
theorem rowP_snoc (L : List Pst) (p : Pst) : rowP (L ++ [p]) = rowP L ++ p.arr.toList := by simp [rowP]
theorem rowP_get (L : List Pst) (i j : Nat) (p : Pst) (hi : L[i]? = some p) (hj : j < 4) : (rowP L)[i * 4 + j]? = p.arr[j]? := by
  induction L generalizing i with
  | nil => simp at hi
  | cons q L ih =>
    have e : rowP (q :: L) = q.arr.toList ++ rowP L := rfl
    have l4 : q.arr.toList.length = 4 := rfl
    rw [e, List.getElem?_append, l4]
    cases i with
    | zero =>
      simp only [List.getElem?_cons_zero, Option.some.injEq] at hi
      subst hi
      rw [if_pos (by omega), Nat.zero_mul, Nat.zero_add, Array.getElem?_toList]
    | succ i =>
      rw [if_neg (by omega), show (i + 1) * 4 + j - 4 = i * 4 + j by omega]
      exact ih i (by simpa using hi)
/-- the block to which a slice or a map leads -/
def blkOf : Value → Option Nat
  | .slice (some a) _ _ => some a.block
  | .map (some b) => some b
  | _ => none
/-- the blocks of a ledger -/
def Foot (p : Nat) (vs vk vb : Value) (k : Nat) : Prop := k = p ∨ blkOf vs = some k ∨ blkOf vk = some k ∨ blkOf vb = some k
/-- of what was there only blocks of F may have turned -/
structure Turned (F : Nat → Prop) (w w' : World) : Prop where
  os : w'.os = w.os
  tape : w'.tape = w.tape
  output : w'.output = w.output
  size : w.heap.size ≤ w'.heap.size
  block : ∀ k, k < w.heap.size → ¬ F k → w'.heap[k]? = w.heap[k]?
theorem Turned.of_grown {F : Nat → Prop} {w w' : World} {row : Option Nat} (h : w.grownBy w' row) (hr : ∀ k, row = some k → F k) : Turned F w w' :=
  ⟨h.os, h.tape, h.output, h.size, fun k hk hn => h.block k hk (fun e => hn (hr k e.symm))⟩
theorem Turned.of_below {F : Nat → Prop} {w w' : World} (h : Below w.heap.size w w') : Turned F w w' := ⟨h.os, h.tape, h.output, h.size, fun k hk _ => h.block k hk⟩
/-- .. one after the other: what is new in between may turn -/
theorem Turned.trans {F G : Nat → Prop} {w w1 w2 : World} (h : Turned F w w1) (h' : Turned G w1 w2) (hG : ∀ k, G k → F k ∨ w.heap.size ≤ k) : Turned F w w2 :=
  ⟨h'.os.trans h.os, h'.tape.trans h.tape, h'.output.trans h.output, Nat.le_trans h.size h'.size, fun k hk hn => (h'.block k (Nat.lt_of_lt_of_le hk h.size) (fun g => by rcases hG k g with h1 | h1; exact hn h1; omega)).trans (h.block k hk hn)⟩
theorem Turned.below {F : Nat → Prop} {w w' : World} {B : Nat} (h : Turned F w w') (hB : B ≤ w.heap.size) (hF : ∀ k, F k → B ≤ k) : Below B w w' :=
  ⟨h.os, h.tape, h.output, h.size, fun k hk => h.block k (by omega) (fun f => by have := hF k f; omega)⟩
/-- the numbers of the keys, the balances -/
def keysF (L : List Pst) : Sf := fun k => (Led.find L k).map Int.ofNat
structure LedAt (w : World) (p : Nat) (vs vk vb : Value) (L : List Pst) (c : Nat) : Prop where
  cells : w.heap[p]? = some (.cells #[vs, vk, vb] 51 (0, 0))
  row : w.ownsRow 0 24 4 vs L.length (rowP L)
  ok : Led.Ok L
  maps : (vk = .map none ∧ vb = .map none ∧ L = []) ∨ ∃ bk bb f, vk = .map (some bk) ∧ vb = .map (some bb) ∧ bk ≠ bb ∧ MapAt w bk c (keysF L) ∧ MapAt w bb c f ∧ ∀ a, (f a).getD 0 = Led.bal L a
/-- block p is a ledger with postings L; F: its blocks -/
def LedIn (w : World) (p : Nat) (L : List Pst) (c : Nat) (F : Nat → Prop) : Prop := ∃ vs vk vb, LedAt w p vs vk vb L c ∧ F = Foot p vs vk vb
theorem LedAt.kept {w w' : World} {p : Nat} {vs vk vb : Value} {L : List Pst} {c : Nat} (h : LedAt w p vs vk vb L c) (G : Nat → Prop) (ht : Turned G w w') (hd : ∀ k, Foot p vs vk vb k → ¬ G k) : LedAt w' p vs vk vb L c := by
  have hb : ∀ k, Foot p vs vk vb k → k < w.heap.size → w'.heap[k]? = w.heap[k]? := fun k hk hl => ht.block k hl (hd k hk)
  refine ⟨(hb p (.inl rfl) (Array.getElem?_eq_some_iff.1 h.cells).1).trans h.cells, ⟨h.row.1, ?_⟩, h.ok, ?_⟩
  · rcases h.row.2 with h1 | ⟨g, cap, cur, rfl, h1, h2, h3⟩
    · exact .inl h1
    · exact .inr ⟨g, cap, cur, rfl, h1, (hb g (.inr (.inl rfl)) (Array.getElem?_eq_some_iff.1 h2).1).trans h2, h3⟩
  · rcases h.maps with h1 | ⟨bk, bb, f, rfl, rfl, hne, m1, m2, hf⟩
    · exact .inl h1
    · refine .inr ⟨bk, bb, f, rfl, rfl, hne, ?_, ?_, hf⟩
      · obtain ⟨D, ⟨es, clock, e1, e2⟩, e3⟩ := m1
        exact ⟨D, ⟨es, clock, (hb bk (.inr (.inr (.inl rfl))) (Array.getElem?_eq_some_iff.1 e1).1).trans e1, e2⟩, e3⟩
      · obtain ⟨D, ⟨es, clock, e1, e2⟩, e3⟩ := m2
        exact ⟨D, ⟨es, clock, (hb bb (.inr (.inr (.inr rfl))) (Array.getElem?_eq_some_iff.1 e1).1).trans e1, e2⟩, e3⟩
theorem LedAt.below {w w' : World} {p : Nat} {vs vk vb : Value} {L : List Pst} {c : Nat} (h : LedAt w p vs vk vb L c) (hb : Below w.heap.size w w') : LedAt w' p vs vk vb L c :=
  h.kept (fun _ => False) (Turned.of_below hb) (fun _ _ f => f)
theorem LedAt.foot_lt {w : World} {p : Nat} {vs vk vb : Value} {L : List Pst} {c : Nat} (h : LedAt w p vs vk vb L c) : ∀ k, Foot p vs vk vb k → k < w.heap.size := by
  intro k hk
  rcases hk with rfl | hk | hk | hk
  · exact (Array.getElem?_eq_some_iff.1 h.cells).1
  · rcases h.row.2 with ⟨rfl, _⟩ | ⟨g, cap, cur, rfl, h1, h2, h3⟩
    · cases hk
    · injection hk with hk; subst hk; exact (Array.getElem?_eq_some_iff.1 h2).1
  · rcases h.maps with ⟨rfl, _⟩ | ⟨bk, bb, f, rfl, rfl, hne, m1, m2, hf⟩
    · cases hk
    · injection hk with hk; subst hk; exact m1.lt
  · rcases h.maps with ⟨_, rfl, _⟩ | ⟨bk, bb, f, rfl, rfl, hne, m1, m2, hf⟩
    · cases hk
    · injection hk with hk; subst hk; exact m2.lt
/-- what a look-up of a key, and of an account, gives -/
theorem LedAt.key {w : World} {p : Nat} {vs vk vb : Value} {L : List Pst} {c : Nat} (h : LedAt w p vs vk vb L c) {s : ByteArray} (hs : s.size ≤ maxLen) :
    (Instr.lookup 49 vk (.string s) true).run Tryz.prog w = .ok (.tuple #[.int .i64 ((keysF L s).getD 0), .bool (keysF L s).isSome]) w := by
  rcases h.maps with ⟨rfl, _, rfl⟩ | ⟨bk, bb, f, rfl, rfl, hne, m1, m2, hf⟩
  · exact look_none_ok hs w
  · exact m1.look_ok hs
theorem LedAt.bal {w : World} {p : Nat} {vs vk vb : Value} {L : List Pst} {c : Nat} (h : LedAt w p vs vk vb L c) {s : ByteArray} (hs : s.size ≤ maxLen) :
    (Instr.lookup 49 vb (.string s) false).run Tryz.prog w = .ok (.int .i64 (Led.bal L s)) w := by
  rcases h.maps with ⟨_, rfl, rfl⟩ | ⟨bk, bb, f, rfl, rfl, hne, m1, m2, hf⟩
  · exact look_none hs w
  · rw [m2.look hs, hf]
end Go.Proofs.YtfligfompdcddaaGreatDoor
