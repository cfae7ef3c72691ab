/- Ledgers, models of ledgers and rows as things in memory. -/
import Derived.Test.YtfligfompdcddaaGreatDoorSep
import Derived.Test.YtfligfompdcddaaGreatDoorLedTwo
import Derived.Test.YtfligfompdcddaaGreatDoorLedText
namespace Go.Proofs.YtfligfompdcddaaGreatDoor
open Go.RowKit Go.Sort Go.Maps
set_option linter.unusedVariables false
theorem row_turned {w w' : World} {G : Nat → Prop} {base : Nat} {e : TypeId} {size : Nat} {v : Value} {n : Nat} {xs : List Value} (h : w.ownsRow base e size v n xs) (ht : Turned G w w') (hn : ∀ k, v.ownBlock = some k → ¬ G k) : w'.ownsRow base e size v n xs := by
  refine ⟨h.1, ?_⟩
  rcases h.2 with h1 | ⟨g, cap, cur, rfl, h1, h2, h3⟩
  · exact .inl h1
  · exact .inr ⟨g, cap, cur, rfl, h1, (ht.block g (Array.getElem?_eq_some_iff.1 h2).1 (hn g rfl)).trans h2, h3⟩
/-- a row of cells that the call owns -/
def RowT (e : TypeId) (size : Nat) (v : Value) (n : Nat) (xs : List Value) : Thing where
  On w F := w.ownsRow 0 e size v n xs ∧ ∀ k, F k ↔ v.ownBlock = some k
  lt := by
    rintro w F ⟨h1, h2⟩ k hk
    exact (rows_lt h1 k ((h2 k).1 hk)).2
  kept := by
    rintro w w' F G ⟨h1, h2⟩ ht hd
    exact ⟨row_turned h1 ht (fun k hk => hd k ((h2 k).2 hk)), h2⟩
abbrev PstT (v : Value) (ps : List Pst) : Thing := RowT 24 4 v ps.length (rowP ps)
abbrev StrT (v : Value) (ns : List (List UInt8)) : Thing := RowT 9 1 v ns.length (ns.map Go.Proofs.encStr)
/-- a ledger -/
def LedT (p : Nat) (L : List Pst) (c : Nat) : Thing where
  On w F := LedIn w p L c F
  lt := LedIn.lt
  kept := by
    rintro w w' F G ⟨vs, vk, vb, h1, rfl⟩ ht hd
    exact ⟨vs, vk, vb, h1.kept G ht hd, rfl⟩
/-- a model of a ledger -/
def RefT (m : Nat) (L : List Pst) : Thing where
  On w F := ∃ vs, w.heap[m]? = some (.cells #[vs] 60 (0, 0)) ∧ w.ownsRow 0 24 4 vs L.length (rowP L) ∧ Led.Ok L ∧ ∀ k, F k ↔ (k = m ∨ vs.ownBlock = some k)
  lt := by
    rintro w F ⟨vs, h1, h2, h3, h4⟩ k hk
    rcases (h4 k).1 hk with rfl | hk
    · exact (Array.getElem?_eq_some_iff.1 h1).1
    · exact (rows_lt h2 k hk).2
  kept := by
    rintro w w' F G ⟨vs, h1, h2, h3, h4⟩ ht hd
    exact ⟨vs, (ht.block m (Array.getElem?_eq_some_iff.1 h1).1 (hd m ((h4 m).2 (.inl rfl)))).trans h1, row_turned h2 ht (fun k hk => hd k ((h4 k).2 (.inr hk))), h3, h4⟩
theorem RowT.new {w : World} {B : Nat} {e : TypeId} {size : Nat} {v : Value} {n : Nat} {xs : List Value} (h : w.ownsRow B e size v n xs) : (RowT e size v n xs).On w (fun k => v.ownBlock = some k) ∧ ∀ k, v.ownBlock = some k → B ≤ k :=
  ⟨⟨ownsRow_base_a h (Nat.zero_le _), fun k => Iff.rfl⟩, fun k hk => (rows_lt h k hk).1⟩
/-- a row that a call has made -/
theorem Has.row {P : Thing} {w0 w w' : World} {e : TypeId} {size : Nat} {v : Value} {n : Nat} {xs : List Value} (h : Has P w0 w) (hb : Below w.heap.size w w') (hr : w'.ownsRow w.heap.size e size v n xs) : Has (P.both (RowT e size v n xs)) w0 w' :=
  h.new hb (RowT.new hr).1 (RowT.new hr).2
theorem Has.rowOf {e : TypeId} {size : Nat} {v : Value} {n : Nat} {xs : List Value} {w0 w : World} (h : Has (RowT e size v n xs) w0 w) : w.ownsRow 0 e size v n xs := let ⟨_, h, _⟩ := h; h.1
/-- the cells of a list of postings -/
theorem psts_cells {w : World} {B : Nat} {v : Value} {ps : List Pst} (h : w.ownsRow B 24 4 v ps.length (rowP ps)) : ∃ ao cap, v = .slice ao ps.length cap ∧ ∀ k q, ps[k]? = some q → ∃ g, ao = some ⟨g, 0, none⟩ ∧ ∀ j, j < 4 → w.cell? ⟨g, k * 4 + j, none⟩ = q.arr[j]? := by
  rcases h.2 with ⟨rfl, h0⟩ | ⟨g, cap, cur, rfl, _⟩
  · exact ⟨none, 0, by rw [h0], fun k q hq => by have := (List.getElem?_eq_some_iff.1 hq).1; omega⟩
  · refine ⟨_, cap, rfl, fun k q hq => ⟨g, rfl, fun j hj => ?_⟩⟩
    have hk := (List.getElem?_eq_some_iff.1 hq).1
    rw [h.cellAt (k * 4 + j) (by omega), rowP_get ps k j q hq hj]
/-- the cells of a list of strings -/
theorem strs_row {w : World} {B : Nat} {v : Value} {xs : List (List UInt8)} (h : w.ownsRow B 9 1 v xs.length (xs.map Go.Proofs.encStr)) : ∃ ao cap, v = .slice ao xs.length cap ∧ ∀ j x, xs[j]? = some x → ∃ g, ao = some ⟨g, 0, none⟩ ∧ w.cell? ⟨g, j, none⟩ = some (.string ⟨x.toArray⟩) := by
  rcases h.2 with ⟨rfl, h0⟩ | ⟨g, cap, cur, rfl, _⟩
  · exact ⟨none, 0, by rw [h0], fun j x hx => by have := (List.getElem?_eq_some_iff.1 hx).1; omega⟩
  · refine ⟨_, cap, rfl, fun j x hx => ⟨g, rfl, ?_⟩⟩
    have hk := (List.getElem?_eq_some_iff.1 hx).1
    rw [h.cellAt j (by omega), List.getElem?_map, hx]
    rfl
theorem LedT.ok {p : Nat} {L : List Pst} {c : Nat} {w0 w : World} (h : Has (LedT p L c) w0 w) : Led.Ok L := by
  obtain ⟨F, ⟨vs, vk, vb, h1, _⟩, _⟩ := h
  exact h1.ok
abbrev ArrQ (q : Pst) : Value := .agg #[.string q.key, .string q.src, .string q.dst, .int .i64 q.amt]
/-- contracts of a ledger's methods -/
theorem post_trip {p : Nat} {L L' : List Pst} {c : Nat} {n : Int} (q : Pst) (hp : Led.post L q = (n, L')) (hc : c ≤ 1000000000) (hz : q.key.size ≤ maxLen ∧ q.src.size ≤ maxLen ∧ q.dst.size ≤ maxLen) :
    Trip Tryz.prog (LedT p L c) 11 #[.pointer (some ⟨p, 0, none⟩), ArrQ q] fun e T => e = .returned (.int .i64 n) ∧ T = LedT p L' (c + 2) := by
  rintro w F ⟨vs, vk, vb, h1, rfl⟩
  refine (post_at h1 q hc hz).mono ?_
  rintro e w' ⟨F', rfl, q1, q2, q3⟩
  rw [hp] at *
  exact ⟨_, ⟨rfl, rfl⟩, F', q1, q2, q3⟩
theorem balance_on {p : Nat} {L : List Pst} {c : Nat} {w0 w : World} (h : Has (LedT p L c) w0 w) (a : ByteArray) (n : Int) (hn : Led.bal L a = n) (ha : a.size ≤ maxLen) :
    Calls Tryz.prog 13 #[.pointer (some ⟨p, 0, none⟩), .string a] w fun e w' => e = .returned (.int .i64 n) ∧ w' = w := by
  obtain ⟨F, ⟨vs, vk, vb, h1, _⟩, _⟩ := h
  rw [← hn]
  exact balance_any h1 a ha
theorem paid_on {p : Nat} {L : List Pst} {c : Nat} {w0 w : World} (h : Has (LedT p L c) w0 w) (a : ByteArray) (b : Bool) (hb : (Led.find L a).isSome = b) (ha : a.size ≤ maxLen) :
    Calls Tryz.prog 15 #[.pointer (some ⟨p, 0, none⟩), .string a] w fun e w' => e = .returned (.bool b) ∧ w' = w := by
  obtain ⟨F, ⟨vs, vk, vb, h1, _⟩, _⟩ := h
  refine (paid_any h1 a ha).mono ?_
  rintro e w' ⟨rfl, rfl⟩
  exact ⟨by rw [← hb]; unfold keysF; rw [Option.isSome_map], rfl⟩
theorem accounts_on {p : Nat} {L : List Pst} {c : Nat} {w0 w : World} (h : Has (LedT p L c) w0 w) (hl : L.length ≤ 1000) :
    Calls Tryz.prog 23 #[.pointer (some ⟨p, 0, none⟩)] w fun e w' => ∃ x, e = .returned x ∧ w'.ownsRow w.heap.size 9 1 x (Led.names L).length ((Led.names L).map Go.Proofs.encStr) ∧ Below w.heap.size w w' := by
  obtain ⟨F, ⟨vs, vk, vb, h1, _⟩, _⟩ := h
  refine (accounts_any h1 hl).mono ?_
  rintro e w' ⟨x, ns, rfl, s1, s2, s3, s4, s5⟩
  obtain rfl := Led.names_of s1 s2
  exact ⟨x, rfl, s4, s5⟩
theorem list_on {p : Nat} {L : List Pst} {c : Nat} {w0 w : World} (h : Has (LedT p L c) w0 w) :
    Calls Tryz.prog 19 #[.pointer (some ⟨p, 0, none⟩)] w fun e w' => ∃ v', e = .returned v' ∧ w'.ownsRow w.heap.size 24 4 v' L.length (rowP L) ∧ Below w.heap.size w w' := by
  obtain ⟨F, ⟨vs, vk, vb, h1, _⟩, _⟩ := h
  exact list_any h1
theorem new_trip (w0 w : World) (P : Thing) (h : Has P w0 w) : Calls Tryz.prog 8 #[] w fun e w' => ∃ p, e = .returned (.pointer (some ⟨p, 0, none⟩)) ∧ Has (P.both (LedT p [] 0)) w0 w' := by
  refine (new_any w).mono ?_
  rintro e w' ⟨rfl, h1, h2⟩
  refine ⟨_, rfl, h.new h2 (Q := LedT w.heap.size [] 0) (G := Foot w.heap.size (.slice none 0 0) (.map none) (.map none)) ⟨_, _, _, h1, rfl⟩ ?_⟩
  rintro k (rfl | hk | hk | hk)
  · exact Nat.le_refl _
  · cases hk
  · cases hk
  · cases hk
/-- the empty thing -/
def Thing.nil : Thing where
  On w F := ∀ k, ¬ F k
  lt := fun h k hk => absurd hk (h k)
  kept := fun h _ _ => h
theorem Has.nil {w0 w : World} (h : Below w0.heap.size w0 w) : Has Thing.nil w0 w := ⟨fun _ => False, fun k h => h, fun k h => h.elim, h⟩
end Go.Proofs.YtfligfompdcddaaGreatDoor
