/- A ledger of the call's own beside a list of postings of the call's own. -/
import Derived.Test.YtfligfompdcddaaGreatDoorLedClone
import Derived.Test.YtfligfompdcddaaGreatDoorLedPlain
namespace Go.Proofs.YtfligfompdcddaaGreatDoor
open Go.RowKit Go.Sort Go.Maps
set_option linter.unusedVariables false
/-- .. the list at v: ps -/
def Own2 (B p : Nat) (L : List Pst) (c : Nat) (v : Value) (ps : List Pst) (w0 w : World) : Prop :=
  ∃ F, LedIn w p L c F ∧ (∀ k, F k → B ≤ k) ∧ Below B w0 w ∧ w.ownsRow B 24 4 v ps.length (rowP ps) ∧ ∀ b, v.ownBlock = some b → ¬ F b
theorem Own2.size {B p : Nat} {L : List Pst} {c : Nat} {v : Value} {ps : List Pst} {w0 w : World} (h : Own2 B p L c v ps w0 w) : B ≤ w.heap.size := by
  obtain ⟨F, h1, h2, h3⟩ := h
  have := h1.lt p h1.fp
  have := h2 p h1.fp
  omega
theorem Own2.base {B p : Nat} {L : List Pst} {c : Nat} {v : Value} {ps : List Pst} {w0 w : World} (h : Own2 B p L c v ps w0 w) : Below B w0 w := by
  obtain ⟨F, h1, h2, h3, _⟩ := h
  exact h3
theorem Own2.below {B p : Nat} {L : List Pst} {c : Nat} {v : Value} {ps : List Pst} {w0 w w' : World} (h : Own2 B p L c v ps w0 w) (hb : Below w.heap.size w w') : Own2 B p L c v ps w0 w' := by
  have hs := h.size
  obtain ⟨F, h1, h2, h3, h4, h5⟩ := h
  exact ⟨F, h1.below hb, h2, h3.trans (hb.mono hs), rows_below h4 hb, h5⟩
theorem Own2.start {B p : Nat} {L : List Pst} {c : Nat} {v : Value} {ps : List Pst} {w0 w w' : World} (h : Own B p L c w0 w) (hb : Below w.heap.size w w') (hv : w'.ownsRow w.heap.size 24 4 v ps.length (rowP ps)) : Own2 B p L c v ps w0 w' := by
  have hs := h.size
  obtain ⟨F, h1, h2, h3⟩ := h
  exact ⟨F, h1.below hb, h2, h3.trans (hb.mono hs), ownsRow_base_a hv hs, fun b e f => by have := (rows_lt hv b e).1; have := h1.lt b f; omega⟩
theorem Own2.cellsq {B p : Nat} {L : List Pst} {c : Nat} {v : Value} {ps : List Pst} {w0 w : World} (h : Own2 B p L c v ps w0 w) : ∃ ao cap, v = .slice ao ps.length cap ∧ ∀ k q, ps[k]? = some q → ∃ g, ao = some ⟨g, 0, none⟩ ∧ ∀ j, j < 4 → w.cell? ⟨g, k * 4 + j, none⟩ = q.arr[j]? := by
  obtain ⟨F, h1, h2, h3, h4, h5⟩ := h
  rcases h4.2 with ⟨rfl, h0⟩ | ⟨g, cap, cur, rfl, _⟩
  · exact ⟨none, 0, by rw [h0], fun k q hq => by have := (List.getElem?_eq_some_iff.1 hq).1; omega⟩
  · refine ⟨_, cap, rfl, fun k q hq => ⟨g, rfl, fun j hj => ?_⟩⟩
    have hk := (List.getElem?_eq_some_iff.1 hq).1
    rw [h4.cellAt (k * 4 + j) (by omega), rowP_get ps k j q hq hj]
theorem Own2.ok {B p : Nat} {L : List Pst} {c : Nat} {v : Value} {ps : List Pst} {w0 w : World} (h : Own2 B p L c v ps w0 w) : Led.Ok L := by
  obtain ⟨F, ⟨vs, vk, vb, h1, rfl⟩, _⟩ := h
  exact h1.ok
theorem post_two {B p : Nat} {L L' : List Pst} {c : Nat} {v : Value} {ps : List Pst} {w0 w : World} (h : Own2 B p L c v ps w0 w) (q : Pst) (n : Int) (hp : Led.post L q = (n, L')) (hc : c ≤ 1000000000) (hz : q.key.size ≤ maxLen ∧ q.src.size ≤ maxLen ∧ q.dst.size ≤ maxLen) :
    Calls Tryz.prog 11 #[.pointer (some ⟨p, 0, none⟩), .agg #[.string q.key, .string q.src, .string q.dst, .int .i64 q.amt]] w fun e w' => e = .returned (.int .i64 n) ∧ Own2 B p L' (c + 2) v ps w0 w' := by
  have hs := h.size
  obtain ⟨F, ⟨vs, vk, vb, h1, rfl⟩, h2, h3, h4, h5⟩ := h
  refine (post_at h1 q hc hz).mono ?_
  rintro e w' ⟨F', rfl, q1, q2, q3⟩
  rw [hp] at *
  refine ⟨rfl, F', q1, fun k hk => ?_, h3.trans (q2.below hs h2), ?_, fun b e f => ?_⟩
  · rcases q3 k hk with g | g
    · exact h2 k g
    · omega
  · rcases h4.2 with hn | ⟨g, cap, cur, rfl, i1, i2, i3⟩
    · exact ⟨h4.1, .inl hn⟩
    · exact ⟨h4.1, .inr ⟨g, cap, cur, rfl, i1, (q2.block g (Array.getElem?_eq_some_iff.1 i2).1 (h5 g rfl)).trans i2, i3⟩⟩
  · rcases q3 b f with g | g
    · exact h5 b e g
    · have := (rows_lt h4 b e).2; omega
theorem balance_two {B p : Nat} {L : List Pst} {c : Nat} {v : Value} {ps : List Pst} {w0 w : World} (h : Own2 B p L c v ps w0 w) (a : ByteArray) (n : Int) (hn : Led.bal L a = n) (ha : a.size ≤ maxLen) :
    Calls Tryz.prog 13 #[.pointer (some ⟨p, 0, none⟩), .string a] w fun e w' => e = .returned (.int .i64 n) ∧ w' = w := by
  obtain ⟨F, h1, h2, h3, h4, h5⟩ := h
  refine (balance_own ⟨F, h1, h2, h3⟩ a n hn ha).mono ?_
  rintro e w' ⟨rfl, rfl⟩
  exact ⟨rfl, rfl⟩
theorem accounts_two {B p : Nat} {L : List Pst} {c : Nat} {v : Value} {ps : List Pst} {w0 w : World} (h : Own2 B p L c v ps w0 w) (hl : L.length ≤ 1000) :
    Calls Tryz.prog 23 #[.pointer (some ⟨p, 0, none⟩)] w fun e w' => ∃ (x : Value) (ns : List (List UInt8)), e = .returned x ∧ ns.Pairwise (· < ·) ∧ (∀ x, x ∈ ns ↔ x ∈ Led.named L) ∧ ns.length ≤ 2 * L.length ∧
      w'.ownsRow w.heap.size 9 1 x ns.length (ns.map Go.Proofs.encStr) ∧ Below w.heap.size w w' := by
  obtain ⟨F, ⟨vs, vk, vb, h1, rfl⟩, h2, h3, h4, h5⟩ := h
  exact accounts_any h1 hl
theorem list_two {B p : Nat} {L : List Pst} {c : Nat} {v : Value} {ps : List Pst} {w0 w : World} (h : Own2 B p L c v ps w0 w) :
    Calls Tryz.prog 19 #[.pointer (some ⟨p, 0, none⟩)] w fun e w' => ∃ v', e = .returned v' ∧ Own2 B p L c v' L w0 w' := by
  have hs := h.size
  obtain ⟨F, hL, h2, h3, h4, h5⟩ := h
  have hL' := hL
  obtain ⟨vs, vk, vb, h1, rfl⟩ := hL
  refine (list_any h1).mono ?_
  rintro e w' ⟨v', rfl, i1, i2⟩
  exact ⟨v', rfl, Own2.start ⟨_, hL', h2, h3⟩ i2 i1⟩
theorem named_size {L : List Pst} (h : ∀ p ∈ L, Led.right p = true) {x : List UInt8} (hx : x ∈ Led.named L) : x.length ≤ 100 := by
  obtain ⟨q, hq, hx⟩ := List.mem_flatMap.1 hx
  have h1 := Led.right_sizes (h q hq)
  simp only [ByteArray.size] at h1
  rcases List.mem_cons.1 hx with rfl | hx
  · rw [Array.length_toList]; exact h1.2.1
  · rw [List.mem_singleton.1 hx, Array.length_toList]; exact h1.2.2
end Go.Proofs.YtfligfompdcddaaGreatDoor
