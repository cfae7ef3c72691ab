/- Rows that a walk writes over: what is there stays there, and nothing else turns. A kind of rows for members, and zero values. -/
import Derived.Test.YtpblfpnldbdncaaGreatDoorCloneK
namespace Go.Proofs.YtpblfpnldbdncaaGreatDoor
open Go.RowKit Go.Sort Go.Maps
open Sg (Rc)
open Mg (Mst Jd H Pap Sale Pos zeroH)
set_option linter.unusedVariables false
set_option maxRecDepth 100000
/-- a slice of a row whose cells may be written, whatever they are -/
def WideT (v : Value) (n : Nat) : Thing where
  On w F := (∀ b, v.ownBlock = some b → b < w.heap.size ∧ w.there b 0 n) ∧ ∀ k, F k ↔ v.ownBlock = some k
  lt := by
    rintro w F ⟨h1, h2⟩ k hk
    exact (h1 k ((h2 k).1 hk)).1
  kept := by
    rintro w w' F G ⟨h1, h2⟩ ht hd
    refine ⟨fun b hb => ?_, h2⟩
    obtain ⟨a1, a2⟩ := h1 b hb
    have hh := ht.block b a1 (hd b ((h2 b).2 hb))
    refine ⟨Nat.lt_of_lt_of_le a1 ht.size, fun j hj => ?_⟩
    obtain ⟨c1, c2⟩ := a2 j hj
    unfold World.cell? at c1 ⊢
    unfold World.frozen? at c2 ⊢
    simp only at c1 c2 ⊢
    rw [hh]
    exact ⟨c1, c2⟩
theorem wide_of_rows {P : Program} {α : Type} {R : Rk P α} {v : Value} {xs : List α} {n : Nat} (hn : xs.length * R.size = n) {w : World} {F : Nat → Prop} (h : (RowsT R v xs).On w F) : (WideT v n).On w F := by
  obtain ⟨h1, h2⟩ := h
  refine ⟨fun b hb => ?_, h2⟩
  rcases h1.2.2 with ⟨rfl, _⟩ | ⟨g, cap, cur, rfl, hg, hc, hnc, hcm, hsz, htk⟩
  · cases hb
  · have e : g = b := by simpa [Value.ownBlock] using hb
    subst e
    refine ⟨(Array.getElem?_eq_some_iff.1 hc).1, fun j hj => ?_⟩
    have hj2 : j < cur.size := by
      rw [hsz]
      have := Nat.mul_le_mul_right R.size hnc
      omega
    rw [Nat.zero_add]
    refine ⟨?_, frozen_of_row _ _ _ _ _ hc⟩
    rw [cell_of_row _ _ _ _ _ _ hc, Array.getElem?_eq_getElem hj2]
    rfl
theorem Has.wide {A : Thing} {P : Program} {α : Type} {R : Rk P α} {v : Value} {xs : List α} {w0 w : World} (h : Has (A.both (RowsT R v xs)) w0 w) {n : Nat} (hn : xs.length * R.size = n) : Has (A.both (WideT v n)) w0 w := h.mapRight (wide_of_rows hn)
theorem Has.wideAt {g n cap m : Nat} {w0 w : World} (h : Has (WideT (.slice (some ⟨g, 0, none⟩) m cap) n) w0 w) : g < w.heap.size ∧ w.there g 0 n := by
  obtain ⟨F, ⟨h1, h2⟩, _⟩ := h
  exact h1 g rfl
theorem there_part {w : World} {g n o m : Nat} (h : w.there g 0 n) (hm : o + m ≤ n) : w.there g o m := fun j hj => by
  have := h (o + j) (by omega)
  rwa [Nat.zero_add] at this
theorem turned_setCells (w : World) (g o : Nat) (vs : List Value) : Turned (fun k => k = g) w (w.setCells g o vs) :=
  (Turned.of_below (Below.refl _ _)).setCells (F := fun k => k = g) (.inl rfl) vs o
/-- a write into such a row -/
theorem Has.wipe {A : Thing} {g n cap m : Nat} {w0 w : World} (h : Has (A.both (WideT (.slice (some ⟨g, 0, none⟩) m cap) n)) w0 w) (o : Nat) (vs : List Value) : Has (A.both (WideT (.slice (some ⟨g, 0, none⟩) m cap) n)) w0 (w.setCells g o vs) := by
  obtain ⟨F, ⟨F1, F2, h1, ⟨h2, h2'⟩, h3, h4⟩, h5, h6⟩ := h
  have ht := turned_setCells w g o vs
  have hg : ∀ k, k = g → F2 k := fun k e => (h2' k).2 (by rw [e]; rfl)
  refine ⟨F, ⟨F1, F2, A.kept h1 ht (fun k hk e => h3 k hk (hg k e)), ⟨fun b hb => ?_, h2'⟩, h3, h4⟩, h5, h6.trans (ht.below h6.size fun k e => h5 k ((h4 k).2 (.inr (hg k e))))⟩
  obtain ⟨a1, a2⟩ := h2 b hb
  exact ⟨Nat.lt_of_lt_of_le a1 ht.size, World.there_setCells a2 g o vs⟩
/-- a whole variable, written over -/
theorem wide_of_blk {b n m cap : Nat} {cs : Array Value} {t : TypeId} (hs : cs.size = n) {w : World} {F : Nat → Prop} (h : (BlkT b (.cells cs t (0, 0))).On w F) : (WideT (.slice (some ⟨b, 0, none⟩) m cap) n).On w F := by
  obtain ⟨h1, h2⟩ := h
  refine ⟨fun b' hb => ?_, fun k => ?_⟩
  · have e : b = b' := by simpa [Value.ownBlock] using hb
    subst e
    refine ⟨(Array.getElem?_eq_some_iff.1 h1).1, fun j hj => ?_⟩
    rw [Nat.zero_add]
    refine ⟨?_, frozen_of_row _ _ _ _ _ h1⟩
    rw [cell_of_row _ _ _ _ _ _ h1, Array.getElem?_eq_getElem (by omega)]
    rfl
  · rw [h2 k]
    show k = b ↔ some b = some k
    constructor
    · rintro rfl; rfl
    · intro e; injection e with e; exact e.symm
end Go.Proofs.YtpblfpnldbdncaaGreatDoor
