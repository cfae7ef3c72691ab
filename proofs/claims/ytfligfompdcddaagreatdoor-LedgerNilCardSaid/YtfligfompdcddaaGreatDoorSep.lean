/- Things in memory, side by side: each with the blocks that are its own. -/
import Derived.Test.YtfligfompdcddaaGreatDoorLedMid
namespace Go.Proofs.YtfligfompdcddaaGreatDoor
open Go.RowKit
set_option linter.unusedVariables false
/-- a thing: what lies in the blocks F; it stays while these stay -/
structure Thing where
  On : World → (Nat → Prop) → Prop
  lt : ∀ {w : World} {F : Nat → Prop}, On w F → ∀ k, F k → k < w.heap.size
  kept : ∀ {w w' : World} {F G : Nat → Prop}, On w F → Turned G w w' → (∀ k, F k → ¬ G k) → On w' F
/-- two things beside each other -/
def Thing.both (P Q : Thing) : Thing where
  On w F := ∃ F1 F2, P.On w F1 ∧ Q.On w F2 ∧ (∀ k, F1 k → ¬ F2 k) ∧ ∀ k, F k ↔ (F1 k ∨ F2 k)
  lt := by
    rintro w F ⟨F1, F2, h1, h2, h3, h4⟩ k hk
    rcases (h4 k).1 hk with h | h
    · exact P.lt h1 k h
    · exact Q.lt h2 k h
  kept := by
    rintro w w' F G ⟨F1, F2, h1, h2, h3, h4⟩ ht hd
    exact ⟨F1, F2, P.kept h1 ht (fun k h => hd k ((h4 k).2 (.inl h))), Q.kept h2 ht (fun k h => hd k ((h4 k).2 (.inr h))), h3, h4⟩
theorem Thing.below (P : Thing) {w w' : World} {F : Nat → Prop} (h : P.On w F) (hb : Below w.heap.size w w') : P.On w' F :=
  P.kept (G := fun _ => False) h (Turned.of_below hb) (fun _ _ f => f)
/-- what a call may do to a thing in F: there is another thing, in blocks of F or new ones; nothing else has turned -/
def Stp (P : Thing) (F : Nat → Prop) (w w' : World) : Prop := ∃ F', P.On w' F' ∧ Turned F w w' ∧ ∀ k, F' k → F k ∨ w.heap.size ≤ k
theorem Stp.keep (P : Thing) {w w' : World} {F : Nat → Prop} (h : P.On w F) (hb : Below w.heap.size w w') : Stp P F w w' :=
  ⟨F, P.below h hb, ⟨hb.os, hb.tape, hb.output, hb.size, fun k hk _ => hb.block k hk⟩, fun k hk => .inl hk⟩
theorem Turned.iff {F G : Nat → Prop} {w w' : World} (h : Turned F w w') (hi : ∀ k, F k → G k) : Turned G w w' := ⟨h.os, h.tape, h.output, h.size, fun k hk hn => h.block k hk (fun f => hn (hi k f))⟩
/-- a thing that is new beside one that stays -/
theorem Stp.new {P Q : Thing} {w w' : World} {F G : Nat → Prop} (h : P.On w F) (hb : Below w.heap.size w w') (hq : Q.On w' G) (hG : ∀ k, G k → w.heap.size ≤ k) : Stp (P.both Q) F w w' :=
  ⟨fun k => F k ∨ G k, ⟨F, G, P.below h hb, hq, fun k hk hg => by have := P.lt h k hk; have := hG k hg; omega, fun k => Iff.rfl⟩, ⟨hb.os, hb.tape, hb.output, hb.size, fun k hk _ => hb.block k hk⟩,
    fun k hk => hk.elim .inl (fun g => .inr (hG k g))⟩
/-- beside another thing -/
theorem Stp.left {P' Q : Thing} {w w' : World} {F F1 F2 : Nat → Prop} (h2 : Q.On w F2) (h3 : ∀ k, F1 k → ¬ F2 k) (h4 : ∀ k, F k ↔ (F1 k ∨ F2 k)) (h : Stp P' F1 w w') : Stp (P'.both Q) F w w' := by
  obtain ⟨F', a1, a2, a3⟩ := h
  refine ⟨fun k => F' k ∨ F2 k, ⟨F', F2, a1, Q.kept h2 a2 (fun k hk h => h3 k h hk), fun k hk hk2 => ?_, fun k => Iff.rfl⟩, a2.iff (fun k hk => (h4 k).2 (.inl hk)), fun k hk => ?_⟩
  · rcases a3 k hk with g | g
    · exact h3 k g hk2
    · have := Q.lt h2 k hk2; omega
  · rcases hk with hk | hk
    · exact (a3 k hk).elim (fun g => .inl ((h4 k).2 (.inl g))) .inr
    · exact .inl ((h4 k).2 (.inr hk))
theorem Thing.swap {P Q : Thing} {w : World} {F : Nat → Prop} (h : (P.both Q).On w F) : (Q.both P).On w F :=
  let ⟨F1, F2, h1, h2, h3, h4⟩ := h
  ⟨F2, F1, h2, h1, fun k hk hk1 => h3 k hk1 hk, fun k => (h4 k).trans Or.comm⟩
theorem Stp.swap {P Q : Thing} {w w' : World} {F : Nat → Prop} (h : Stp (P.both Q) F w w') : Stp (Q.both P) F w w' :=
  let ⟨F', h1, h2, h3⟩ := h
  ⟨F', Thing.swap h1, h2, h3⟩
theorem Thing.assoc {P Q R : Thing} {w : World} {F : Nat → Prop} (h : ((P.both Q).both R).On w F) : (P.both (Q.both R)).On w F := by
  obtain ⟨G, F3, ⟨F1, F2, h1, h2, h3, h4⟩, h5, h6, h7⟩ := h
  refine ⟨F1, fun k => F2 k ∨ F3 k, h1, ⟨F2, F3, h2, h5, fun k hk => h6 k ((h4 k).2 (.inr hk)), fun k => Iff.rfl⟩, fun k hk g => ?_, fun k => ?_⟩
  · rcases g with g | g
    · exact h3 k hk g
    · exact h6 k ((h4 k).2 (.inl hk)) g
  · rw [h7 k, h4 k, or_assoc]
/-- what the call has of its own, in a world that came of w0 -/
def Has (P : Thing) (w0 w : World) : Prop := ∃ F, P.On w F ∧ (∀ k, F k → w0.heap.size ≤ k) ∧ Below w0.heap.size w0 w
theorem Has.base {P : Thing} {w0 w : World} (h : Has P w0 w) : Below w0.heap.size w0 w := let ⟨_, _, _, h⟩ := h; h
theorem Has.size {P : Thing} {w0 w : World} (h : Has P w0 w) : w0.heap.size ≤ w.heap.size := h.base.size
theorem Has.below {P : Thing} {w0 w w' : World} (h : Has P w0 w) (hb : Below w.heap.size w w') : Has P w0 w' :=
  let ⟨F, h1, h2, h3⟩ := h
  ⟨F, P.below h1 hb, h2, below_join h3 hb⟩
theorem Has.left {P Q : Thing} {w0 w : World} (h : Has (P.both Q) w0 w) : Has P w0 w :=
  let ⟨F, ⟨F1, F2, h1, h2, h3, h4⟩, h5, h6⟩ := h
  ⟨F1, h1, fun k hk => h5 k ((h4 k).2 (.inl hk)), h6⟩
theorem Has.right {P Q : Thing} {w0 w : World} (h : Has (P.both Q) w0 w) : Has Q w0 w :=
  let ⟨F, ⟨F1, F2, h1, h2, h3, h4⟩, h5, h6⟩ := h
  ⟨F2, h2, fun k hk => h5 k ((h4 k).2 (.inr hk)), h6⟩
theorem Has.swap {P Q : Thing} {w0 w : World} (h : Has (P.both Q) w0 w) : Has (Q.both P) w0 w :=
  let ⟨F, h1, h2, h3⟩ := h
  ⟨F, Thing.swap h1, h2, h3⟩
theorem Has.assoc {P Q R : Thing} {w0 w : World} (h : Has ((P.both Q).both R) w0 w) : Has (P.both (Q.both R)) w0 w :=
  let ⟨F, h1, h2, h3⟩ := h
  ⟨F, Thing.assoc h1, h2, h3⟩
theorem Has.assoc' {P Q R : Thing} {w0 w : World} (h : Has (P.both (Q.both R)) w0 w) : Has ((P.both Q).both R) w0 w := h.swap.assoc.swap.assoc.swap
theorem Has.new {P Q : Thing} {w0 w w' : World} {G : Nat → Prop} (h : Has P w0 w) (hb : Below w.heap.size w w') (hq : Q.On w' G) (hG : ∀ k, G k → w.heap.size ≤ k) : Has (P.both Q) w0 w' := by
  have hs := h.size
  obtain ⟨F, h1, h2, h3⟩ := h
  obtain ⟨F', a1, a2, a3⟩ := Stp.new h1 hb hq hG
  refine ⟨F', a1, fun k hk => ?_, below_join h3 hb⟩
  rcases a3 k hk with g | g
  · exact h2 k g
  · omega
theorem Has.one {Q : Thing} {w0 w w' : World} {G : Nat → Prop} (h : Below w0.heap.size w0 w) (hb : Below w.heap.size w w') (hq : Q.On w' G) (hG : ∀ k, G k → w.heap.size ≤ k) : Has Q w0 w' :=
  ⟨G, hq, fun k hk => Nat.le_trans h.size (hG k hk), below_join h hb⟩
/-- a step -/
theorem Has.stp {P P' : Thing} {w0 w w' : World} {F : Nat → Prop} (h1 : ∀ k, F k → w0.heap.size ≤ k) (h2 : Below w0.heap.size w0 w) (h : Stp P' F w w') : Has P' w0 w' := by
  obtain ⟨F', a1, a2, a3⟩ := h
  refine ⟨F', a1, fun k hk => ?_, h2.trans (a2.below h2.size h1)⟩
  rcases a3 k hk with g | g
  · exact h1 k g
  · exact Nat.le_trans h2.size g
/-- a contract: a call that is made where P lies gives an ending and another thing -/
def Trip (prog : Program) (P : Thing) (f : FuncId) (args : Array Value) (R : Ending → Thing → Prop) : Prop :=
  ∀ w F, P.On w F → Calls prog f args w fun e w' => ∃ P', R e P' ∧ Stp P' F w w'
theorem Trip.left {prog : Program} {P Q : Thing} {f : FuncId} {args : Array Value} {R : Ending → Thing → Prop} (h : Trip prog P f args R) : Trip prog (P.both Q) f args fun e T => ∃ P', R e P' ∧ T = P'.both Q := by
  rintro w F ⟨F1, F2, h1, h2, h3, h4⟩
  refine (h w F1 h1).mono ?_
  rintro e w' ⟨P', a1, a2⟩
  exact ⟨P'.both Q, ⟨P', a1, rfl⟩, a2.left h2 h3 h4⟩
theorem Trip.right {prog : Program} {P Q : Thing} {f : FuncId} {args : Array Value} {R : Ending → Thing → Prop} (h : Trip prog P f args R) : Trip prog (Q.both P) f args fun e T => ∃ P', R e P' ∧ T = Q.both P' := by
  intro w F hh
  refine (h.left (Q := Q) w F (Thing.swap hh)).mono ?_
  rintro e w' ⟨T, ⟨P', a1, rfl⟩, a2⟩
  exact ⟨_, ⟨P', a1, rfl⟩, a2.swap⟩
theorem Trip.call {prog : Program} {P : Thing} {f : FuncId} {args : Array Value} {R : Ending → Thing → Prop} (h : Trip prog P f args R) {w0 w : World} (hw : Has P w0 w) : Calls prog f args w fun e w' => ∃ P', R e P' ∧ Has P' w0 w' := by
  obtain ⟨F, h1, h2, h3⟩ := hw
  refine (h w F h1).mono ?_
  rintro e w' ⟨P', a1, a2⟩
  exact ⟨P', a1, Has.stp (P := P) h2 h3 a2⟩
end Go.Proofs.YtfligfompdcddaaGreatDoor
