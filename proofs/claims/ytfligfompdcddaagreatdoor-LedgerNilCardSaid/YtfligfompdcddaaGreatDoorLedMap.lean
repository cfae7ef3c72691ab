/- Maps from strings to ints: what look-ups, stores and deletions do. -/
import Derived.Test.YtfligfompdcddaaGreatDoorTail
import Derived.Maps.OwnSet
import Derived.Test.YtfligfompdcddaaGreatDoorProg
namespace Go.Proofs.YtfligfompdcddaaGreatDoor
open Go.RowKit Go.Sort Go.Maps
set_option linter.unusedVariables false
theorem lit_int {a b : Int} (h : (DataW.lit (.int .i64 a) : DataW Unit) = .lit (.int .i64 b)) : a = b := by simpa using h
abbrev Sf := ByteArray → Option Int
def litS (s : ByteArray) : Lit := .string s.data.toList
theorem litS_inj {s t : ByteArray} (h : litS s = litS t) : s = t := by
  injection h with h
  cases s; cases t
  simp at h
  rw [ByteArray.mk.injEq]; exact h
theorem litS_key (s : ByteArray) : WideAt.IsKeyLit (litS s) := by unfold litS; trivial
theorem keyedS : Keyed Tryz.prog 9 := string_keyed Tryz.underlying9
theorem keyS {s : ByteArray} (hs : s.size ≤ maxLen) : keyOf Tryz.prog 9 (.string s) = some (litS s) := WideMaps.keyOf_string_mk Tryz.underlying9 hs
theorem zeroI (w : World) : (zeroValue 3).run Tryz.prog w = .ok (.int .i64 0) w := by kernel_rfl
/-- block b is a map from strings to ints, of at most n entries: f -/
def MapAt (w : World) (b n : Nat) (f : Sf) : Prop :=
  ∃ D : DataW Unit, w.ownsMap Tryz.prog 9 (plainElem Tryz.prog 3) b n D ∧ ∀ s : ByteArray, s.size ≤ maxLen → Maps.has D (litS s) = (f s).isSome ∧ D.atKey (litS s) (.lit (.int .i64 0)) = .lit (.int .i64 ((f s).getD 0))
theorem MapAt.made (w : World) : MapAt (w.alloc (.map #[] 0)) w.heap.size 0 (fun _ => none) :=
  ⟨.map [], World.ownsMap_made _ _ _ _, fun s _ => ⟨rfl, rfl⟩⟩
theorem MapAt.lt {w : World} {b n : Nat} {f : Sf} (h : MapAt w b n f) : b < w.heap.size := let ⟨_, h, _⟩ := h; h.lt
theorem MapAt.kept {w w' : World} {b n : Nat} {f : Sf} {row : Option Nat} (h : MapAt w b n f) (hg : w.grownBy w' row) (hne : some b ≠ row) : MapAt w' b n f :=
  let ⟨D, h1, h2⟩ := h; ⟨D, h1.kept hg hne, h2⟩
theorem MapAt.mono {w : World} {b n m : Nat} {f : Sf} (h : MapAt w b n f) (hm : n ≤ m) : MapAt w b m f := let ⟨D, h1, h2⟩ := h; ⟨D, h1.mono hm, h2⟩
theorem MapAt.congr {w : World} {b n : Nat} {f g : Sf} (h : MapAt w b n f) (hfg : ∀ s, f s = g s) : MapAt w b n g := by
  obtain rfl : f = g := funext hfg
  exact h
theorem MapAt.look {w : World} {b n : Nat} {f : Sf} (h : MapAt w b n f) {s : ByteArray} (hs : s.size ≤ maxLen) :
    (Instr.lookup 49 (.map (some b)) (.string s) false).run Tryz.prog w = .ok (.int .i64 ((f s).getD 0)) w := by
  obtain ⟨D, h1, h2⟩ := h
  obtain ⟨c, hrun, hat, _⟩ := h1.lookup_int keyedS Tryz.underlying49 Tryz.underlying3 (zeroI w) (keyS hs)
  rw [(h2 s hs).2] at hat
  have hat := lit_int hat
  rw [hrun, ← hat]
theorem MapAt.look_ok {w : World} {b n : Nat} {f : Sf} (h : MapAt w b n f) {s : ByteArray} (hs : s.size ≤ maxLen) :
    (Instr.lookup 49 (.map (some b)) (.string s) true).run Tryz.prog w = .ok (.tuple #[.int .i64 ((f s).getD 0), .bool (f s).isSome]) w := by
  obtain ⟨D, h1, h2⟩ := h
  have hw0 : (Lit.int .i64 0).wf = true := by decide
  obtain ⟨v, ps, hrun, hv⟩ := h1.look_ok keyedS Tryz.underlying49 (zeroI w) (plainElem_int Tryz.underlying3 hw0) (keyS hs)
  obtain ⟨c, rfl, hc, _⟩ := plainElem_int_inv Tryz.underlying3 hv
  simp only [Prod.mk.injEq] at hc
  have hat := hc.1
  rw [(h2 s hs).2] at hat
  have hat := lit_int hat
  rw [hrun, (h2 s hs).1, ← hat]
theorem look_none {s : ByteArray} (hs : s.size ≤ maxLen) (w : World) : (Instr.lookup 49 (.map none) (.string s) false).run Tryz.prog w = .ok (.int .i64 0) w :=
  Maps.look_nil false keyedS Tryz.underlying49 (zeroI w) (keyS hs)
theorem look_none_ok {s : ByteArray} (hs : s.size ≤ maxLen) (w : World) : (Instr.lookup 49 (.map none) (.string s) true).run Tryz.prog w = .ok (.tuple #[.int .i64 0, .bool false]) w :=
  Maps.look_nil true keyedS Tryz.underlying49 (zeroI w) (keyS hs)
def setS (f : Sf) (s : ByteArray) (c : Int) : Sf := fun t => if t = s then some c else f t
def delS (f : Sf) (s : ByteArray) : Sf := fun t => if t = s then none else f t
theorem MapAt.put {w : World} {b n : Nat} {f : Sf} (h : MapAt w b n f) {s : ByteArray} (hs : s.size ≤ maxLen) (hn : n < maxLen) {c : Int} (hc : (Lit.int .i64 c).wf = true) :
    ∃ w', (Instr.mapUpdate 49 (.map (some b)) (.string s) (.int .i64 c)).run Tryz.prog w = .ok () w' ∧ MapAt w' b (n + 1) (setS f s c) ∧ w.grownBy w' (some b) := by
  obtain ⟨D, h1, h2⟩ := h
  obtain ⟨w', hrun, r1, r2⟩ := h1.update keyedS Tryz.underlying49 hn (keyS hs) (plainElem_int Tryz.underlying3 hc)
  refine ⟨w', hrun, ⟨_, r1, fun t ht => ?_⟩, r2⟩
  unfold setS
  by_cases e : t = s
  · subst e
    rw [if_pos rfl]
    exact ⟨Maps.has_put_same h1.isMap (litS_key t) _, Maps.atKey_put_same h1.isMap (litS_key t) _ _⟩
  · rw [if_neg e]
    have hne : litS t ≠ litS s := fun h => e (litS_inj h)
    rw [Maps.has_put_other hne, Maps.atKey_put_other hne]
    exact h2 t ht
theorem MapAt.del {w : World} {b n : Nat} {f : Sf} (h : MapAt w b n f) {s : ByteArray} (hs : s.size ≤ maxLen) (ty : TypeId) :
    ∃ w', (Builtin.delete_ #[49, 9] ty #[.map (some b), .string s]).run Tryz.prog w = .ok (.tuple #[]) w' ∧ MapAt w' b n (delS f s) ∧ w.grownBy w' (some b) := by
  obtain ⟨D, h1, h2⟩ := h
  obtain ⟨w', hrun, r1, r2⟩ := h1.drop keyedS Tryz.underlying49 (keyS hs) ty
  refine ⟨w', hrun, ⟨_, r1, fun t ht => ?_⟩, r2.grown⟩
  unfold delS
  by_cases e : t = s
  · subst e
    rw [if_pos rfl]
    exact ⟨Maps.has_del_same, Maps.atKey_del_same _⟩
  · rw [if_neg e]
    have hne : litS t ≠ litS s := fun h => e (litS_inj h)
    rw [Maps.has_del_other hne, Maps.atKey_del_other hne]
    exact h2 t ht
/-- a store into a map, the last of a region -/
theorem wpList_put {ops : Array Oper} {rest : List Oper} {o : Oper} {a : Act} {w : World} {Q : Exit → Act → World → Prop} (hg : o.guard = none) (hd : o.dst = none) (m x v : Operand) (hop : o.op = Op.mapUpdate 49 m x v)
    {b n : Nat} {f : Sf} (hm : a.eval m = .map (some b)) (h : MapAt w b n f) {s : ByteArray} (hx : a.eval x = .string s) (hs : s.size ≤ maxLen) (hn : n < maxLen) {c : Int} (hv : a.eval v = .int .i64 c) (hc : (Lit.int .i64 c).wf = true)
    (hK : ∀ w', MapAt w' b (n + 1) (setS f s c) → w.grownBy w' (some b) → wpList Tryz.prog ops Q rest a w') :
    wpList Tryz.prog ops Q (o :: rest) a w := by
  refine wpList_plain hg fun K' hK' => ?_
  obtain ⟨w', hrun, r1, r2⟩ := h.put hs hn hc
  unfold Oper.wp
  simp [execOp, hop, hm, hx, hv, hrun, Result.andThen]
  have hp : a.put o.dst undef = a := by rw [hd]; rfl
  have h1 := hK w' r1 r2
  rw [← hp] at h1
  exact hK' _ _ h1
/-- a deletion, the last of a region -/
theorem wpList_del {ops : Array Oper} {rest : List Oper} {o : Oper} {a : Act} {w : World} {Q : Exit → Act → World → Prop} (hg : o.guard = none) (hd : o.dst = none) (m x : Operand) (hop : o.op = Op.call { callee := Callee.builtin Builtin.delete, args := #[m, x], argTypes := #[49, 9] })
    {b n : Nat} {f : Sf} (hm : a.eval m = .map (some b)) (h : MapAt w b n f) {s : ByteArray} (hx : a.eval x = .string s) (hs : s.size ≤ maxLen)
    (hK : ∀ w', MapAt w' b n (delS f s) → w.grownBy w' (some b) → wpList Tryz.prog ops Q rest a w') :
    wpList Tryz.prog ops Q (o :: rest) a w := by
  refine wpList_plain hg fun K' hK' => ?_
  obtain ⟨w', hrun, r1, r2⟩ := h.del hs o.type
  unfold Oper.wp
  simp [execOp, hop, resolve, invoke, builtin, hm, hx, hrun, Result.andThen]
  have hp : ∀ v, a.put o.dst v = a := fun v => by rw [hd]; rfl
  have h1 := hK w' r1 r2
  rw [← hp (.tuple #[])] at h1
  exact hK' _ _ h1
theorem MapAt.below {w w' : World} {b n : Nat} {f : Sf} (h : MapAt w b n f) (hb : Below w.heap.size w w') : MapAt w' b n f :=
  h.kept (row := none) ⟨hb.os, hb.tape, hb.output, hb.size, fun k hk _ => hb.block k hk⟩ (by simp)
end Go.Proofs.YtfligfompdcddaaGreatDoor
