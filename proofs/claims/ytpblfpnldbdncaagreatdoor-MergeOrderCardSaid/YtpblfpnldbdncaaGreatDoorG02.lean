/- Small lemmas on worlds and on a law's last step, over any program. A region that draws its order, whose callees lay memory: one walk in the order of the text; in it the load of a whole row. Over any program. Maps whose elements are any values, over any kind of key: look-ups, stores, ranges. Over any program. Things in memory, side by side: each with the blocks that are its own; rows that a call owns. Over any program. Rows of elements of any kind: what lies in a slice, a literal of one, an append of one. Over any program. A region that draws its order: quiet operations (calls that lay memory among them) ahead of a tail in one forced order. Over any program. A region that draws its order, walked once by a plan: operations that yield one value in every world of a class are taken first, the others come up alone. Over any program. A region that draws its order, walked by a plan that parts where two operations may come next. Over any program. -/
import Derived.WalkKit
import Derived.ProofKit
import Derived.Below
import Derived.ChangeSame
import Derived.Lib.Hide
import Derived.Deep.Draws
import Derived.BigQuiet
import Derived.Lib.QuietBelow
import Derived.Deep.MidRow
import Derived.Laws.Rows
import Derived.Laws.Tables
import Derived.Deep.WholeRow
import Derived.Maps.RangeWalk
import Derived.Maps.OwnSet
import Derived.Laws.OwnMore
import Derived.Deep.AppendLies
import Derived.Great.BuildSlice
import Derived.OwnWalk
import Derived.StillTail
import Derived.OrdersHeld
import Derived.Deep.RegionHeld3
namespace Go.Proofs.YtpblfpnldbdncaaGreatDoor
open Go.RowKit Go.WideShapes Go.ChangeShapes
set_option linter.unusedVariables false

theorem ret_int {k : IntKind} {a b : Int} (h : a = b) : Ending.returned (.int k a) = .returned (.int k b) := by rw [h]
theorem ret_bool {a b : Bool} (h : a = b) : Ending.returned (.bool a) = .returned (.bool b) := by rw [h]

theorem bcell {W w1 : World} (hb : Below W.heap.size W w1) : (∀ b o, b < W.heap.size → w1.cell? ⟨b, o, none⟩ = W.cell? ⟨b, o, none⟩) ∧ (∀ b o, b < W.heap.size → w1.frozen? ⟨b, o, none⟩ = W.frozen? ⟨b, o, none⟩) :=
  ⟨fun b o h => hb.cell (p := ⟨b, o, none⟩) h, fun b o h => hb.frozen (p := ⟨b, o, none⟩) h⟩
/-- one call behind another, each from its own start -/
theorem below_join {a b c : World} (h : Below a.heap.size a b) (k : Below b.heap.size b c) : Below a.heap.size a c := h.trans (k.mono h.size)

section
variable {H : Type} {enc : TypeId × Value → H} {P : Program}
/-- the law's last step: what lay there before is as it was -/
theorem post_below {f : Func} {s : ChangeSpec} {apart fresh handsOn again : Bool} {W W' : World} {args : Array Value} {v : Value} {ds gs : List (DataW H)} {before pa pv : List MemPlace}
    (hW : DataW.Whole enc P f.params.toList s.vars apart W args.toList ds gs before)
    (hres : ∀ (b : Nat) (sp : Nat → Bool) (hd : Bool), DataW.TrodAll enc P W' b sp hd f.resultTypes.toList (v.resultList f.resultTypes.size) (s.fn H (ds ++ gs)).results [])
    (hargs : ∀ sp : Nat → Bool, (∀ p ∈ before, sp p.block = true) → DataW.TrodAll enc P W' 0 sp true f.params.toList args.toList (s.fn H (ds ++ gs)).args pa)
    (hvars : ∀ sp : Nat → Bool, (∀ p ∈ before, sp p.block = true) → DataW.TrodVars enc P W' sp s.vars (s.fn H (ds ++ gs)).vars pv)
    (hps : before = pa ++ pv) (hb : Below W.heap.size W W')
    (hok : ∀ (j : Nat) (t : TypeId) (r : Value), f.resultTypes[j]? = some t → (v.resultList f.resultTypes.size)[j]? = some r → Value.okWide P W' .any 0 t r) :
    s.post enc P f apart fresh handsOn again W args v W' := by
  have hlt : ∀ p ∈ before, p.block < W.heap.size := fun p hp => hW.lt p hp
  have hold : ∀ p ∈ before, (fun b => decide (b < W.heap.size)) p.block = true := fun p hp => by simpa using hlt p hp
  refine ⟨ds, gs, before, [], pa, pv, hW, hres _ _ _, hargs _ hold, hvars _ hold, World.keptBut_mono (fun p hp => ⟨hp, ?_⟩) (hb.frame (· ∈ before)), fun _ => ?_⟩
  · rw [hps, List.mem_append] at hp
    exact Or.inr hp
  · obtain ⟨_, _, _, _, _, hz, hn⟩ := hW
    refine ⟨hok, _, _, ([] ++ pa) ++ pv, ⟨[] ++ pa, pv, trodAll_append (hargs _ (fun _ _ => rfl)) (hres _ _ _), hvars _ (fun _ _ => rfl), rfl, ?_, ?_⟩, ?_⟩
    · intro b off hp
      have hin : MemPlace.cell b off ∈ before := by rw [hps]; simpa using hp
      rw [hb.frozen (hlt _ hin)]
      exact hz b off hin
    · intro ha
      have := hn ha
      rw [hps] at this
      simpa using this
    · intro p hp _
      rw [hps]
      simpa using hp
end
end Go.Proofs.YtpblfpnldbdncaaGreatDoor
namespace Go.Proofs.YtpblfpnldbdncaaGreatDoor
open Go.RowKit Go.Sort
set_option linter.unusedVariables false

section
variable {P : Program} {ops : Array Oper} {C : World → Prop} {Q : Act → Prop} {a : Act} {o : Oper} {rest : List Oper}
/-- the load of a whole row, in every world of the class -/
theorem quiet_load_row (hw : Region.wanted o (yielded ops a.tmps) = true) (ty : TypeId) (x : Operand) (ho : o.op = .load ty x) (b off : Nat) (hx : a.eval x = .pointer (some ⟨b, off, none⟩)) (v : Value)
    (hl : ∀ w, C w → (loadVar ty ⟨b, off, none⟩).run P w = .ok v w) (h : wpQuiet P ops C Q rest (a.put o.dst v)) : wpQuiet P ops C Q (o :: rest) a :=
  BigFrame.wpQuiet_want hw fun K hK => ⟨v, fun w hC => by
    unfold Oper.quietAt execOp
    simp only [ho, hx, Instr.loadAt, Instr.sureAddr, Sem.run_bind, Sem.run_pure, Result.andThen_ok, hl w hC]
    exact ⟨rfl, rfl⟩, hK _ h⟩
/-- a row that lies at a block's head, in every world of the class -/
theorem load_regrown {w : World} {b : Nat} {t ty : TypeId} {cs : Array Value} {fr : Nat × Nat} {d : TypeDesc} (hb : w.heap[b]? = some (.cells cs t fr)) (hu : P.underlying ty = some d) (hd : d.isRow = true) (hi : (P.info? ty).map (·.size) = some cs.size) :
    ∀ w', (∃ p : Regrown, w' = grow (redrawn w p.d) p.os) → (loadVar ty ⟨b, 0, none⟩).run P w' = .ok (.agg cs) w' := by
  rintro w' ⟨p, rfl⟩
  have hlt : b < w.heap.size := by
    rcases Nat.lt_or_ge b w.heap.size with h | h
    · exact h
    · rw [Array.getElem?_eq_none h] at hb; cases hb
  have hb' : (grow (redrawn w p.d) p.os).heap[b]? = some (.cells cs t fr) := ((below_regrown w p.d p.os).block b hlt).trans hb
  have := run_loadVar_mid (P := P) (grow (redrawn w p.d) p.os) b 0 ty cs.toList d (fun j v hv => by
    rw [Nat.zero_add, cell_of_row _ b j _ t fr hb']; simpa using hv) hu hd (by simpa using hi)
  simpa using this
/-- the load of a whole row, guarded or not -/
theorem wpList_load_guarded {rest : List Oper} {Q : Exit → Act → World → Prop} {w : World} (hw : Region.wanted o (yielded ops a.tmps) = true) (ty : TypeId) (x : Operand) (ho : o.op = .load ty x)
    (g : Nat) (hx : a.eval x = .pointer (some ⟨g, 0, none⟩)) (t : TypeId) (cs : Array Value) (fr : Nat × Nat) (d : TypeDesc) (hg : w.heap[g]? = some (.cells cs t fr))
    (hu : P.underlying ty = some d) (hd : (match d with | .struct _ | .array _ _ => true | _ => false) = true) (hi : (P.info? ty).map (·.size) = some cs.size)
    (h : wpList P ops Q rest (a.put o.dst (.agg cs)) w) : wpList P ops Q (o :: rest) a w :=
  wpList_step fun K hK => by rw [if_pos hw]; exact wp_load_row ty x ho g hx t cs fr d hg hu hd hi (hK _ _ h)
/-- a whole row stored into the block that was made last -/
theorem wpList_store_new {rest : List Oper} {Q : Exit → Act → World → Prop} {w : World} (hgd : o.guard = none) (ty : TypeId) (x y : Operand) (ho : o.op = .store ty x y) (cells : Array Value)
    (hx : a.eval x = .pointer (some ⟨w.heap.size, 0, none⟩)) (hy : a.eval y = .agg cells) (t : TypeId) (old : Array Value) (hi : (P.info? ty).map (·.size) = some cells.size)
    (hold : old.size = cells.size) (h1 : cells.all (·.oneCell') = true)
    (h : wpList P ops Q rest (a.put o.dst undef) (w.alloc (.cells cells t))) : wpList P ops Q (o :: rest) a (w.alloc (.cells old t)) :=
  wpList_store_row hgd ty x y ho w.heap.size cells hx hy t old (heap_alloc_new _ _) hi hold h1 (by rw [World.setRow_alloc_new]; exact h)
end
end Go.Proofs.YtpblfpnldbdncaaGreatDoor
namespace Go.Proofs.YtpblfpnldbdncaaGreatDoor
open Go.RowKit Go.Maps
set_option linter.unusedVariables false
def rdV (v : Value) : Option (DataW Value × List MemPlace) := some (.held v, [])
/-- a kind of key: its values, what they read as -/
structure Kk (P : Program) (k : TypeId) (κ : Type) where
  kv : κ → Value
  kl : κ → Lit
  ok : κ → Prop
  keyed : Keyed P k
  law : ∀ {x}, ok x → keyOf P k (kv x) = some (kl x)
  back : ∀ {v l}, keyOf P k v = some l → ∃ x, ok x ∧ v = kv x ∧ l = kl x
  inj : ∀ {x y}, ok x → ok y → kl x = kl y → x = y
section
variable {P : Program} {k : TypeId} {κ : Type}
theorem Kk.isKey (K : Kk P k κ) {x : κ} (h : K.ok x) : WideAt.IsKeyLit (K.kl x) := K.keyed.key (K.law h)
/-- the datum says what the function says -/
def Agree (K : Kk P k κ) (D : DataW Value) (f : κ → Option Value) : Prop := ∀ x, K.ok x → Maps.has D (K.kl x) = (f x).isSome ∧ ∀ v, f x = some v → ∀ z, D.atKey (K.kl x) z = .held v
/-- block b is a map of at most n entries: f -/
def MapB (K : Kk P k κ) (w : World) (b n : Nat) (f : κ → Option Value) : Prop := ∃ D, w.ownsMap P k rdV b n D ∧ Agree K D f
variable {K : Kk P k κ} {w w' : World} {b n r cnt : Nat} {f : κ → Option Value}
theorem MapB.made (K : Kk P k κ) (w : World) : MapB K (w.alloc (.map #[] 0)) w.heap.size 0 (fun _ => none) :=
  ⟨.map [], World.ownsMap_made _ _ _ _, fun x _ => ⟨rfl, fun v h => by cases h⟩⟩
theorem MapB.lt (h : MapB K w b n f) : b < w.heap.size := let ⟨_, h, _⟩ := h; h.lt
theorem MapB.kept {row : Option Nat} (h : MapB K w b n f) (hg : w.grownBy w' row) (hne : some b ≠ row) : MapB K w' b n f := let ⟨D, h1, h2⟩ := h; ⟨D, h1.kept hg hne, h2⟩
theorem MapB.mono {m : Nat} (h : MapB K w b n f) (hm : n ≤ m) : MapB K w b m f := let ⟨D, h1, h2⟩ := h; ⟨D, h1.mono hm, h2⟩
theorem MapB.congr {g : κ → Option Value} (h : MapB K w b n f) (hfg : ∀ x, K.ok x → f x = g x) : MapB K w b n g := by
  obtain ⟨D, h1, h2⟩ := h
  exact ⟨D, h1, fun x hx => by rw [← hfg x hx]; exact h2 x hx⟩
theorem held_inj {H : Type} {a b : H} (h : (DataW.held a : DataW H) = .held b) : a = b := by injection h
theorem Agree.val {D : DataW Value} (h : Agree K D f) {x : κ} (hx : K.ok x) (z : Value) : D.atKey (K.kl x) (.held z) = .held ((f x).getD z) := by
  obtain ⟨h1, h2⟩ := h x hx
  cases hf : f x with
  | none => rw [hf] at h1; rw [Maps.atKey_of_not_has h1]; rfl
  | some v => rw [h2 v hf]; rfl
theorem MapB.look {t e : TypeId} (h : MapB K w b n f) (ht : P.underlying t = some (.map k e)) {z : Value} (hz : (zeroValue e).run P w = .ok z w) {x : κ} (hx : K.ok x) :
    (Instr.lookup t (.map (some b)) (K.kv x) false).run P w = .ok ((f x).getD z) w := by
  obtain ⟨D, h1, h2⟩ := h
  obtain ⟨v, ps, hrun, hv⟩ := h1.lookup K.keyed ht hz (show rdV z = some (.held z, []) from rfl) (K.law hx)
  rw [h2.val hx z] at hv
  simp only [rdV, Option.some.injEq, Prod.mk.injEq] at hv
  rw [hrun, held_inj hv.1]
theorem MapB.look_ok {t e : TypeId} (h : MapB K w b n f) (ht : P.underlying t = some (.map k e)) {z : Value} (hz : (zeroValue e).run P w = .ok z w) {x : κ} (hx : K.ok x) :
    (Instr.lookup t (.map (some b)) (K.kv x) true).run P w = .ok (.tuple #[(f x).getD z, .bool (f x).isSome]) w := by
  obtain ⟨D, h1, h2⟩ := h
  obtain ⟨v, ps, hrun, hv⟩ := h1.look_ok K.keyed ht hz (show rdV z = some (.held z, []) from rfl) (K.law hx)
  rw [h2.val hx z] at hv
  simp only [rdV, Option.some.injEq, Prod.mk.injEq] at hv
  rw [hrun, held_inj hv.1, (h2 x hx).1]
open Classical in
noncomputable def upd (f : κ → Option Value) (x : κ) (v : Value) : κ → Option Value := fun y => if y = x then some v else f y
theorem MapB.put {t e : TypeId} (h : MapB K w b n f) (ht : P.underlying t = some (.map k e)) {x : κ} (hx : K.ok x) (hn : n < maxLen) (v : Value) :
    ∃ w', (Instr.mapUpdate t (.map (some b)) (K.kv x) v).run P w = .ok () w' ∧ MapB K w' b (n + 1) (upd f x v) ∧ w.grownBy w' (some b) := by
  obtain ⟨D, h1, h2⟩ := h
  obtain ⟨w', hrun, r1, r2⟩ := h1.update K.keyed ht hn (K.law hx) (show rdV v = some (.held v, []) from rfl)
  refine ⟨w', hrun, ⟨_, r1, fun y hy => ?_⟩, r2⟩
  unfold upd
  by_cases e : y = x
  · subst e
    rw [if_pos rfl]
    exact ⟨Maps.has_put_same h1.isMap (K.isKey hy) _, fun u hu z => by injection hu with hu; rw [Maps.atKey_put_same h1.isMap (K.isKey hy), hu]⟩
  · rw [if_neg e]
    have hne : K.kl y ≠ K.kl x := fun h => e (K.inj hy hx h)
    rw [Maps.has_put_other hne]
    exact ⟨(h2 y hy).1, fun u hu z => by rw [Maps.atKey_put_other hne]; exact (h2 y hy).2 u hu z⟩
/-- a value that is a map: nil or a block -/
def MapIs (K : Kk P k κ) (w : World) (mv : Value) (n : Nat) (f : κ → Option Value) : Prop := (mv = .map none ∧ ∀ x, K.ok x → f x = none) ∨ ∃ b, mv = .map (some b) ∧ MapB K w b n f
def mapBlk : Value → Option Nat
  | .map b => b
  | _ => none
theorem MapIs.none : MapIs K w (.map none) n (fun _ => none) := .inl ⟨rfl, fun _ _ => rfl⟩
theorem MapIs.some (h : MapB K w b n f) : MapIs K w (.map (some b)) n f := .inr ⟨b, rfl, h⟩
theorem MapIs.lt {mv : Value} (h : MapIs K w mv n f) : ∀ b, mapBlk mv = Option.some b → b < w.heap.size := by
  rintro b hb
  rcases h with ⟨rfl, _⟩ | ⟨c, rfl, h⟩
  · cases hb
  · injection hb with hb; subst hb; exact h.lt
theorem MapIs.kept {mv : Value} {row : Option Nat} (h : MapIs K w mv n f) (hg : w.grownBy w' row) (hne : ∀ b, mapBlk mv = Option.some b → Option.some b ≠ row) : MapIs K w' mv n f := by
  rcases h with h | ⟨b, rfl, h⟩
  · exact .inl h
  · exact .inr ⟨b, rfl, h.kept hg (hne b rfl)⟩
theorem MapIs.mono {mv : Value} {m : Nat} (h : MapIs K w mv n f) (hm : n ≤ m) : MapIs K w mv m f := by
  rcases h with h | ⟨b, rfl, h⟩
  · exact .inl h
  · exact .inr ⟨b, rfl, h.mono hm⟩
theorem MapIs.congr {mv : Value} {g : κ → Option Value} (h : MapIs K w mv n f) (hfg : ∀ x, K.ok x → f x = g x) : MapIs K w mv n g := by
  rcases h with ⟨h1, h2⟩ | ⟨b, rfl, h⟩
  · exact .inl ⟨h1, fun x hx => by rw [← hfg x hx]; exact h2 x hx⟩
  · exact .inr ⟨b, rfl, h.congr hfg⟩
theorem MapIs.below {mv : Value} (h : MapIs K w mv n f) (hb : Below w.heap.size w w') : MapIs K w' mv n f := by
  refine h.kept (row := Option.none) ⟨hb.os, hb.tape, hb.output, hb.size, fun k hk _ => hb.block k hk⟩ (by simp)
theorem MapB.below (h : MapB K w b n f) (hb : Below w.heap.size w w') : MapB K w' b n f :=
  h.kept (row := Option.none) ⟨hb.os, hb.tape, hb.output, hb.size, fun k hk _ => hb.block k hk⟩ (by simp)
theorem MapIs.shape {mv : Value} (h : MapIs K w mv n f) : ∃ b, mv = .map b := by
  rcases h with ⟨rfl, _⟩ | ⟨b, rfl, _⟩ <;> exact ⟨_, rfl⟩
theorem MapIs.look {t e : TypeId} {mv : Value} (h : MapIs K w mv n f) (ht : P.underlying t = Option.some (.map k e)) {z : Value} (hz : (zeroValue e).run P w = .ok z w) {x : κ} (hx : K.ok x) :
    (Instr.lookup t mv (K.kv x) false).run P w = .ok ((f x).getD z) w := by
  rcases h with ⟨rfl, h⟩ | ⟨b, rfl, h⟩
  · rw [Maps.look_nil false K.keyed ht hz (K.law hx), h x hx]; rfl
  · exact h.look ht hz hx
theorem MapIs.look_ok {t e : TypeId} {mv : Value} (h : MapIs K w mv n f) (ht : P.underlying t = Option.some (.map k e)) {z : Value} (hz : (zeroValue e).run P w = .ok z w) {x : κ} (hx : K.ok x) :
    (Instr.lookup t mv (K.kv x) true).run P w = .ok (.tuple #[(f x).getD z, .bool (f x).isSome]) w := by
  rcases h with ⟨rfl, h⟩ | ⟨b, rfl, h⟩
  · rw [Maps.look_nil true K.keyed ht hz (K.law hx), h x hx]; rfl
  · exact h.look_ok ht hz hx
theorem MapIs.len {t e : TypeId} {mv : Value} (h : MapIs K w mv n f) (ht : P.underlying t = Option.some (.map k e))  : ∃ N, N ≤ n ∧ ∀ ty, (Builtin.len_ #[t] ty #[mv]).run P w = .ok (.int .i64 (N : Nat)) w := by
  rcases h with ⟨rfl, h⟩ | ⟨b, rfl, D, h1, _⟩
  · exact ⟨0, Nat.zero_le _, fun ty => Maps.len_nil ht ty⟩
  · exact ⟨_, h1.size_le, fun ty => h1.len ht ty⟩
/-- a map that is ranged over: what is still to come -/
def MapR (K : Kk P k κ) (w : World) (mv : Value) (r n : Nat) (f : κ → Option Value) (left : κ → Prop) (cnt : Nat) : Prop :=
  (mv = .map none ∧ cnt = 0 ∧ (∀ x, K.ok x → f x = none) ∧ (∀ x, K.ok x → ¬ left x) ∧ w.heap[r]? = some (.mapIter none 0 #[] 0)) ∨
    ∃ b D lf, mv = .map (some b) ∧ w.ranges P k rdV b r n D lf cnt ∧ Agree K D f ∧ ∀ x, K.ok x → (lf (K.kl x) = true ↔ left x)
theorem MapR.map {mv : Value} {left : κ → Prop} (h : MapR K w mv r n f left cnt) : MapIs K w mv n f := by
  rcases h with ⟨rfl, _, h, _⟩ | ⟨b, D, lf, rfl, h1, h2, _⟩
  · exact .inl ⟨rfl, h⟩
  · exact .inr ⟨b, rfl, D, h1.owns, h2⟩
theorem MapR.lt {mv : Value} {left : κ → Prop} (h : MapR K w mv r n f left cnt) : r < w.heap.size := by
  rcases h with ⟨rfl, _, _, _, h⟩ | ⟨b, D, lf, rfl, h1, h2, _⟩
  · exact (Array.getElem?_eq_some_iff.1 h).1
  · exact h1.lt
theorem MapR.kept {mv : Value} {left : κ → Prop} {row : Option Nat} (h : MapR K w mv r n f left cnt) (hg : w.grownBy w' row) (hne : ∀ b, mapBlk mv = Option.some b → Option.some b ≠ row) (hr : Option.some r ≠ row) : MapR K w' mv r n f left cnt := by
  have hlt := h.lt
  rcases h with ⟨h1, h2, h3, h4, h5⟩ | ⟨b, D, lf, rfl, h1, h2⟩
  · exact .inl ⟨h1, h2, h3, h4, (hg.block r hlt hr).trans h5⟩
  · exact .inr ⟨b, D, lf, rfl, h1.kept hg (hne b rfl) hr, h2⟩
theorem MapR.below {mv : Value} {left : κ → Prop} (h : MapR K w mv r n f left cnt) (hb : Below w.heap.size w w') : MapR K w' mv r n f left cnt :=
  h.kept (row := Option.none) ⟨hb.os, hb.tape, hb.output, hb.size, fun k hk _ => hb.block k hk⟩ (by simp) (by simp)
theorem MapR.iter {mv : Value} {left : κ → Prop} (h : MapR K w mv r n f left cnt) : ∃ m s seen c, w.heap[r]? = some (.mapIter m s seen c) := by
  rcases h with ⟨_, _, _, _, h⟩ | ⟨b, D, lf, _, ⟨es, clock, since, seen, c0, _, _, _, _, h, _⟩, _⟩
  · exact ⟨_, _, _, _, h⟩
  · exact ⟨_, _, _, _, h⟩
theorem MapB.isMap (h : MapB K w b n f) : ∃ es c, w.heap[b]? = some (.map es c) := by
  obtain ⟨D, ⟨es, clock, h1, _⟩, _⟩ := h
  exact ⟨es, clock, h1⟩
theorem MapIs.isMap {mv : Value} (h : MapIs K w mv n f) : ∀ b, mapBlk mv = Option.some b → ∃ es c, w.heap[b]? = Option.some (.map es c) := by
  rintro b hb
  rcases h with ⟨rfl, _⟩ | ⟨c, rfl, h⟩
  · cases hb
  · injection hb with hb; subst hb; exact h.isMap
/-- how many are still to come -/
def leftAt (w : World) (mv : Value) (r : Nat) : Nat := match mv with
  | .map (some b) => w.rangeLeft b r
  | _ => 0
theorem MapR.left_eq {mv : Value} {left : κ → Prop} (h : MapR K w mv r n f left cnt) : leftAt w mv r = cnt := by
  rcases h with ⟨rfl, h, _⟩ | ⟨b, D, lf, rfl, h1, _⟩
  · exact h.symm
  · exact h1.left_eq
theorem MapIs.range {t e : TypeId} {mv : Value} (h : MapIs K w mv n f) (ht : P.underlying t = Option.some (.map k e)) :
    ∃ w' cnt, (Instr.range t mv).run P w = .ok (.pointer (Option.some ⟨w.heap.size, 0, Option.none⟩)) w' ∧ MapR K w' mv w.heap.size n f (fun x => (f x).isSome = true) cnt ∧ w.grownBy w' Option.none ∧ w'.heap.size = w.heap.size + 1 ∧ cnt ≤ n := by
  rcases h with ⟨rfl, h⟩ | ⟨b, rfl, D, h1, h2⟩
  · refine ⟨w.alloc (.mapIter Option.none 0 #[] 0), 0, ?_, .inl ⟨rfl, rfl, h, fun x hx => by show ¬ ((f x).isSome = true); rw [h x hx]; simp, (MapKept.heap_alloc w _).1⟩, World.grownBy_alloc w _ Option.none, by simp, Nat.zero_le _⟩
    simp [Instr.range, run_underlying ht, Result.andThen]
  · obtain ⟨w', hrun, r1, r2, r3⟩ := h1.range K.keyed ht
    exact ⟨w', _, hrun, .inr ⟨b, D, _, rfl, r1, h2, fun x hx => by rw [(h2 x hx).1]⟩, r2, r3, h1.size_le⟩
theorem MapR.next' {mv : Value} {left : κ → Prop} (h : MapR K w mv r n f left cnt) (ty : TypeId) :
    ((∀ x, K.ok x → ¬ left x) ∧ (Instr.next (.pointer (some ⟨r, 0, none⟩)) false ty).run P w = .ok (.tuple #[.bool false]) w) ∨
    ∃ x v w' cnt', K.ok x ∧ left x ∧ f x = some v ∧ (Instr.next (.pointer (some ⟨r, 0, none⟩)) false ty).run P w = .ok (.tuple #[.bool true, K.kv x, v]) w' ∧
      MapR K w' mv r n f (fun y => left y ∧ y ≠ x) cnt' ∧ cnt' < cnt ∧ w.grownBy w' (some r) ∧ w'.heap.size = w.heap.size ∧ (Instr.entry (.pointer (some ⟨r, 0, none⟩))).run P w' = .ok (.tuple #[K.kv x, v]) w' := by
  rcases h with ⟨rfl, h1, h2, h3, h4⟩ | ⟨b, D, lf, rfl, h1, h2, h3⟩
  · refine .inl ⟨h3, ?_⟩
    simp only [Instr.next, getObj, Sem.run_bind, Sem.run, h4, Result.andThen]
    rfl
  · rcases h1.next K.keyed ty with ⟨h0, hl, hrun⟩ | ⟨key, v, kl, y, w', cnt', hkey, hlk, hv, hat, hrun, hrg, hlt, hgr, hsz, hen⟩
    · exact .inl ⟨fun x hx hf => (by have := (h3 x hx).2 hf; rw [hl] at this; cases this), hrun⟩
    · obtain ⟨x, hx, rfl, rfl⟩ := K.back hkey
      have hfx : f x = some v := by
        have e1 : y = (.held v, []) := by unfold rdV at hv; injection hv with hv; exact hv.symm
        have h4 := Maps.has_true_of_atKey hat
        rw [(h2 x hx).1, Option.isSome_iff_exists] at h4
        obtain ⟨u, hu⟩ := h4
        have h5 := (h2 x hx).2 u hu (.held u)
        rw [hat, e1] at h5
        rw [hu, held_inj h5]
      refine .inr ⟨x, v, w', cnt', hx, (h3 x hx).1 hlk, hfx, hrun, .inr ⟨b, D, _, rfl, hrg, h2, fun y hy => ?_⟩, hlt, hgr, hsz, hen⟩
      simp only [Bool.and_eq_true, Bool.not_eq_true']
      rw [h3 y hy]
      refine and_congr_right fun _ => ?_
      constructor
      · rintro h e
        subst e
        rw [WideAt.sameKey_self (K.isKey hy)] at h
        cases h
      · intro h
        exact Maps.sameKey_ne (fun e => h (K.inj hy hx e))
theorem MapR.next {mv : Value} {left : κ → Prop} (h : MapR K w mv r n f left cnt) :
    ((∀ x, K.ok x → ¬ left x) ∧ ∀ ty, (Instr.next (.pointer (some ⟨r, 0, none⟩)) false ty).run P w = .ok (.tuple #[.bool false]) w) ∨
    ∃ x v w' cnt', K.ok x ∧ left x ∧ f x = some v ∧ (∀ ty, (Instr.next (.pointer (some ⟨r, 0, none⟩)) false ty).run P w = .ok (.tuple #[.bool true, K.kv x, v]) w') ∧
      MapR K w' mv r n f (fun y => left y ∧ y ≠ x) cnt' ∧ cnt' < cnt ∧ w.grownBy w' (some r) ∧ w'.heap.size = w.heap.size ∧ (Instr.entry (.pointer (some ⟨r, 0, none⟩))).run P w' = .ok (.tuple #[K.kv x, v]) w' := by
  rcases h.next' 0 with ⟨h1, h2⟩ | ⟨x, v, w', cnt', h1, h2, h3, h4, h5⟩
  · exact .inl ⟨h1, fun ty => h2⟩
  · exact .inr ⟨x, v, w', cnt', h1, h2, h3, fun ty => h4, h5⟩
end
/-! at the operation, for the walk -/
section
variable {P : Program} {k : TypeId} {κ : Type} {K : Kk P k κ} {w : World} {ops : Array Oper} {rest : List Oper} {o : Oper} {a : Act} {Q : Exit → Act → World → Prop}
theorem wpList_putV (hg : o.guard = none) (hd : o.dst = none) (m x v : Operand) {t e : TypeId} (hop : o.op = Op.mapUpdate t m x v) (ht : P.underlying t = some (.map k e))
    {b n : Nat} {f : κ → Option Value} (hm : a.eval m = .map (some b)) (h : MapB K w b n f) {y : κ} (hx : a.eval x = K.kv y) (hy : K.ok y) (hn : n < maxLen) (u : Value) (hv : a.eval v = u)
    (hK : ∀ w', MapB K w' b (n + 1) (upd f y u) → w.grownBy w' (some b) → wpList P ops Q rest a w') :
    wpList P ops Q (o :: rest) a w := by
  refine wpList_plain hg fun K' hK' => ?_
  obtain ⟨w', hrun, r1, r2⟩ := h.put ht hy hn u
  unfold Oper.wp
  simp [execOp, hop, hm, hx, hv, hrun, Result.andThen]
  have hp : a.put o.dst undef = a := by rw [hd]; rfl
  have h1 := hK w' r1 r2
  rw [← hp] at h1
  exact hK' _ _ h1
theorem wpList_rangeV (hg : o.guard = none) (m : Operand) {t e : TypeId} (hop : o.op = Op.range t m) (ht : P.underlying t = some (.map k e)) {mv : Value} {n : Nat} {f : κ → Option Value}
    (hm : a.eval m = mv) (h : MapIs K w mv n f)
    (hK : ∀ w' cnt, MapR K w' mv w.heap.size n f (fun x => (f x).isSome = true) cnt → w.grownBy w' none → w'.heap.size = w.heap.size + 1 → cnt ≤ n → wpList P ops Q rest (a.put o.dst (.pointer (some ⟨w.heap.size, 0, none⟩))) w') :
    wpList P ops Q (o :: rest) a w := by
  refine wpList_plain hg fun K' hK' => ?_
  obtain ⟨w', cnt, hrun, r1, r2, r3, r4⟩ := h.range ht
  unfold Oper.wp
  simp [execOp, hop, hm, hrun, Result.andThen]
  exact hK' _ _ (hK w' cnt r1 r2 r3 r4)
theorem wpList_nextV (hg : o.guard = none) (it : Operand) (hop : o.op = Op.next it false) {mv : Value} {r n cnt : Nat} {f : κ → Option Value} {left : κ → Prop}
    (hit : a.eval it = .pointer (some ⟨r, 0, none⟩)) (h : MapR K w mv r n f left cnt)
    (hDone : (∀ x, K.ok x → ¬ left x) → wpList P ops Q rest (a.put o.dst (.tuple #[.bool false])) w)
    (hMore : ∀ (x : κ) (v : Value) (w' : World) (cnt' : Nat), K.ok x → left x → f x = some v → MapR K w' mv r n f (fun y => left y ∧ y ≠ x) cnt' → cnt' < cnt →
      w.grownBy w' (some r) → w'.heap.size = w.heap.size → (Instr.entry (.pointer (some ⟨r, 0, none⟩))).run P w' = .ok (.tuple #[K.kv x, v]) w' → wpList P ops Q rest (a.put o.dst (.tuple #[.bool true, K.kv x, v])) w') :
    wpList P ops Q (o :: rest) a w := by
  refine wpList_plain hg fun K' hK' => ?_
  unfold Oper.wp
  rcases h.next' o.type with ⟨hl, hrun⟩ | ⟨x, v, w', cnt', h1, h2, h3, hrun, h4, h5, h6, h7, h8⟩
  · simp [execOp, hop, hit, hrun, Result.andThen]
    exact hK' _ _ (hDone hl)
  · simp [execOp, hop, hit, hrun, Result.andThen]
    exact hK' _ _ (hMore x v w' cnt' h1 h2 h3 h4 h5 h6 h7 h8)
end
end Go.Proofs.YtpblfpnldbdncaaGreatDoor
namespace Go.Proofs.YtpblfpnldbdncaaGreatDoor
open Go.RowKit Go.Sort
set_option linter.unusedVariables false
theorem rows_lt {w : World} {base : Nat} {e : TypeId} {size : Nat} {v : Value} {n : Nat} {xs : List Value} (h : w.ownsRow base e size v n xs) : ∀ b, v.ownBlock = some b → base ≤ b ∧ b < w.heap.size := by
  intro b hb
  rcases h.2 with ⟨rfl, _⟩ | ⟨g, cap, cur, rfl, h1, h2, _⟩
  · cases hb
  · have : g = b := by simpa [Value.ownBlock] using hb
    subst this
    exact ⟨h1, (Array.getElem?_eq_some_iff.1 h2).1⟩
theorem ownsRow_base_a {w : World} {base base' : Nat} {e : TypeId} {size : Nat} {v : Value} {n : Nat} {xs : List Value} (h : w.ownsRow base e size v n xs) (hb : base' ≤ base) : w.ownsRow base' e size v n xs := by
  refine ⟨h.1, ?_⟩
  rcases h.2 with h1 | ⟨g, cap, cur, e1, h1, h2⟩
  · exact .inl h1
  · exact .inr ⟨g, cap, cur, e1, by omega, h2⟩
/-- of what was there only blocks of F may have turned -/
structure Turned (F : Nat → Prop) (w w' : World) : Prop where
  os : w'.os = w.os
  tape : w'.tape = w.tape
  output : w'.output = w.output
  size : w.heap.size ≤ w'.heap.size
  block : ∀ k, k < w.heap.size → ¬ F k → w'.heap[k]? = w.heap[k]?
theorem Turned.of_grown {F : Nat → Prop} {w w' : World} {row : Option Nat} (h : w.grownBy w' row) (hr : ∀ k, row = some k → F k) : Turned F w w' :=
  ⟨h.os, h.tape, h.output, h.size, fun k hk hn => h.block k hk (fun e => hn (hr k e.symm))⟩
theorem Turned.of_below {F : Nat → Prop} {w w' : World} (h : Below w.heap.size w w') : Turned F w w' := ⟨h.os, h.tape, h.output, h.size, fun k hk _ => h.block k hk⟩
/-- .. one after the other: what is new in between may turn -/
theorem Turned.trans {F G : Nat → Prop} {w w1 w2 : World} (h : Turned F w w1) (h' : Turned G w1 w2) (hG : ∀ k, G k → F k ∨ w.heap.size ≤ k) : Turned F w w2 :=
  ⟨h'.os.trans h.os, h'.tape.trans h.tape, h'.output.trans h.output, Nat.le_trans h.size h'.size, fun k hk hn => (h'.block k (Nat.lt_of_lt_of_le hk h.size) (fun g => by rcases hG k g with h1 | h1; exact hn h1; omega)).trans (h.block k hk hn)⟩
theorem Turned.below {F : Nat → Prop} {w w' : World} {B : Nat} (h : Turned F w w') (hB : B ≤ w.heap.size) (hF : ∀ k, F k → B ≤ k) : Below B w w' :=
  ⟨h.os, h.tape, h.output, h.size, fun k hk => h.block k (by omega) (fun f => by have := hF k f; omega)⟩
theorem Turned.weaken {F G : Nat → Prop} {w w' : World} (h : Turned F w w') (hFG : ∀ k, F k → G k) : Turned G w w' := ⟨h.os, h.tape, h.output, h.size, fun k hk hn => h.block k hk (fun f => hn (hFG k f))⟩
theorem Turned.more {F : Nat → Prop} {w wx w1 : World} {row : Option Nat} (h : Turned F w wx) (hg : wx.grownBy w1 row) (hr : ∀ k, row = some k → F k ∨ w.heap.size ≤ k) : Turned F w w1 :=
  h.trans (Turned.of_grown (F := fun k => row = some k) hg (fun k e => e)) hr
/-- a thing: what lies in the blocks F; it stays while these stay -/
structure Thing where
  On : World → (Nat → Prop) → Prop
  lt : ∀ {w : World} {F : Nat → Prop}, On w F → ∀ k, F k → k < w.heap.size
  kept : ∀ {w w' : World} {F G : Nat → Prop}, On w F → Turned G w w' → (∀ k, F k → ¬ G k) → On w' F
/-- two things beside each other -/
def Thing.both (P Q : Thing) : Thing where
  On w F := ∃ F1 F2, P.On w F1 ∧ Q.On w F2 ∧ (∀ k, F1 k → ¬ F2 k) ∧ ∀ k, F k ↔ (F1 k ∨ F2 k)
  lt := by
    rintro w F ⟨F1, F2, h1, h2, h3, h4⟩ k hk
    rcases (h4 k).1 hk with h | h
    · exact P.lt h1 k h
    · exact Q.lt h2 k h
  kept := by
    rintro w w' F G ⟨F1, F2, h1, h2, h3, h4⟩ ht hd
    exact ⟨F1, F2, P.kept h1 ht (fun k h => hd k ((h4 k).2 (.inl h))), Q.kept h2 ht (fun k h => hd k ((h4 k).2 (.inr h))), h3, h4⟩
theorem Thing.below (P : Thing) {w w' : World} {F : Nat → Prop} (h : P.On w F) (hb : Below w.heap.size w w') : P.On w' F :=
  P.kept (G := fun _ => False) h (Turned.of_below hb) (fun _ _ f => f)
/-- what a call may do to a thing in F: there is another thing, in blocks of F or new ones; nothing else has turned -/
def Stp (P : Thing) (F : Nat → Prop) (w w' : World) : Prop := ∃ F', P.On w' F' ∧ Turned F w w' ∧ ∀ k, F' k → F k ∨ w.heap.size ≤ k
theorem Stp.keep (P : Thing) {w w' : World} {F : Nat → Prop} (h : P.On w F) (hb : Below w.heap.size w w') : Stp P F w w' :=
  ⟨F, P.below h hb, ⟨hb.os, hb.tape, hb.output, hb.size, fun k hk _ => hb.block k hk⟩, fun k hk => .inl hk⟩
theorem Turned.iff {F G : Nat → Prop} {w w' : World} (h : Turned F w w') (hi : ∀ k, F k → G k) : Turned G w w' := ⟨h.os, h.tape, h.output, h.size, fun k hk hn => h.block k hk (fun f => hn (hi k f))⟩
/-- a thing that is new beside one that stays -/
theorem Stp.new {P Q : Thing} {w w' : World} {F G : Nat → Prop} (h : P.On w F) (hb : Below w.heap.size w w') (hq : Q.On w' G) (hG : ∀ k, G k → w.heap.size ≤ k) : Stp (P.both Q) F w w' :=
  ⟨fun k => F k ∨ G k, ⟨F, G, P.below h hb, hq, fun k hk hg => by have := P.lt h k hk; have := hG k hg; omega, fun k => Iff.rfl⟩, ⟨hb.os, hb.tape, hb.output, hb.size, fun k hk _ => hb.block k hk⟩,
    fun k hk => hk.elim .inl (fun g => .inr (hG k g))⟩
/-- beside another thing -/
theorem Stp.left {P' Q : Thing} {w w' : World} {F F1 F2 : Nat → Prop} (h2 : Q.On w F2) (h3 : ∀ k, F1 k → ¬ F2 k) (h4 : ∀ k, F k ↔ (F1 k ∨ F2 k)) (h : Stp P' F1 w w') : Stp (P'.both Q) F w w' := by
  obtain ⟨F', a1, a2, a3⟩ := h
  refine ⟨fun k => F' k ∨ F2 k, ⟨F', F2, a1, Q.kept h2 a2 (fun k hk h => h3 k h hk), fun k hk hk2 => ?_, fun k => Iff.rfl⟩, a2.iff (fun k hk => (h4 k).2 (.inl hk)), fun k hk => ?_⟩
  · rcases a3 k hk with g | g
    · exact h3 k g hk2
    · have := Q.lt h2 k hk2; omega
  · rcases hk with hk | hk
    · exact (a3 k hk).elim (fun g => .inl ((h4 k).2 (.inl g))) .inr
    · exact .inl ((h4 k).2 (.inr hk))
theorem Thing.swap {P Q : Thing} {w : World} {F : Nat → Prop} (h : (P.both Q).On w F) : (Q.both P).On w F :=
  let ⟨F1, F2, h1, h2, h3, h4⟩ := h
  ⟨F2, F1, h2, h1, fun k hk hk1 => h3 k hk1 hk, fun k => (h4 k).trans Or.comm⟩
theorem Stp.swap {P Q : Thing} {w w' : World} {F : Nat → Prop} (h : Stp (P.both Q) F w w') : Stp (Q.both P) F w w' :=
  let ⟨F', h1, h2, h3⟩ := h
  ⟨F', Thing.swap h1, h2, h3⟩
theorem Thing.assoc {P Q R : Thing} {w : World} {F : Nat → Prop} (h : ((P.both Q).both R).On w F) : (P.both (Q.both R)).On w F := by
  obtain ⟨G, F3, ⟨F1, F2, h1, h2, h3, h4⟩, h5, h6, h7⟩ := h
  refine ⟨F1, fun k => F2 k ∨ F3 k, h1, ⟨F2, F3, h2, h5, fun k hk => h6 k ((h4 k).2 (.inr hk)), fun k => Iff.rfl⟩, fun k hk g => ?_, fun k => ?_⟩
  · rcases g with g | g
    · exact h3 k hk g
    · exact h6 k ((h4 k).2 (.inl hk)) g
  · rw [h7 k, h4 k, or_assoc]
/-- what the call has of its own, in a world that came of w0 -/
def Has (P : Thing) (w0 w : World) : Prop := ∃ F, P.On w F ∧ (∀ k, F k → w0.heap.size ≤ k) ∧ Below w0.heap.size w0 w
theorem Has.base {P : Thing} {w0 w : World} (h : Has P w0 w) : Below w0.heap.size w0 w := let ⟨_, _, _, h⟩ := h; h
theorem Has.size {P : Thing} {w0 w : World} (h : Has P w0 w) : w0.heap.size ≤ w.heap.size := h.base.size
theorem Has.below {P : Thing} {w0 w w' : World} (h : Has P w0 w) (hb : Below w.heap.size w w') : Has P w0 w' :=
  let ⟨F, h1, h2, h3⟩ := h
  ⟨F, P.below h1 hb, h2, below_join h3 hb⟩
theorem Has.left {P Q : Thing} {w0 w : World} (h : Has (P.both Q) w0 w) : Has P w0 w :=
  let ⟨F, ⟨F1, F2, h1, h2, h3, h4⟩, h5, h6⟩ := h
  ⟨F1, h1, fun k hk => h5 k ((h4 k).2 (.inl hk)), h6⟩
theorem Has.right {P Q : Thing} {w0 w : World} (h : Has (P.both Q) w0 w) : Has Q w0 w :=
  let ⟨F, ⟨F1, F2, h1, h2, h3, h4⟩, h5, h6⟩ := h
  ⟨F2, h2, fun k hk => h5 k ((h4 k).2 (.inr hk)), h6⟩
theorem Has.swap {P Q : Thing} {w0 w : World} (h : Has (P.both Q) w0 w) : Has (Q.both P) w0 w :=
  let ⟨F, h1, h2, h3⟩ := h
  ⟨F, Thing.swap h1, h2, h3⟩
theorem Has.assoc {P Q R : Thing} {w0 w : World} (h : Has ((P.both Q).both R) w0 w) : Has (P.both (Q.both R)) w0 w :=
  let ⟨F, h1, h2, h3⟩ := h
  ⟨F, Thing.assoc h1, h2, h3⟩
theorem Has.assoc' {P Q R : Thing} {w0 w : World} (h : Has (P.both (Q.both R)) w0 w) : Has ((P.both Q).both R) w0 w := h.swap.assoc.swap.assoc.swap
theorem Has.new {P Q : Thing} {w0 w w' : World} {G : Nat → Prop} (h : Has P w0 w) (hb : Below w.heap.size w w') (hq : Q.On w' G) (hG : ∀ k, G k → w.heap.size ≤ k) : Has (P.both Q) w0 w' := by
  have hs := h.size
  obtain ⟨F, h1, h2, h3⟩ := h
  obtain ⟨F', a1, a2, a3⟩ := Stp.new h1 hb hq hG
  refine ⟨F', a1, fun k hk => ?_, below_join h3 hb⟩
  rcases a3 k hk with g | g
  · exact h2 k g
  · omega
theorem Has.one {Q : Thing} {w0 w w' : World} {G : Nat → Prop} (h : Below w0.heap.size w0 w) (hb : Below w.heap.size w w') (hq : Q.On w' G) (hG : ∀ k, G k → w.heap.size ≤ k) : Has Q w0 w' :=
  ⟨G, hq, fun k hk => Nat.le_trans h.size (hG k hk), below_join h hb⟩
/-- a step -/
theorem Has.stp {P P' : Thing} {w0 w w' : World} {F : Nat → Prop} (h1 : ∀ k, F k → w0.heap.size ≤ k) (h2 : Below w0.heap.size w0 w) (h : Stp P' F w w') : Has P' w0 w' := by
  obtain ⟨F', a1, a2, a3⟩ := h
  refine ⟨F', a1, fun k hk => ?_, h2.trans (a2.below h2.size h1)⟩
  rcases a3 k hk with g | g
  · exact h1 k g
  · exact Nat.le_trans h2.size g
/-- a contract: a call that is made where P lies gives an ending and another thing -/
def Trip (prog : Program) (P : Thing) (f : FuncId) (args : Array Value) (R : Ending → Thing → Prop) : Prop :=
  ∀ w F, P.On w F → Calls prog f args w fun e w' => ∃ P', R e P' ∧ Stp P' F w w'
theorem Trip.left {prog : Program} {P Q : Thing} {f : FuncId} {args : Array Value} {R : Ending → Thing → Prop} (h : Trip prog P f args R) : Trip prog (P.both Q) f args fun e T => ∃ P', R e P' ∧ T = P'.both Q := by
  rintro w F ⟨F1, F2, h1, h2, h3, h4⟩
  refine (h w F1 h1).mono ?_
  rintro e w' ⟨P', a1, a2⟩
  exact ⟨P'.both Q, ⟨P', a1, rfl⟩, a2.left h2 h3 h4⟩
theorem Trip.right {prog : Program} {P Q : Thing} {f : FuncId} {args : Array Value} {R : Ending → Thing → Prop} (h : Trip prog P f args R) : Trip prog (Q.both P) f args fun e T => ∃ P', R e P' ∧ T = Q.both P' := by
  intro w F hh
  refine (h.left (Q := Q) w F (Thing.swap hh)).mono ?_
  rintro e w' ⟨T, ⟨P', a1, rfl⟩, a2⟩
  exact ⟨_, ⟨P', a1, rfl⟩, a2.swap⟩
theorem Trip.call {prog : Program} {P : Thing} {f : FuncId} {args : Array Value} {R : Ending → Thing → Prop} (h : Trip prog P f args R) {w0 w : World} (hw : Has P w0 w) : Calls prog f args w fun e w' => ∃ P', R e P' ∧ Has P' w0 w' := by
  obtain ⟨F, h1, h2, h3⟩ := hw
  refine (h w F h1).mono ?_
  rintro e w' ⟨P', a1, a2⟩
  exact ⟨P', a1, Has.stp (P := P) h2 h3 a2⟩
theorem row_turned {w w' : World} {G : Nat → Prop} {base : Nat} {e : TypeId} {size : Nat} {v : Value} {n : Nat} {xs : List Value} (h : w.ownsRow base e size v n xs) (ht : Turned G w w') (hn : ∀ k, v.ownBlock = some k → ¬ G k) : w'.ownsRow base e size v n xs := by
  refine ⟨h.1, ?_⟩
  rcases h.2 with h1 | ⟨g, cap, cur, rfl, h1, h2, h3⟩
  · exact .inl h1
  · exact .inr ⟨g, cap, cur, rfl, h1, (ht.block g (Array.getElem?_eq_some_iff.1 h2).1 (hn g rfl)).trans h2, h3⟩
/-- a row of cells that the call owns -/
def RowT (e : TypeId) (size : Nat) (v : Value) (n : Nat) (xs : List Value) : Thing where
  On w F := w.ownsRow 0 e size v n xs ∧ ∀ k, F k ↔ v.ownBlock = some k
  lt := by
    rintro w F ⟨h1, h2⟩ k hk
    exact (rows_lt h1 k ((h2 k).1 hk)).2
  kept := by
    rintro w w' F G ⟨h1, h2⟩ ht hd
    exact ⟨row_turned h1 ht (fun k hk => hd k ((h2 k).2 hk)), h2⟩
theorem RowT.new {w : World} {B : Nat} {e : TypeId} {size : Nat} {v : Value} {n : Nat} {xs : List Value} (h : w.ownsRow B e size v n xs) : (RowT e size v n xs).On w (fun k => v.ownBlock = some k) ∧ ∀ k, v.ownBlock = some k → B ≤ k :=
  ⟨⟨ownsRow_base_a h (Nat.zero_le _), fun k => Iff.rfl⟩, fun k hk => (rows_lt h k hk).1⟩
/-- a row that a call has made -/
theorem Has.row {P : Thing} {w0 w w' : World} {e : TypeId} {size : Nat} {v : Value} {n : Nat} {xs : List Value} (h : Has P w0 w) (hb : Below w.heap.size w w') (hr : w'.ownsRow w.heap.size e size v n xs) : Has (P.both (RowT e size v n xs)) w0 w' :=
  h.new hb (RowT.new hr).1 (RowT.new hr).2
theorem Has.rowOf {e : TypeId} {size : Nat} {v : Value} {n : Nat} {xs : List Value} {w0 w : World} (h : Has (RowT e size v n xs) w0 w) : w.ownsRow 0 e size v n xs := let ⟨_, h, _⟩ := h; h.1
/-- the empty thing -/
def Thing.nil : Thing where
  On w F := ∀ k, ¬ F k
  lt := fun h k hk => absurd hk (h k)
  kept := fun h _ _ => h
theorem Has.nil {w0 w : World} (h : Below w0.heap.size w0 w) : Has Thing.nil w0 w := ⟨fun _ => False, fun k h => h, fun k h => h.elim, h⟩
end Go.Proofs.YtpblfpnldbdncaaGreatDoor
namespace Go.Proofs.YtpblfpnldbdncaaGreatDoor
open Go.RowKit Go.Sort
set_option linter.unusedVariables false
/-- a kind of rows: an element's cells -/
structure Rk (P : Program) (α : Type) where
  ty : TypeId
  sl : TypeId
  size : Nat
  bytes : Nat
  zero : Value
  enc : α → List Value
  ok : α → Prop
  len : ∀ {x}, ok x → (enc x).length = size
  one : ∀ {x}, ∀ u ∈ enc x, u.oneCell' = true
  und : P.underlying sl = some (.slice ty)
  info : (P.info? ty).map (fun i => (i.zero, i.size, i.bytes)) = some (some zero, size, bytes)
  zsize : zero.cells.size = size
  pos : 0 < size
  small : bytes ≤ 1000 ∧ size ≤ 1000
section
variable {P : Program} {α : Type}
def Rk.cells (R : Rk P α) (xs : List α) : List Value := xs.flatMap R.enc
theorem Rk.cells_cons (R : Rk P α) (x : α) (xs : List α) : R.cells (x :: xs) = R.enc x ++ R.cells xs := rfl
theorem Rk.cells_append (R : Rk P α) (xs ys : List α) : R.cells (xs ++ ys) = R.cells xs ++ R.cells ys := by simp [Rk.cells]
theorem Rk.cells_length (R : Rk P α) : ∀ {xs : List α}, (∀ x ∈ xs, R.ok x) → (R.cells xs).length = xs.length * R.size
  | [], _ => by simp [Rk.cells]
  | x :: xs, h => by
    rw [R.cells_cons, List.length_append, R.len (h x (by simp)), Rk.cells_length R (fun y hy => h y (by simp [hy])), List.length_cons, Nat.add_mul, Nat.one_mul, Nat.add_comm]
theorem Rk.cells_one (R : Rk P α) (xs : List α) : ∀ u ∈ R.cells xs, u.oneCell' = true := by
  intro u hu
  obtain ⟨x, _, hx⟩ := List.mem_flatMap.1 hu
  exact R.one u hx
/-- the cells of element k -/
theorem Rk.cells_get (R : Rk P α) : ∀ {xs : List α} {k : Nat} {x : α}, (∀ x ∈ xs, R.ok x) → xs[k]? = some x → ∀ j v, (R.enc x)[j]? = some v → (R.cells xs)[k * R.size + j]? = some v
  | [], k, x, _, hx, _, _, _ => by simp at hx
  | y :: xs, 0, x, h, hx, j, v, hv => by
    simp only [List.getElem?_cons_zero, Option.some.injEq] at hx
    subst hx
    rw [R.cells_cons, Nat.zero_mul, Nat.zero_add, List.getElem?_append_left (List.getElem?_eq_some_iff.1 hv).1]
    exact hv
  | y :: xs, k + 1, x, h, hx, j, v, hv => by
    have hl := R.len (h y (by simp))
    have e : (k + 1) * R.size + j = R.size + (k * R.size + j) := by rw [Nat.add_mul, Nat.one_mul]; omega
    rw [R.cells_cons, e, List.getElem?_append_right (by omega), hl, show R.size + (k * R.size + j) - R.size = k * R.size + j by omega]
    exact Rk.cells_get R (fun z hz => h z (by simp [hz])) (by simpa using hx) j v hv
/-- a row that a call owns -/
def OwnsR (R : Rk P α) (w : World) (base : Nat) (v : Value) (xs : List α) : Prop := (∀ x ∈ xs, R.ok x) ∧ w.ownsRow base R.ty R.size v xs.length (R.cells xs)
/-- a slice that reads as a list -/
def LiesR (R : Rk P α) (w : World) (v : Value) (xs : List α) : Prop :=
  (∀ x ∈ xs, R.ok x) ∧ ((xs = [] ∧ ∃ ao cap, v = .slice ao 0 cap) ∨ ∃ g o cap, v = .slice (some ⟨g, o, none⟩) xs.length cap ∧ xs.length ≤ cap ∧ g < w.heap.size ∧ w.rangeAt g o (R.cells xs))
def sliceBlk : Value → Option Nat
  | .slice (some a) _ _ => some a.block
  | _ => none
theorem own_blk {v : Value} {b : Nat} (h : v.ownBlock = some b) : sliceBlk v = some b := by
  cases v <;> simp [Value.ownBlock] at h
  rename_i p n c
  cases p with
  | none => simp at h
  | some a => simpa [sliceBlk] using h
variable {R : Rk P α} {w w' : World} {base : Nat} {v : Value} {xs : List α}
theorem OwnsR.nil (R : Rk P α) (w : World) (base : Nat) : OwnsR R w base (.slice none 0 0) [] := ⟨by simp, by simp [Rk.cells], .inl ⟨rfl, rfl⟩⟩
theorem OwnsR.below (h : OwnsR R w base v xs) (hb : Below w.heap.size w w') : OwnsR R w' base v xs := by
  refine ⟨h.1, h.2.1, ?_⟩
  rcases h.2.2 with h1 | ⟨g, cap, cur, rfl, h1, h2, h3⟩
  · exact .inl h1
  · exact .inr ⟨g, cap, cur, rfl, h1, (hb.block g (Array.getElem?_eq_some_iff.1 h2).1).trans h2, h3⟩
theorem OwnsR.grown {row : Option Nat} (h : OwnsR R w base v xs) (hg : w.grownBy w' row) (hne : ∀ b, v.ownBlock = some b → row ≠ some b) : OwnsR R w' base v xs := by
  refine ⟨h.1, h.2.kept hg ?_⟩
  rcases h.2.2 with ⟨rfl, _⟩ | ⟨g, cap, cur, rfl, _⟩
  · exact .inl rfl
  · exact .inr (fun e => hne g rfl e.symm)
theorem OwnsR.base_le (h : OwnsR R w base v xs) : ∀ b, v.ownBlock = some b → base ≤ b ∧ b < w.heap.size := rows_lt h.2
theorem OwnsR.mono {base' : Nat} (h : OwnsR R w base v xs) (hb : base' ≤ base) : OwnsR R w base' v xs := ⟨h.1, ownsRow_base_a h.2 hb⟩
theorem OwnsR.lies (h : OwnsR R w base v xs) : LiesR R w v xs := by
  refine ⟨h.1, ?_⟩
  rcases h.2.2 with ⟨rfl, h1⟩ | ⟨g, cap, cur, rfl, h1, h2, h3, h4, h5, h6⟩
  · exact .inl ⟨List.eq_nil_of_length_eq_zero h1, _, _, rfl⟩
  · refine .inr ⟨g, 0, cap, rfl, ?_, (Array.getElem?_eq_some_iff.1 h2).1, fun j u hu => ?_⟩
    · first | assumption | omega
    · have hl := R.cells_length h.1
      have hj : j < xs.length * R.size := by rw [← hl]; exact (List.getElem?_eq_some_iff.1 hu).1
      rw [Nat.zero_add]
      have := World.ownsRow.cellAt h.2 j hj
      rw [this]
      exact hu
theorem LiesR.below (h : LiesR R w v xs) (hb : Below w.heap.size w w') : LiesR R w' v xs := by
  refine ⟨h.1, ?_⟩
  rcases h.2 with h1 | ⟨g, o, cap, rfl, h1, h2, h3⟩
  · exact .inl h1
  · exact .inr ⟨g, o, cap, rfl, h1, Nat.lt_of_lt_of_le h2 hb.size, fun j u hu => (hb.cell (p := ⟨g, o + j, none⟩) h2).trans (h3 j u hu)⟩
theorem LiesR.lt (h : LiesR R w v xs) : ∀ b, xs ≠ [] → sliceBlk v = some b → b < w.heap.size := by
  rcases h.2 with ⟨rfl, _⟩ | ⟨g, o, cap, rfl, h1, h2, h3⟩
  · intro b h; exact absurd rfl h
  · intro b _ h
    simp only [sliceBlk, Option.some.injEq] at h
    subst h
    exact h2
theorem LiesR.block_kept {G : Nat → Prop} (h : LiesR R w v xs) (ht : Turned G w w') (hd : ∀ k, sliceBlk v = some k → ¬ G k) : LiesR R w' v xs := by
  refine ⟨h.1, ?_⟩
  rcases h.2 with h1 | ⟨g, o, cap, rfl, h1, h2, h3⟩
  · exact .inl h1
  · refine .inr ⟨g, o, cap, rfl, h1, Nat.lt_of_lt_of_le h2 ht.size, fun j u hu => ?_⟩
    have hb := ht.block g h2 (hd g rfl)
    have := h3 j u hu
    unfold World.cell? at this ⊢
    simp only at this ⊢
    rw [hb]
    exact this
/-- the slice's shape -/
theorem LiesR.slice (h : LiesR R w v xs) {n : Nat} (hn : xs.length = n) : ∃ ao cap, v = .slice ao n cap ∧ n ≤ cap ∨ (v = .slice ao n cap ∧ n = 0) := by
  rcases h.2 with ⟨rfl, ao, cap, rfl⟩ | ⟨g, o, cap, rfl, h1, _⟩
  · exact ⟨ao, cap, .inr ⟨by rw [← hn]; rfl, by rw [← hn]; rfl⟩⟩
  · exact ⟨_, cap, .inl ⟨by rw [hn], by omega⟩⟩
theorem LiesR.at (h : LiesR R w v xs) {k : Nat} {x : α} (hx : xs[k]? = some x) : ∃ g o cap, v = .slice (some ⟨g, o, none⟩) xs.length cap ∧ xs.length ≤ cap ∧ g < w.heap.size ∧ w.rangeAt g (o + k * R.size) (R.enc x) ∧ R.ok x := by
  rcases h.2 with ⟨rfl, _⟩ | ⟨g, o, cap, rfl, h1, h2, h3⟩
  · simp at hx
  · refine ⟨g, o, cap, rfl, h1, h2, fun j u hu => ?_, h.1 x (List.mem_of_getElem? hx)⟩
    rw [Nat.add_assoc]
    exact h3 _ u (R.cells_get h.1 hx j u hu)
theorem LiesR.nil (ao : Option Addr) (cap : Nat) : LiesR R w (.slice ao 0 cap) [] := ⟨by simp, .inl ⟨rfl, ao, cap, rfl⟩⟩
/-- a part of a slice -/
theorem LiesR.part {g o n cap : Nat} (h : LiesR R w (.slice (some ⟨g, o, none⟩) n cap) xs) (hn : xs.length = n) (i j : Nat) (hij : i ≤ j) (hj : j ≤ n) (hg : g < w.heap.size) (cap' : Nat) (hcap : j - i ≤ cap') :
    LiesR R w (.slice (some ⟨g, o + i * R.size, none⟩) (j - i) cap') ((xs.take j).drop i) := by
  have hl : ((xs.take j).drop i).length = j - i := by rw [List.length_drop, List.length_take]; omega
  refine ⟨fun x hx => h.1 x (List.mem_of_mem_take (List.mem_of_mem_drop hx)), ?_⟩
  rcases h.2 with ⟨rfl, ao, c, e⟩ | ⟨g', o', cap0, e, h1, h2, h3⟩
  · simp at hn
    exact .inl ⟨by simp, some ⟨g, o + i * R.size, none⟩, cap', by rw [show j - i = 0 by omega]⟩
  · injection e with e1 e2 e3
    injection e1 with e1
    injection e1 with e1 e4
    subst e1 e4
    refine .inr ⟨g, o + i * R.size, cap', by rw [hl], by omega, h2, fun m u hu => ?_⟩
    have hok : ∀ x ∈ xs, R.ok x := h.1
    have hx : xs = xs.take i ++ ((xs.take j).drop i ++ xs.drop j) := by
      conv => lhs; rw [← List.take_append_drop j xs]
      rw [← List.append_assoc]
      congr 1
      conv => lhs; rw [← List.take_append_drop i (xs.take j)]
      rw [List.take_take, Nat.min_eq_left hij]
    have hc : R.cells xs = R.cells (xs.take i) ++ (R.cells ((xs.take j).drop i) ++ R.cells (xs.drop j)) := by
      rw [← R.cells_append, ← R.cells_append, ← hx]
    have hil : (R.cells (xs.take i)).length = i * R.size := by
      rw [R.cells_length (fun x hx => hok x (List.mem_of_mem_take hx)), List.length_take, Nat.min_eq_left (by omega)]
    rw [Nat.add_assoc]
    refine h3 _ u ?_
    rw [hc, List.getElem?_append_right (by omega), hil, show i * R.size + m - i * R.size = m by omega, List.getElem?_append_left (List.getElem?_eq_some_iff.1 hu).1]
    exact hu
theorem OwnsR.cells_at (h : OwnsR R w base v xs) : ∀ b, v.ownBlock = some b → ∃ cs t fr, w.heap[b]? = some (.cells cs t fr) := by
  intro b hb
  rcases h.2.2 with ⟨rfl, _⟩ | ⟨g, cap, cur, rfl, h1, h2, _⟩
  · cases hb
  · have : g = b := by simpa [Value.ownBlock] using hb
    subst this
    exact ⟨_, _, _, h2⟩
/-! operations -/
variable {ops : Array Oper} {rest : List Oper} {o : Oper} {a : Act} {Q : Exit → Act → World → Prop}
/-- a literal of one element -/
theorem wpList_build_r (R : Rk P α) (hg : o.guard = none) (x : Operand) (hop : o.op = Op.buildSlice R.sl 1 #[(0, x)]) {y : α} (hy : R.ok y) (u : Value) (hx : a.eval x = u) (hu : u.cells = (R.enc y).toArray)
    (h : wpList P ops Q rest (a.put o.dst (.slice (some ⟨w.heap.size, 0, none⟩) 1 1)) (w.alloc (.cells (R.enc y).toArray R.ty))) : wpList P ops Q (o :: rest) a w := by
  obtain ⟨i0, hi, hz0, hz1, hz2⟩ := info_parts R.info
  have hp := R.pos
  have hsm := R.small
  have hf := Great.fill_whole (s := R.size) R.pos [u] ((Array.range (1 * R.size)).map (R.zero.cells[· % R.zero.cells.size]!)) (fun z hz => by
    simp only [List.mem_cons, List.not_mem_nil, or_false] at hz
    subst hz
    rw [hu, List.size_toArray, R.len hy]) (by simp)
  have e2 : ([u].flatMap fun z => z.cells.toList).toArray = (R.enc y).toArray := by simp [hu]
  rw [e2] at hf
  have hr := run_buildSlice (P := P) w R.sl R.ty 1 #[(0, u)] (R.enc y).toArray i0 _ R.und hi hz0 (by rw [hz1]; omega) (by rw [hz1]; omega) (by rw [hz1]; exact hf)
  refine wpList_plain hg fun K' hK' => ?_
  unfold Oper.wp
  simp [execOp, hop, hx, hr, Result.andThen]
  exact hK' _ _ h
/-- an append of one element, out of a literal of one -/
theorem wpList_append_r (R : Rk P α) (hgd : o.guard = none) (s x : Operand) (ho : o.op = Op.call { callee := Callee.builtin Builtin.append, args := #[s, x], argTypes := #[R.sl, R.sl] })
    (base : Nat) (v : Value) (xs : List α) (y : α) (B : Nat) (hsv : a.eval s = v) (hx : a.eval x = .slice (some ⟨B, 0, none⟩) 1 1) (hown : OwnsR R w base v xs) (hy : R.ok y) (hB : w.heap[B]? = some (.cells (R.enc y).toArray R.ty (0, 0))) (hl : xs.length ≤ 100000) (hb : base ≤ w.heap.size)
    (h : ∀ v' w', OwnsR R w' base v' (xs ++ [y]) → w.grownBy w' v.ownBlock → wpList P ops Q rest (a.put o.dst v') w') :
    wpList P ops Q (o :: rest) a w := by
  obtain ⟨i0, hi, hz0, hz1, hz2⟩ := info_parts R.info
  have hsm := R.small
  refine wpList_append_own (P := P) w hgd s x R.sl ho base R.ty i0 _ R.size R.bytes R.und hi hz0 hz1 hz2 R.zsize R.pos v xs.length (R.cells xs) hsv hown.2 ⟨B, 0, none⟩ 1 1 (R.enc y) hx (by rw [R.len hy, Nat.one_mul]) (World.news_of_block hB)
    (fun u hu => R.one u hu) (by unfold maxLen; omega) (by have := Nat.mul_le_mul (show xs.length + 1 ≤ 100001 by omega) hsm.1; omega) hb (fun v' w' h1 h2 _ => h v' w' ⟨?_, ?_⟩ h2)
  · intro z hz
    rcases List.mem_append.1 hz with hz | hz
    · exact hown.1 z hz
    · simp only [List.mem_cons, List.not_mem_nil, or_false] at hz
      subst hz
      exact hy
  · rw [R.cells_append, List.length_append]
    have e : R.cells [y] = R.enc y := by simp [Rk.cells]
    rw [e]
    exact h1
end
end Go.Proofs.YtpblfpnldbdncaaGreatDoor
namespace Go.Proofs.YtpblfpnldbdncaaGreatDoor
open Go.RowKit Go.Sort
set_option linter.unusedVariables false
section
variable {P : Program} {ops : Array Oper} {md : Region.Mode} {C : World → Prop}
/-- f operations of the head, in whatever order, then L -/
def headQ (P : Program) (md : Region.Mode) (ops : Array Oper) (C : World → Prop) (n : Nat) (L : Array Bool → Act → Prop) : Nat → Array Bool → Act → Prop
  | 0, d, a => L d a
  | f + 1, d, a => Region.ready md ops d ≠ [] ∧ ∀ i ∈ Region.ready md ops d, i < n ∧ qOp P ops C i (headQ P md ops C n L f (d.setIfInBounds i true)) a
theorem headQ_any {n g : Nat} {L : Array Bool → Act → Prop} {Q : Exit → Act → World → Prop} (hL : ∀ d a w, C w → L d a → wpAny P md ops Q g d a w) :
    ∀ (f : Nat) (d : Array Bool) (a : Act) (w : World), C w → headQ P md ops C n L f d a → wpAny P md ops Q (f + g) d a w
  | 0, d, a, w, hw, h => by rw [Nat.zero_add]; exact hL _ _ _ hw h
  | f + 1, d, a, w, hw, h => by
    rw [show f + 1 + g = (f + g) + 1 by omega]
    exact ⟨fun h0 => absurd h0 h.1, fun i hi => wpOp_of_qOp hw (fun a' w' hw' h' => headQ_any hL f _ a' w' hw' h') (h.2 i hi).2⟩
/-- one of the head that may come up now, taken first -/
theorem headQ_first {n i : Nat} {oi : Oper} {v : Value} {L : Array Bool → Act → Prop} (hi : ops[i]? = some oi) (hsel : ∀ (j : Nat) (o : Oper) cs b, ops[j]? = some o → o.op ≠ .select cs b)
    (hs : Region.sinkB md ops n = true) (hc : Region.chainB md ops n = true) (hn : n < ops.size) (hin : i < n) (hdone : ∀ d a, L d a → ∀ j ∈ Region.ready md ops d, n ≤ j) :
    ∀ (f : Nat) (d : Array Bool) (a : Act), HeadInv md ops n d →
      (∀ j oj, ops[j]? = some oj → j ≠ i → d.getD j true = false → (∀ e ∈ oj.after, Region.binds md e = true → e.on ≠ i) → oi.apart ops oj = true) →
      i ∈ Region.ready md ops d → YieldsIn P ops C oi v a → headQ P md ops C n L f (d.setIfInBounds i true) (a.put oi.dst v) → headQ P md ops C n L (f + 1) d a := by
  intro f
  induction f with
  | zero =>
    intro d a inv _ hr hy H
    refine ⟨List.ne_nil_of_mem hr, fun j hj => ?_⟩
    have hjn : j < n := Nat.lt_of_not_le fun h => tail_waits hs hc hn inv _ i rfl hin (mem_ready.1 hr).1 j h hj
    refine ⟨hjn, ?_⟩
    by_cases e : j = i
    · rw [e]; exact hy.qOp hi H
    · exact absurd (hdone _ _ H j (ready_mono hj e)) (by omega)
  | succ f ih =>
    intro d a inv hfree hr hy H
    have hun := (mem_ready.1 hr).1
    refine ⟨List.ne_nil_of_mem hr, fun j hj => ?_⟩
    have hjn : j < n := Nat.lt_of_not_le fun h => tail_waits hs hc hn inv _ i rfl hin hun j h hj
    refine ⟨hjn, ?_⟩
    by_cases e : j = i
    · rw [e]; exact hy.qOp hi H
    · obtain ⟨hjun, oj, hoj, hall⟩ := mem_ready.1 hj
      have hnot : ∀ e ∈ oj.after, Region.binds md e = true → e.on ≠ i := fun e he hb heq => by
        have h1 := hall e he hb
        rw [heq, getD_both hun] at h1
        cases h1
      have h2 := qOp_put hoj (hfree j oj hoj e hjun hnot) (fun cs b => hsel i oi cs b hi) (fun cs b => hsel j oj cs b hoj) hy (H.2 j (ready_mono hj e)).2
      refine qOp_mono (fun a' h3 => ih (d.setIfInBounds j true) a' (inv.set hj hjn) (fun k ok hk hki hu hno => hfree k ok hk hki ?_ hno) (ready_mono hr (Ne.symm e)) h3.1 (by rw [Array.setIfInBounds_comm _ _ e]; exact h3.2)) h2
      by_cases hjk : j = k
      · rw [← hjk]; exact hjun
      · rw [getD_set_ne true hjk] at hu; exact hu
theorem headQ_lex {n g : Nat} {Lq : Act → Prop} (hsel : Region.noSelect ops = true) (hs : Region.sinkB md ops n = true) (hc : Region.chainB md ops n = true) (hn : n < ops.size) :
    ∀ (l : List Oper) (k : Nat) (d : Array Bool) (a : Act), (∀ j, j < l.length → l[j]? = ops[k + j]?) → k + l.length = n → HeadInv md ops n d →
    Region.lexHead md ops g l.length k d = true → wpQuiet P ops C Lq l a → headQ P md ops C n (fun d' a' => Region.seqB md ops g n d' = true ∧ Lq a') l.length d a
  | [], k, d, a, _, hk, _, hB, h => by
    have : k = n := by simpa using hk
    rw [this] at hB
    exact ⟨hB, h⟩
  | o :: l, k, d, a, hl, hk, inv, hB, h => by
    have h0 : ops[k]? = some o := by simpa using (hl 0 (by simp)).symm
    simp only [List.length_cons, Region.lexHead, Bool.and_eq_true] at hB
    obtain ⟨⟨hr, hf⟩, hB'⟩ := hB
    rw [List.length_cons] at hk
    have hr' : k ∈ Region.ready md ops d := by simpa using hr
    obtain ⟨v, hy, hK⟩ := yieldsIn_of_qOp h0 (show qOp P ops C k (wpQuiet P ops C Lq l) a by unfold qOp; simp only [h0]; exact h)
    exact headQ_first h0 (Region.noSelect_spec hsel) hs hc hn (by omega) (fun d' a' hL => seqB_ready hL.1) l.length d a inv (Region.free_spec h0 hf) hr' hy
      (headQ_lex hsel hs hc hn l (k + 1) _ _ (fun j hj => by have := hl (j + 1) (by simp; omega); simpa [Nat.add_assoc, Nat.add_comm 1 j] using this) (by omega) (inv.set hr' (by omega)) hB' hK)
/-- THE LAW: the first n operations quiet in the class, one walk in the order of the text; the others in their one order, from every world of the class. -/
theorem wp_region_quiet_tail {id : Nat} {Q : Exit → Act → World → Prop} {a : Act} {w : World} {l : List Oper} (n : Nat) (hm : P.follows .mixedOrders = true) (hB : Region.lexTailB .any l.toArray n = true) (hC : C { w with drawn := w.drawn + 1 })
    (h : wpQuiet P l.toArray C (fun a' => ∀ w', C w' → wpList P l.toArray Q (l.drop n) a' w') (l.take n) a) : (Code.region id l.toArray true).wp P Q a w := by
  simp only [Region.lexTailB, Bool.and_eq_true, decide_eq_true_eq] at hB
  obtain ⟨⟨⟨⟨hsel, hn⟩, hs⟩, hc⟩, hlex⟩ := hB
  have htl : (l.take n).length = n := by have : n < l.length := by simpa using hn
                                         simp; omega
  have hdl : (l.drop n).length = l.toArray.size - n := by simp
  have inv0 : HeadInv .any l.toArray n (Array.replicate l.toArray.size false) :=
    ⟨by simp, fun j oj _ hl => (by rw [getD_replicate_false] at hl; cases hl), fun t _ ht => getD_in (by simpa using ht) (getD_replicate_false _ _)⟩
  have H := headQ_lex (md := .any) (g := l.toArray.size - n) hsel hs hc hn (l.take n) 0 _ a (fun j hj => by
    rw [htl] at hj
    simp [hj]) (by simpa using htl) inv0 (by rw [htl]; exact hlex) h
  refine wp_region_any hm ?_
  have := headQ_any (Q := Q) (g := l.toArray.size - n) (fun d a' w' hw' hL => by
    have := wpAny_of_seq (md := .any) (Q' := Q) (l.drop n) n d a' w' (fun j => by simp [List.getElem?_drop]) (by rw [hdl]; exact hL.1) (hL.2 w' hw')
    rwa [hdl] at this) _ _ _ _ hC H
  rw [htl, show n + (l.toArray.size - n) = l.toArray.size by omega] at this
  exact this
/-- .. at the class of the worlds that have laid memory since -/
theorem wp_region_tail_below {id : Nat} {Q : Exit → Act → World → Prop} {a : Act} {w : World} {l : List Oper} (n : Nat) (hm : P.follows .mixedOrders = true) (hB : Region.lexTailB .any l.toArray n = true)
    (h : wpQuiet P l.toArray (fun w' => ∃ p : Regrown, w' = grow (redrawn w p.d) p.os) (fun a' => ∀ w', (∃ p : Regrown, w' = grow (redrawn w p.d) p.os) → wpList P l.toArray Q (l.drop n) a' w') (l.take n) a) : (Code.region id l.toArray true).wp P Q a w :=
  wp_region_quiet_tail (C := fun w' => ∃ p : Regrown, w' = grow (redrawn w p.d) p.os) n hm hB ⟨⟨w.drawn + 1, #[]⟩, by rw [grow_empty]; rfl⟩ h
end
end Go.Proofs.YtpblfpnldbdncaaGreatDoor
namespace Go.Proofs.YtpblfpnldbdncaaGreatDoor
open Go.RowKit Go.Sort
set_option linter.unusedVariables false
section
variable {P : Program} {ops : Array Oper} {md : Region.Mode} {S : World → Prop} {Q : Exit → Act → World → Prop}
/-- kinds of operations that call no function of the text -/
def plainKind (o : Oper) : Bool := match o.op with
  | .move _ | .assign _ | .pick .. | .load .. | .binOp .. | .unOp .. | .convert .. | .fieldAddr .. | .field .. | .indexAddr .. | .index .. | .slice .. | .lookup .. | .build .. => true
  | .call c => match c.callee with
    | .builtin .len => true
    | _ => false
  | _ => false
theorem then_ok {α : Type} {r : Result α} {g : α → Value} {n : Next} {w' : World} (h : (r.andThen fun a w => Result.ok (Next.value (g a)) w) = .ok n w') : ∃ u, n = .value u := by
  cases r with
  | ok u w1 =>
    simp only [Result.andThen_ok] at h
    injection h with h1 h2
    exact ⟨_, h1.symm⟩
  | halt x w1 => simp [Result.andThen] at h
theorem plain_value {o : Oper} {ρ : Operand → Value} (hp : plainKind o = true) {w w' : World} {n : Next} (h : (execOp ρ o).run P w = .ok n w') : ∃ u, n = .value u := by
  obtain ⟨dst, op, ty, pos, after, guard⟩ := o
  unfold plainKind at hp
  cases op <;> simp only [Bool.false_eq_true] at hp
  case move x => injection h with h1 h2; exact ⟨_, h1.symm⟩
  case assign x => injection h with h1 h2; exact ⟨_, h1.symm⟩
  case call c =>
    obtain ⟨callee, args, tys⟩ := c
    cases callee <;> simp only [Bool.false_eq_true] at hp
    rename_i b
    cases b <;> simp only [Bool.false_eq_true] at hp
    simp only [execOp, resolve, Sem.run_bind, Sem.run_pure, Result.andThen_ok, invoke, builtin] at h
    exact then_ok (g := id) h
  all_goals (unfold execOp at h; simp only [Sem.run_bind, Sem.run_pure] at h; first | exact then_ok (g := id) h | exact then_ok h)
/-- what is quiet in a class and calls nothing yields in every world of the class -/
theorem yieldsIf_of_quiet {o : Oper} {v : Value} {a : Act} (hp : plainKind o = true) (h : YieldsIn P ops S o v a) : YieldsIf P ops S o v a := by
  rcases h with ⟨hw, h⟩ | h
  · refine .inl ⟨hw, fun w hS => ?_⟩
    have h1 := h w hS
    unfold Oper.quietAt at h1
    cases hr : (execOp a.eval o).run P w with
    | ok n w' =>
      obtain ⟨u, rfl⟩ := plain_value hp hr
      rw [hr] at h1
      obtain ⟨rfl, rfl⟩ := h1
      rfl
    | halt x w' => rw [hr] at h1; exact h1.elim
  · exact .inr h
/-! the plan: numbers of operations -/
def opN (l : List Oper) (n : Nat) : Oper := l.getD n ⟨none, .move (.const undef), 0, "", #[], none⟩
def takeB (md : Region.Mode) (ops : Array Oper) : List Nat → Array Bool → Bool
  | [], _ => true
  | i :: l, d => Region.free md ops d i && (Region.ready md ops d).contains i && decide (i < ops.size) && (match ops[i]? with | some o => plainKind o | none => false) && takeB md ops l (d.setIfInBounds i true)
def setAll (l : List Nat) (d : Array Bool) : Array Bool := l.foldl (fun d i => d.setIfInBounds i true) d
def planB (md : Region.Mode) (ops : Array Oper) (last : List Nat) : List (List Nat × Nat) → Array Bool → Bool
  | [], d => takeB md ops last d && (Region.ready md ops (setAll last d)).isEmpty
  | (ys, j) :: rest, d => takeB md ops ys d && (Region.ready md ops (setAll ys d) == [j]) && decide (j < ops.size) && planB md ops last rest ((setAll ys d).setIfInBounds j true)
/-- the walk: segments of operations that yield, each with a step behind it -/
def wpSegs (P : Program) (ops : Array Oper) (Q : Exit → Act → World → Prop) (S : World → Prop) (last : List Oper) : List (List Oper × Oper) → Act → World → Prop
  | [], a, w => wpQuiet P ops S (fun a' => Q .normal a' w) last a
  | (ys, o) :: rest, a, w => wpQuiet P ops S (fun a' => Region.wanted o (yielded ops a'.tmps) = true ∧ Oper.wp P o a' w (fun a'' w'' => S w'' ∧ wpSegs P ops Q S last rest a'' w'') Q) ys a
theorem opN_get {l : List Oper} {n : Nat} (h : n < l.toArray.size) : l.toArray[n]? = some (opN l n) := by
  have h' : n < l.length := by simpa using h
  simp [opN, List.getD_eq_getElem?_getD, List.getElem?_eq_getElem h']
theorem take_list {l : List Oper} (hsel : Region.noSelect l.toArray = true) (hQ : ∀ c a d v w, Q (.panic c) (Act.put a d v) w → Q (.panic c) a w) {K : Act → Prop} {w : World} (hS : S w) :
    ∀ (ns : List Nat) (d : Array Bool) (a : Act) (fuel : Nat), takeB md l.toArray ns d = true → wpQuiet P l.toArray S K (ns.map (opN l)) a →
      (∀ a', K a' → wpAnyH P md l.toArray Q S fuel (setAll ns d) a' w) → wpAnyH P md l.toArray Q S (ns.length + fuel) d a w
  | [], d, a, fuel, _, h, hK => by rw [List.length_nil, Nat.zero_add]; exact hK a h
  | i :: ns, d, a, fuel, hB, h, hK => by
    simp only [takeB, Bool.and_eq_true, decide_eq_true_eq] at hB
    obtain ⟨⟨⟨⟨h1, h2⟩, h3⟩, h4⟩, h5⟩ := hB
    have h0 := opN_get h3
    rw [h0] at h4
    have h4' : plainKind (opN l i) = true := h4
    obtain ⟨v, hy, hk⟩ := yieldsIn_of_qOp h0 (show qOp P l.toArray S i (wpQuiet P l.toArray S K (ns.map (opN l))) a by unfold qOp; simp only [h0]; exact h)
    rw [List.length_cons, show ns.length + 1 + fuel = (ns.length + fuel) + 1 by omega]
    exact wpAnyH_take h0 hsel h1 h2 (fun c a' w' => hQ c a' _ _ w') (yieldsIf_of_quiet h4' hy) hS (take_list hsel hQ hS ns _ _ fuel h5 hk hK)
def planSize (last : List Nat) : List (List Nat × Nat) → Nat
  | [] => last.length
  | (ys, _) :: rest => ys.length + (1 + planSize last rest)
theorem plan_walk {l : List Oper} (hsel : Region.noSelect l.toArray = true) (hQ : ∀ c a d v w, Q (.panic c) (Act.put a d v) w → Q (.panic c) a w) (last : List Nat) :
    ∀ (ps : List (List Nat × Nat)) (d : Array Bool) (a : Act) (w : World) (fuel : Nat), planB md l.toArray last ps d = true → S w →
      wpSegs P l.toArray Q S (last.map (opN l)) (ps.map fun x => (x.1.map (opN l), opN l x.2)) a w → wpAnyH P md l.toArray Q S (planSize last ps + fuel) d a w
  | [], d, a, w, fuel, hB, hS, h => by
    simp only [planB, Bool.and_eq_true] at hB
    exact take_list hsel hQ hS last d a fuel hB.1 h (fun a' h' => wpAnyH_done (by simpa using hB.2) h' _)
  | (ys, j) :: ps, d, a, w, fuel, hB, hS, h => by
    simp only [planB, Bool.and_eq_true, decide_eq_true_eq, beq_iff_eq] at hB
    obtain ⟨⟨⟨h1, h2⟩, h3⟩, h4⟩ := hB
    rw [planSize, show ys.length + (1 + planSize last ps) + fuel = ys.length + ((planSize last ps + fuel) + 1) by omega]
    refine take_list hsel hQ hS ys d a _ h1 h (fun a' h' => ?_)
    refine wpAnyH_all h2 (by simp) fun i hi => ?_
    have hi' : i = j := by simpa using hi
    subst hi'
    obtain ⟨hw, hstep⟩ := h'
    refine wpOp_mono (K := fun a'' w'' => S w'' ∧ wpSegs P l.toArray Q S (last.map (opN l)) (ps.map fun x => (x.1.map (opN l), opN l x.2)) a'' w'') (fun a'' w'' h'' => ⟨h''.1, plan_walk hsel hQ last ps _ a'' w'' fuel h4 h''.1 h''.2⟩) ?_
    unfold wpOp
    simp only [opN_get h3, hw, if_true]
    exact .inl hstep
theorem wp_region_plan {id : Nat} {a : Act} {w : World} {l : List Oper} (S : World → Prop) (last : List Nat) (ps : List (List Nat × Nat)) (hm : P.follows .mixedOrders = true) (hsel : Region.noSelect l.toArray = true)
    (hB : (planB .any l.toArray last ps (Array.replicate l.toArray.size false) && decide (planSize last ps = l.toArray.size)) = true) (hS : S w.drew)
    (h : wpSegs P l.toArray (NoPanic Q) S (last.map (opN l)) (ps.map fun x => (x.1.map (opN l), opN l x.2)) a w.drew) : (Code.region id l.toArray true).wp P Q a w := by
  rw [Bool.and_eq_true, decide_eq_true_eq] at hB
  have := plan_walk (md := .any) (Q := NoPanic Q) hsel (fun _ _ _ _ _ h => h) last ps _ a _ 0 hB.1 hS h
  rw [Nat.add_zero, hB.2] at this
  exact wp_region_noPanic (wp_region_held hm this)
/-! a step by the laws for lists of operations -/
def withK (K : Act → World → Prop) (Q : Exit → Act → World → Prop) : Exit → Act → World → Prop
  | .normal, a, w => K a w
  | .panic c, a, w => Q (.panic c) a w
  | _, _, _ => False
theorem wp_withK {o : Oper} {a : Act} {w : World} {K : Act → World → Prop} (h : Oper.wp P o a w K (withK K Q)) : Oper.wp P o a w K Q := by
  unfold Oper.wp at *
  cases hr : (execOp a.eval o).run P w with
  | ok n w' =>
    rw [hr] at h
    cases n <;> first | exact h | skip
    exact Calls.mono h fun e w'' he => by
      cases e with
      | returned u => exact he
      | panicked c => exact he
      | outgrown => obtain ⟨_, _, hf⟩ := he; exact hf.elim
  | halt x w' =>
    rw [hr] at h
    cases x <;> exact h
/-- the operation by itself -/
theorem wp_of_list {o : Oper} {a : Act} {w : World} {K : Act → World → Prop} (h : wpList P #[] (withK K Q) [{ o with guard := none }] a w) : Oper.wp P o a w K Q := by
  unfold wpList at h
  have hw : Region.wanted { o with guard := none } (yielded #[] a.tmps) = true := rfl
  rw [if_pos hw] at h
  rcases h with h | ⟨_, a', w', h⟩
  · exact wp_withK h
  · exact h.elim
/-- a step of the plan -/
theorem segs_step {o : Oper} {a : Act} {w : World} {last : List Oper} {rest : List (List Oper × Oper)} (hw : Region.wanted o (yielded ops a.tmps) = true)
    (h : ∀ K : Act → World → Prop, (∀ a' w', S w' → wpSegs P ops Q S last rest a' w' → K a' w') → Oper.wp P o a w K Q) :
    Region.wanted o (yielded ops a.tmps) = true ∧ Oper.wp P o a w (fun a'' w'' => S w'' ∧ wpSegs P ops Q S last rest a'' w'') Q :=
  ⟨hw, h _ fun a' w' h1 h2 => ⟨h1, h2⟩⟩
theorem segs_cons {a : Act} {w : World} {last ys : List Oper} {o : Oper} {rest : List (List Oper × Oper)} (h : wpQuiet P ops S (fun a' => Region.wanted o (yielded ops a'.tmps) = true ∧ Oper.wp P o a' w (fun a'' w'' => S w'' ∧ wpSegs P ops Q S last rest a'' w'') Q) ys a) : wpSegs P ops Q S last ((ys, o) :: rest) a w := h
theorem segs_nil {a : Act} {w : World} {last : List Oper} (h : wpQuiet P ops S (fun a' => Q .normal a' w) last a) : wpSegs P ops Q S last [] a w := h
end
end Go.Proofs.YtpblfpnldbdncaaGreatDoor
namespace Go.Proofs.YtpblfpnldbdncaaGreatDoor
open Go.RowKit Go.Sort
set_option linter.unusedVariables false
section
variable {P : Program} {ops : Array Oper} {md : Region.Mode} {S : World → Prop} {Q : Exit → Act → World → Prop}
inductive PlanT
  | last (ys : List Nat)
  | one (ys : List Nat) (j : Nat) (t : PlanT)
  | two (ys : List Nat) (j : Nat) (t : PlanT) (k : Nat) (u : PlanT)
def PlanT.size : PlanT → Nat
  | .last ys => ys.length
  | .one ys _ t => ys.length + (1 + t.size)
  | .two ys _ t _ _ => ys.length + (1 + t.size)
def planTB (md : Region.Mode) (ops : Array Oper) : PlanT → Array Bool → Bool
  | .last ys, d => takeB md ops ys d && (Region.ready md ops (setAll ys d)).isEmpty
  | .one ys j t, d => takeB md ops ys d && (Region.ready md ops (setAll ys d) == [j]) && decide (j < ops.size) && planTB md ops t ((setAll ys d).setIfInBounds j true)
  | .two ys j t k u, d => takeB md ops ys d && (Region.ready md ops (setAll ys d) == [j, k]) && decide (j < ops.size) && decide (k < ops.size) && decide (t.size = u.size) && planTB md ops t ((setAll ys d).setIfInBounds j true) && planTB md ops u ((setAll ys d).setIfInBounds k true)
def wpTree (P : Program) (ops : Array Oper) (Q : Exit → Act → World → Prop) (S : World → Prop) (l : List Oper) : PlanT → Act → World → Prop
  | .last ys, a, w => wpQuiet P ops S (fun a' => Q .normal a' w) (ys.map (opN l)) a
  | .one ys j t, a, w => wpQuiet P ops S (fun a' => Region.wanted (opN l j) (yielded ops a'.tmps) = true ∧ Oper.wp P (opN l j) a' w (fun a'' w'' => S w'' ∧ wpTree P ops Q S l t a'' w'') Q) (ys.map (opN l)) a
  | .two ys j t k u, a, w => wpQuiet P ops S (fun a' => (Region.wanted (opN l j) (yielded ops a'.tmps) = true ∧ Oper.wp P (opN l j) a' w (fun a'' w'' => S w'' ∧ wpTree P ops Q S l t a'' w'') Q) ∧
      (Region.wanted (opN l k) (yielded ops a'.tmps) = true ∧ Oper.wp P (opN l k) a' w (fun a'' w'' => S w'' ∧ wpTree P ops Q S l u a'' w'') Q)) (ys.map (opN l)) a
theorem planT_walk {l : List Oper} (hsel : Region.noSelect l.toArray = true) (hQ : ∀ c a d v w, Q (.panic c) (Act.put a d v) w → Q (.panic c) a w) :
    ∀ (t : PlanT) (d : Array Bool) (a : Act) (w : World) (fuel : Nat), planTB md l.toArray t d = true → S w →
      wpTree P l.toArray Q S l t a w → wpAnyH P md l.toArray Q S (t.size + fuel) d a w
  | .last ys, d, a, w, fuel, hB, hS, h => by
    simp only [planTB, Bool.and_eq_true] at hB
    exact take_list hsel hQ hS ys d a fuel hB.1 h (fun a' h' => wpAnyH_done (by simpa using hB.2) h' _)
  | .one ys j t, d, a, w, fuel, hB, hS, h => by
    simp only [planTB, Bool.and_eq_true, decide_eq_true_eq, beq_iff_eq] at hB
    obtain ⟨⟨⟨h1, h2⟩, h3⟩, h4⟩ := hB
    rw [PlanT.size, show ys.length + (1 + t.size) + fuel = ys.length + ((t.size + fuel) + 1) by omega]
    refine take_list hsel hQ hS ys d a _ h1 h (fun a' h' => ?_)
    refine wpAnyH_all h2 (by simp) fun i hi => ?_
    have hi' : i = j := by simpa using hi
    subst hi'
    obtain ⟨hw, hstep⟩ := h'
    refine wpOp_mono (K := fun a'' w'' => S w'' ∧ wpTree P l.toArray Q S l t a'' w'') (fun a'' w'' h'' => ⟨h''.1, planT_walk hsel hQ t _ a'' w'' fuel h4 h''.1 h''.2⟩) ?_
    unfold wpOp
    simp only [opN_get h3, hw, if_true]
    exact .inl hstep
  | .two ys j t k u, d, a, w, fuel, hB, hS, h => by
    simp only [planTB, Bool.and_eq_true, decide_eq_true_eq, beq_iff_eq] at hB
    obtain ⟨⟨⟨⟨⟨⟨h1, h2⟩, h3⟩, h3'⟩, he⟩, h4⟩, h5⟩ := hB
    rw [PlanT.size, show ys.length + (1 + t.size) + fuel = ys.length + ((t.size + fuel) + 1) by omega]
    refine take_list hsel hQ hS ys d a _ h1 h (fun a' h' => ?_)
    refine wpAnyH_all h2 (by simp) fun i hi => ?_
    have hi' : i = j ∨ i = k := by simpa using hi
    rcases hi' with rfl | rfl
    · obtain ⟨hw, hstep⟩ := h'.1
      refine wpOp_mono (K := fun a'' w'' => S w'' ∧ wpTree P l.toArray Q S l t a'' w'') (fun a'' w'' h'' => ⟨h''.1, planT_walk hsel hQ t _ a'' w'' fuel h4 h''.1 h''.2⟩) ?_
      unfold wpOp
      simp only [opN_get h3, hw, if_true]
      exact .inl hstep
    · obtain ⟨hw, hstep⟩ := h'.2
      refine wpOp_mono (K := fun a'' w'' => S w'' ∧ wpTree P l.toArray Q S l u a'' w'') (fun a'' w'' h'' => ⟨h''.1, by rw [he]; exact planT_walk hsel hQ u _ a'' w'' fuel h5 h''.1 h''.2⟩) ?_
      unfold wpOp
      simp only [opN_get h3', hw, if_true]
      exact .inl hstep
theorem wp_region_tree {id : Nat} {a : Act} {w : World} {l : List Oper} (S : World → Prop) (t : PlanT) (hm : P.follows .mixedOrders = true) (hsel : Region.noSelect l.toArray = true)
    (hB : (planTB .any l.toArray t (Array.replicate l.toArray.size false) && decide (t.size = l.toArray.size)) = true) (hS : S w.drew)
    (h : wpTree P l.toArray (NoPanic Q) S l t a w.drew) : (Code.region id l.toArray true).wp P Q a w := by
  rw [Bool.and_eq_true, decide_eq_true_eq] at hB
  have := planT_walk (md := .any) (Q := NoPanic Q) hsel (fun _ _ _ _ _ h => h) t _ a _ 0 hB.1 hS h
  rw [Nat.add_zero, hB.2] at this
  exact wp_region_noPanic (wp_region_held hm this)
theorem tree_last {a : Act} {w : World} {l : List Oper} {ys : List Nat} (h : wpQuiet P ops S (fun a' => Q .normal a' w) (ys.map (opN l)) a) : wpTree P ops Q S l (.last ys) a w := h
theorem tree_one {a : Act} {w : World} {l : List Oper} {ys : List Nat} {j : Nat} {t : PlanT} (h : wpQuiet P ops S (fun a' => Region.wanted (opN l j) (yielded ops a'.tmps) = true ∧ Oper.wp P (opN l j) a' w (fun a'' w'' => S w'' ∧ wpTree P ops Q S l t a'' w'') Q) (ys.map (opN l)) a) : wpTree P ops Q S l (.one ys j t) a w := h
theorem tree_two {a : Act} {w : World} {l : List Oper} {ys : List Nat} {j k : Nat} {t u : PlanT} (h : wpQuiet P ops S (fun a' => (Region.wanted (opN l j) (yielded ops a'.tmps) = true ∧ Oper.wp P (opN l j) a' w (fun a'' w'' => S w'' ∧ wpTree P ops Q S l t a'' w'') Q) ∧
      (Region.wanted (opN l k) (yielded ops a'.tmps) = true ∧ Oper.wp P (opN l k) a' w (fun a'' w'' => S w'' ∧ wpTree P ops Q S l u a'' w'') Q)) (ys.map (opN l)) a) : wpTree P ops Q S l (.two ys j t k u) a w := h
/-- a step of the tree -/
theorem tree_step {o : Oper} {l : List Oper} {t : PlanT} {a : Act} {w : World} (hw : Region.wanted o (yielded ops a.tmps) = true)
    (h : ∀ K : Act → World → Prop, (∀ a' w', S w' → wpTree P ops Q S l t a' w' → K a' w') → Oper.wp P o a w K Q) :
    Region.wanted o (yielded ops a.tmps) = true ∧ Oper.wp P o a w (fun a'' w'' => S w'' ∧ wpTree P ops Q S l t a'' w'') Q :=
  ⟨hw, h _ fun a' w' h1 h2 => ⟨h1, h2⟩⟩
end
end Go.Proofs.YtpblfpnldbdncaaGreatDoor
