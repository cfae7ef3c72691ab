/- The table of powers of ten, out of what a row lists; arguments that are structs. -/
import Derived.Test.YtfligfompdcddaaGreatDoorRows
import Derived.Test.YtfligfompdcddaaGreatDoorLedEnc
import Derived.Test.YtfligfompdcddaaGreatDoorLedAcc
import Derived.Deep.DeepHandedRow
import Derived.Lib.LaidTab
import Derived.Lib.SmallJoins
import Derived.Laws.Rows
namespace Go.Proofs.YtfligfompdcddaaGreatDoor
open Go.ChangeShapes Go.WideShapes Go.ChangeAt Go.RowKit Go.Joins
set_option linter.unusedVariables false
/-- a table that stands anywhere on the list -/
theorem tabIs_of_mem {P : Program} {W : World} {name : String} {k : IntKind} {zs : List Int} {g : Nat} {t e : TypeId} {n : Nat}
    (hg : P.globalNamed name = some g) (hty : (P.globals[g]?).map (·.type) = some t) (ht : P.underlying t = some (.array n e)) (he : P.underlying e = some (.int k)) (hce : P.cellsOf e = 1) (hct : P.cellsOf t = n) :
    ∀ {L : List (String × DataW Unit)} {ps : List MemPlace}, (name, Lib.tabData k zs) ∈ L → DataW.LaidVars P W L ps → Lib.TabIs P W name k zs := by
  intro L
  induction L with
  | nil => intro ps hm _; cases hm
  | cons x L ih =>
    intro ps hm h
    obtain ⟨nm, d⟩ := x
    obtain ⟨g', t', cs, fuel, p, q, hg', ht', hvar, hd, hr, _⟩ := h
    cases List.mem_cons.1 hm with
    | inl e2 =>
      injection e2 with e3 e4
      subst e3 e4
      obtain rfl := Option.some.inj (hg.symm.trans hg')
      obtain rfl := Option.some.inj (hty.symm.trans ht')
      unfold Lib.TabIs
      rw [hvar, ← Lib.cells_of_tab ht he hce hct hd]
    | inr e2 => exact ih e2 hr
theorem own : ownKnob Tryz.prog.godebug = none := by kernel_rfl
theorem gPow : Tryz.prog.globalNamed "internal/strconv.uint64pow10" = some 0 := by kernel_rfl
theorem gPowType : (Tryz.prog.globals[0]?).map (·.type) = some 131 := by kernel_rfl
theorem cells20 : Tryz.prog.cellsOf 131 = 20 := by kernel_rfl
theorem cellsU : Tryz.prog.cellsOf 110 = 1 := by kernel_rfl
theorem pow_data {H : Type} : (Rows.laid_internal_strconv_uint64pow10 : DataW H) = Lib.tabData .u64 Lib.pow10Tab := rfl
/-- what a row's list gives -/
theorem pow_of {W : World} {L : List (String × DataW Unit)} (h1 : ("internal/strconv.uint64pow10", Rows.laid_internal_strconv_uint64pow10) ∈ L) (h : laidMet Tryz.prog L W) : Pow10 W := by
  obtain ⟨ps, hv, _⟩ := h
  exact tabIs_of_mem gPow gPowType Tryz.underlying131 Tryz.underlying110 cellsU cells20 (by rw [pow_data] at h1; exact h1) hv
/-- A world for the witnesses: the settled one, the tables holding what their initialisers lay. -/
def setObj (c : Array Value) : Obj → Obj
  | .cells _ t frozen => .cells c t frozen
  | o => o
def litCell : DataW Unit → Value
  | .lit (.int k z) => .int k z
  | _ => undef
def tabCells : DataW Unit → Array Value
  | .agg xs => (xs.map litCell).toArray
  | _ => #[]
noncomputable def laidWorld3 (os : Os) : World :=
  { World.holding Tryz.prog os ⟨#[], #[], []⟩ with heap := (((World.holding Tryz.prog os ⟨#[], #[], []⟩).heap.modify 2 (setObj (tabCells Rows.laid_math_bits_deBruijn32tab))).modify 3 (setObj (tabCells Rows.laid_math_bits_deBruijn64tab))).modify 0 (setObj (tabCells Rows.laid_internal_strconv_uint64pow10)) }
section
variable {H : Type} {enc : TypeId × Value → H}
set_option maxRecDepth 100000 in
theorem open_act {w : World} {r : Reach} {b0 : Nat} {v : Value} {d : DataW H} {p : List MemPlace} (hv : Value.okWide Tryz.prog w r b0 48 v) (h : DataW.Trod enc Tryz.prog w 0 (fun _ => true) true 48 v d p) : ∃ a : Num, v = .agg a.arr := by
  obtain ⟨v0, v1, v2, v3, y0, y1, y2, y3, n, rfl, _, _, h0, h1, h2, h3⟩ := open_agg4 Tryz.underlying48 (by kernel_rfl) (by kernel_rfl) hv h
  obtain ⟨z0, e0, _⟩ := DataW.trod_int Tryz.underlying3 h0
  obtain ⟨z1, e1, _⟩ := DataW.trod_int Tryz.underlying3 h1
  obtain ⟨z2, e2, _⟩ := DataW.trod_int Tryz.underlying3 h2
  obtain ⟨z3, e3, _⟩ := DataW.trod_int Tryz.underlying3 h3
  injection e0 with e0
  injection e1 with e1
  injection e2 with e2
  injection e3 with e3
  subst e0 e1 e2 e3
  exact ⟨⟨z0, z1, z2, z3⟩, rfl⟩
set_option maxRecDepth 100000 in
theorem open_pst {w : World} {r : Reach} {b0 : Nat} {v : Value} {d : DataW H} {p : List MemPlace} (hv : Value.okWide Tryz.prog w r b0 24 v) (h : DataW.Trod enc Tryz.prog w 0 (fun _ => true) true 24 v d p) : ∃ q : Pst, v = .agg q.arr ∧ q.key.size ≤ maxLen ∧ q.src.size ≤ maxLen ∧ q.dst.size ≤ maxLen := by
  obtain ⟨v0, v1, v2, v3, y0, y1, y2, y3, n, rfl, _, _, h0, h1, h2, h3⟩ := open_agg4 Tryz.underlying24 (by kernel_rfl) (by kernel_rfl) hv h
  obtain ⟨z0, e0, _, s0⟩ := DataW.trod_string Tryz.underlying9 h0
  obtain ⟨z1, e1, _, s1⟩ := DataW.trod_string Tryz.underlying9 h1
  obtain ⟨z2, e2, _, s2⟩ := DataW.trod_string Tryz.underlying9 h2
  obtain ⟨z3, e3, _⟩ := DataW.trod_int Tryz.underlying3 h3
  injection e0 with e0
  injection e1 with e1
  injection e2 with e2
  injection e3 with e3
  subst e0 e1 e2 e3
  exact ⟨⟨z0, z1, z2, z3⟩, rfl, s0, s1, s2⟩
end
end Go.Proofs.YtfligfompdcddaaGreatDoor
