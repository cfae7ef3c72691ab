/- The package's tables, out of what a row lists. -/
import Derived.Test.YtkebipklcpplaaaDoorRows
import Derived.Test.YtkebipklcpplaaaDoorMix
import Derived.Deep.DeepHandedRow
import Derived.Lib.LaidTab
import Derived.Laws.Rows
namespace Go.Proofs.YtkebipklcpplaaaDoor
open Go.ChangeShapes Go.WideShapes Go.ChangeAt Go.RowKit
set_option linter.unusedVariables false

/-- a table that stands anywhere on the list -/
theorem tabIs_of_mem {P : Program} {W : World} {name : String} {k : IntKind} {zs : List Int} {g : Nat} {t e : TypeId} {n : Nat}
    (hg : P.globalNamed name = some g) (hty : (P.globals[g]?).map (·.type) = some t) (ht : P.underlying t = some (.array n e)) (he : P.underlying e = some (.int k)) (hce : P.cellsOf e = 1) (hct : P.cellsOf t = n) :
    ∀ {L : List (String × DataW Unit)} {ps : List MemPlace}, (name, Lib.tabData k zs) ∈ L → DataW.LaidVars P W L ps → Lib.TabIs P W name k zs := by
  intro L
  induction L with
  | nil => intro ps hm _; cases hm
  | cons x L ih =>
    intro ps hm h
    obtain ⟨nm, d⟩ := x
    obtain ⟨g', t', cs, fuel, p, q, hg', ht', hvar, hd, hr, _⟩ := h
    cases List.mem_cons.1 hm with
    | inl e2 =>
      injection e2 with e3 e4
      subst e3 e4
      obtain rfl := Option.some.inj (hg.symm.trans hg')
      obtain rfl := Option.some.inj (hty.symm.trans ht')
      unfold Lib.TabIs
      rw [hvar, ← Lib.cells_of_tab ht he hce hct hd]
    | inr e2 => exact ih e2 hr

theorem own : ownKnob Tryd.prog.godebug = none := by kernel_rfl
theorem gFirst : Tryd.prog.globalNamed "sortes/digest.first" = some 0 := by kernel_rfl
theorem gFirstType : (Tryd.prog.globals[0]?).map (·.type) = some 49 := by kernel_rfl
theorem gConst : Tryd.prog.globalNamed "sortes/digest.constants" = some 1 := by kernel_rfl
theorem gConstType : (Tryd.prog.globals[1]?).map (·.type) = some 66 := by kernel_rfl
theorem cells8 : Tryd.prog.cellsOf 49 = 8 := by kernel_rfl
theorem cells64 : Tryd.prog.cellsOf 66 = 64 := by kernel_rfl
theorem cellsU : Tryd.prog.cellsOf 48 = 1 := by kernel_rfl
def firstZ : List Int := (Sha.stList Sha.iv).map fun (n : Nat) => (n : Int)
def constZ : List Int := Sha.ks.map fun (n : Nat) => (n : Int)
theorem first_data {H : Type} : (Rows.laid_sortes_digest_first : DataW H) = Lib.tabData .u32 firstZ := rfl
theorem const_data {H : Type} : (Rows.laid_sortes_digest_constants : DataW H) = Lib.tabData .u32 constZ := rfl
theorem getD_cast (l : List Nat) (i : Nat) : (l.map fun (n : Nat) => (n : Int)).getD i 0 = ((l.getD i 0 : Nat) : Int) := by
  rw [List.getD_eq_getElem?_getD, List.getD_eq_getElem?_getD, List.getElem?_map]
  cases l[i]? <;> rfl
/-- what a row's list gives -/
theorem tabs_of {W : World} {L : List (String × DataW Unit)} (h1 : ("sortes/digest.first", Rows.laid_sortes_digest_first) ∈ L) (h2 : ("sortes/digest.constants", Rows.laid_sortes_digest_constants) ∈ L) (h : laidMet Tryd.prog L W) : Tabs W := by
  obtain ⟨ps, hv, _⟩ := h
  have t1 := tabIs_of_mem gFirst gFirstType Tryd.underlying49 Tryd.underlying48 cellsU cells8 (by rw [first_data] at h1; exact h1) hv
  have t2 := tabIs_of_mem gConst gConstType Tryd.underlying66 Tryd.underlying48 cellsU cells64 (by rw [const_data] at h2; exact h2) hv
  have c1 : ∀ i, i < 8 → W.cell? ⟨0, i, none⟩ = some (.int .u32 ((Sha.stList Sha.iv).getD i 0 : Nat)) := fun i hi => by
    rw [← getD_cast]; exact t1.cell gFirst i hi
  have c2 : ∀ i, i < 64 → W.cell? ⟨1, i, none⟩ = some (.int .u32 (Sha.ks.getD i 0 : Nat)) := fun i hi => by
    rw [← getD_cast]; exact t2.cell gConst i hi
  exact ⟨c1, c2, block_lt_of_cell (c1 0 (by omega)), block_lt_of_cell (c2 0 (by omega))⟩

/-- A world for the witnesses: the settled one, the two tables holding what their initialisers lay. -/
def setObj (c : Array Value) : Obj → Obj
  | .cells _ t frozen => .cells c t frozen
  | o => o
noncomputable def laidWorld (os : Os) : World :=
  { World.holding Tryd.prog os ⟨#[], #[], []⟩ with heap := ((World.holding Tryd.prog os ⟨#[], #[], []⟩).heap.modify 0 (setObj (firstZ.map fun z => Value.int .u32 z).toArray)).modify 1 (setObj (constZ.map fun z => Value.int .u32 z).toArray) }
end Go.Proofs.YtkebipklcpplaaaDoor
