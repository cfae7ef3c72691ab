/- An argument that is an array of integers, by value: opened and shut. Over any program. -/
import Derived.Test.YtlfcoopnonhfeaaKit
import Derived.OpenShut
import Derived.DataShut
namespace Go.Proofs.Ytlfcoopnonhfeaa
open Go.RowKit Go.WideShapes Go.ChangeShapes
set_option linter.unusedVariables false

section
variable {H : Type} {enc : TypeId × Value → H} {P : Program} {w : World} {base : Nat} {spare : Nat → Bool} {held : Bool}
theorem open_arr {r : Reach} {b0 : Nat} {t e : TypeId} {n : Nat} {k : IntKind} {v : Value} {d : DataW H} {p : List MemPlace} (ht : P.underlying t = some (.array n e)) (he : P.underlying e = some (.int k)) (hce : P.cellsOf e = 1) (hct : P.cellsOf t = n)
    (hv : Value.okWide P w r b0 t v) (h : DataW.Trod enc P w base spare held t v d p) :
    ∃ zs : List Int, v = .agg (zs.map (Value.int k)).toArray ∧ zs.length = n ∧ d = .agg (zs.map fun z => .lit (.int k z)) ∧ p = [] ∧ ∀ z ∈ zs, (Lit.int k z).wf = true := by
  obtain ⟨cs, rfl, hsz, _⟩ : ∃ cs, v = .agg cs ∧ cs.size = P.cellsOf t ∧ Row.okWide P w r b0 t cs := by
    simpa [Value.okWide, ht] using hv
  obtain ⟨fuel, hf⟩ := h
  obtain ⟨xs, m, _, hx, hl, hxl, hi⟩ := DataW.trod_array ht hf
  obtain ⟨l⟩ := cs
  simp only [Value.cells] at hi hl
  rw [hce] at hi
  rw [hct] at hl
  have hll : l.length = n := by simpa using hl
  have key : ∀ i, i < n → ∃ z, l[i]? = some (.int k z) ∧ xs[i]? = some (.lit (.int k z), []) ∧ (Lit.int k z).wf = true := by
    intro i hin
    have h1 := hi i hin
    have h2 : xs[i]? = some (xs[i]'(by omega)) := List.getElem?_eq_getElem (by omega)
    rw [h2] at h1
    obtain ⟨z, e1, e2, wz⟩ := DataW.trod_int he h1
    rw [Nat.mul_one, List.drop_eq_getElem_cons (show i < l.length by omega), List.take_succ_cons, List.take_zero] at e1
    injection e1 with e1
    exact ⟨z, by rw [List.getElem?_eq_getElem (by omega), e1], by rw [h2, e2], wz⟩
  let zof : Value → Int := fun v => match v with | .int _ z => z | _ => 0
  have el : l = (l.map zof).map (Value.int k) := by
    apply List.ext_getElem? 
    intro i
    by_cases hin : i < n
    · obtain ⟨z, h1, _, _⟩ := key i hin
      simp [h1, zof]
    · rw [List.getElem?_eq_none (by omega), List.getElem?_eq_none (by simp; omega)]
  refine ⟨l.map zof, by rw [← el], by simpa using hll, ?_, ?_, ?_⟩
  · simp only [Prod.mk.injEq] at hx
    rw [hx.1]
    congr 1
    apply List.ext_getElem?
    intro i
    by_cases hin : i < n
    · obtain ⟨z, h1, h2, _⟩ := key i hin
      simp [h1, h2, zof]
    · rw [List.getElem?_eq_none (by simp; omega), List.getElem?_eq_none (by simp; omega)]
  · simp only [Prod.mk.injEq] at hx
    rw [hx.2]
    rw [List.flatMap_eq_nil_iff]
    intro x hxm
    obtain ⟨i, hin, rfl⟩ := List.getElem_of_mem hxm
    obtain ⟨z, _, h2, _⟩ := key i (by omega)
    rw [List.getElem?_eq_getElem hin] at h2
    injection h2 with h2
    rw [h2]
  · intro z hz
    obtain ⟨v, hv, rfl⟩ := List.mem_map.1 hz
    obtain ⟨i, hin, rfl⟩ := List.getElem_of_mem hv
    obtain ⟨z, h1, _, wz⟩ := key i (by omega)
    rw [List.getElem?_eq_getElem hin] at h1
    injection h1 with h1
    rw [h1]; exact wz

theorem shut_arr {t e : TypeId} {n : Nat} {k : IntKind} {zs : List Int} (ht : P.underlying t = some (.array n e)) (he : P.underlying e = some (.int k)) (hce : P.cellsOf e = 1) (hct : P.cellsOf t = n)
    (hl : zs.length = n) (hw : ∀ z ∈ zs, (Lit.int k z).wf = true) :
    DataW.Trod enc P w base spare held t (.agg (zs.map (Value.int k)).toArray) (.agg (zs.map fun z => .lit (.int k z))) [] := by
  refine ⟨2, ?_⟩
  show DataW.trod enc P w base spare held 2 t (zs.map (Value.int k)) = _
  unfold DataW.trod
  rw [ht]
  simp only
  rw [if_pos (by simp [hct, hl])]
  rw [mapM_some_of_get _ (zs.map fun z => ((.lit (.int k z) : DataW H), ([] : List MemPlace))) (by simp [hl]) ?_]
  · simp only [Option.map_some, List.map_map]
    congr 2
    rw [List.flatMap_eq_nil_iff]
    intro x hx
    obtain ⟨z, _, rfl⟩ := List.mem_map.1 hx
    rfl
  · intro i x hx
    have hin : i < n := by
      have := (List.getElem?_eq_some_iff.1 hx).1
      simpa using this
    obtain rfl : i = x := by
      have := hx
      rw [List.getElem?_range hin] at this
      injection this
    rw [hce, Nat.mul_one, List.drop_eq_getElem_cons (by simp; omega)]
    simp only [List.take_succ_cons, List.take_zero]
    unfold DataW.trod
    rw [he]
    have hm : zs[i]'(by omega) ∈ zs := List.getElem_mem _
    simp [hw _ hm, List.getElem?_eq_getElem (show i < zs.length by omega)]
end
end Go.Proofs.Ytlfcoopnonhfeaa
