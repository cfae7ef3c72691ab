/- An argument that is a slice of integers, in a law's frame. -/
import Derived.Test.YtlfcoopnonhfeaaSlices2
import Derived.ChangeSlices
namespace Go.Proofs.Ytlfcoopnonhfeaa
open Go.RowKit Go.WideShapes Go.ChangeShapes
set_option linter.unusedVariables false
/-- .. reads as zs -/
def ArgInts (k : IntKind) (w : World) (ao : Option Addr) (n c : Nat) (zs : List Int) : Prop :=
  n ≤ c ∧ c ≤ 9223372036854775807 ∧ zs.length = n ∧ (∀ z ∈ zs, (Lit.int k z).wf = true) ∧ (ao = none → n = 0 ∧ c = 0) ∧ (0 < n → ∃ b off, ao = some ⟨b, off, none⟩ ∧ ∀ i, i < n → w.cell? ⟨b, off + i, none⟩ = some (.int k (zs.getD i 0)))
section
variable {H : Type} {enc : TypeId × Value → H} {P : Program}
theorem open_argints {k : IntKind} {w : World} {r : Reach} {b0 : Nat} {t e : TypeId} {v : Value} {d : DataW H} {p : List MemPlace} (ht : P.underlying t = some (.slice e)) (he : P.underlying e = some (.int k)) (hc : P.cellsOf e = 1)
    (hv : Value.okWide P w r b0 t v) (h : DataW.Trod enc P w 0 (fun _ => true) true t v d p) :
    ∃ ao n c zs, v = .slice ao n c ∧ ArgInts k w ao n c zs := by
  obtain ⟨ao, n, c, rfl⟩ := okWide_slice ht hv
  obtain ⟨fuel, hf⟩ := h
  rcases open_ints ht he hc hf with ⟨hcs, hx⟩ | ⟨a, len', cap', zs, hcs, _, hl, hm, hz, hx, hcell, hws⟩
  · simp [Value.cells] at hcs
    obtain ⟨rfl, rfl, rfl⟩ := hcs
    exact ⟨none, 0, 0, [], rfl, by omega, by omega, rfl, (fun z hz => by cases hz), (fun _ => ⟨rfl, rfl⟩), fun h => by omega⟩
  · simp [Value.cells] at hcs
    obtain ⟨rfl, rfl, rfl⟩ := hcs
    simp only [if_true] at hz
    have hlen : (zs.take n).length = n := by rw [List.length_take]; omega
    refine ⟨_, n, c, zs.take n, rfl, hl, by simpa [maxLen] using hm, hlen, fun z hz => hws z (List.mem_of_mem_take hz), (fun h => by cases h), fun h0 => ?_⟩
    obtain ⟨b, off, spot⟩ := a
    have hspot : spot = none := by simpa [Addr.add] using World.cell?_spot (hcell 0 (by omega))
    subst hspot
    refine ⟨b, off, rfl, fun i hi => ?_⟩
    have h1 := hcell i (by omega)
    rw [add_plain] at h1
    rw [h1]
    congr 2
    rw [List.getD_eq_getElem?_getD, List.getD_eq_getElem?_getD, List.getElem?_take, if_pos hi]
end
end Go.Proofs.Ytlfcoopnonhfeaa
