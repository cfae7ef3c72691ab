/- An argument that is a slice of postings by numbers, in a law's frame. -/
import Derived.Test.YtfligfompdcddaaGreatDoorLedActs
import Derived.Test.YtfligfompdcddaaGreatDoorSlices2
import Derived.ChangeSlices
namespace Go.Proofs.YtfligfompdcddaaGreatDoor
open Go.RowKit Go.WideShapes Go.ChangeShapes
set_option linter.unusedVariables false
/-- .. reads ns the list -/
def ArgNums (w : World) (ao : Option Addr) (n c : Nat) (ns : List Num) : Prop :=
  n ≤ c ∧ c ≤ 9223372036854775807 ∧ ns.length = n ∧ (0 < n → ∃ b off, ao = some ⟨b, off, none⟩ ∧ ∀ i a, ns[i]? = some a → ∀ j, j < 4 → w.cell? ⟨b, off + i * 4 + j, none⟩ = a.arr[j]?)
section
variable {H : Type} {enc : TypeId × Value → H} {P : Program}
theorem open_num {w : World} {base fuel : Nat} {spare : Nat → Bool} {held : Bool} {e u : TypeId} {fs : Array Field} {cs : List Value} {x : DataW H × List MemPlace} (he : P.underlying e = some (.struct fs)) (hn : fs.size = 4) (hf : ∀ j, j < 4 → ∃ f, fs[j]? = some f ∧ f.offset = j ∧ f.type = u)
    (hu : P.underlying u = some (.int .i64)) (hcu : P.cellsOf u = 1) (hce : P.cellsOf e = 4) (h : DataW.trod enc P w base spare held fuel e cs = some x) : ∃ a : Num, cs = a.arr.toList := by
  obtain ⟨xs, m, _, hx, hl, hxl, hi⟩ := DataW.trod_struct he h
  rw [hce] at hl
  have key : ∀ i, i < 4 → ∃ z : Int, cs[i]? = some (.int .i64 z) := by
    intro i hin
    obtain ⟨f, f1, f2, f3⟩ := hf i hin
    have h1 := hi i f f1
    rw [f2, f3, hcu, List.getElem?_eq_getElem (by omega)] at h1
    obtain ⟨z, e1, e2, wz⟩ := DataW.trod_int hu h1
    rw [List.drop_eq_getElem_cons (show i < cs.length by omega), List.take_succ_cons, List.take_zero] at e1
    injection e1 with e1
    exact ⟨z, by rw [List.getElem?_eq_getElem (by omega), e1]⟩
  obtain ⟨z0, k0⟩ := key 0 (by omega)
  obtain ⟨z1, k1⟩ := key 1 (by omega)
  obtain ⟨z2, k2⟩ := key 2 (by omega)
  obtain ⟨z3, k3⟩ := key 3 (by omega)
  refine ⟨⟨z0, z1, z2, z3⟩, ?_⟩
  obtain ⟨a, b, c, d, rfl⟩ : ∃ a b c d, cs = [a, b, c, d] := by
    match cs, hl with
    | [a, b, c, d], _ => exact ⟨a, b, c, d, rfl⟩
  simp at k0 k1 k2 k3
  subst k0 k1 k2 k3
  rfl
theorem open_nums {w : World} {r : Reach} {b0 : Nat} {t e u : TypeId} {fs : Array Field} {v : Value} {d : DataW H} {p : List MemPlace} (ht : P.underlying t = some (.slice e)) (he : P.underlying e = some (.struct fs)) (hn : fs.size = 4) (hf : ∀ j, j < 4 → ∃ f, fs[j]? = some f ∧ f.offset = j ∧ f.type = u)
    (hu : P.underlying u = some (.int .i64)) (hcu : P.cellsOf u = 1) (hce : P.cellsOf e = 4)
    (hv : Value.okWide P w r b0 t v) (h : DataW.Trod enc P w 0 (fun _ => true) true t v d p) :
    ∃ ao n c ns, v = .slice ao n c ∧ ArgNums w ao n c ns := by
  obtain ⟨ao, n, c, rfl⟩ := okWide_slice ht hv
  obtain ⟨fuel, hf'⟩ := h
  rcases DataW.trod_slice ht hf' with ⟨hcs, hx⟩ | ⟨a, len, cap, elems, rest, m, _, hcs, hx, _, hl, hm, hlen, hel, _, _⟩
  · simp [Value.cells] at hcs
    obtain ⟨rfl, rfl, rfl⟩ := hcs
    exact ⟨none, 0, 0, [], rfl, by omega, by omega, rfl, fun h => by omega⟩
  · simp [Value.cells] at hcs
    obtain ⟨rfl, rfl, rfl⟩ := hcs
    have key : ∀ i, i < n → ∃ l : Num, ∀ j, j < 4 → w.cell? (a.add (i * 4 + j)) = l.arr[j]? := by
      intro i hi
      have h1 := hel i hi
      rw [hce, List.getElem?_eq_getElem (by omega), Option.bind_eq_some_iff] at h1
      obtain ⟨cs', hc1, hc2⟩ := h1
      obtain ⟨l, rfl⟩ := open_num he hn hf hu hcu hce hc2
      refine ⟨l, fun j hj => ?_⟩
      obtain ⟨_, _, h3⟩ := World.cells?_some hc1
      have := h3 j hj
      rw [← Array.getElem?_toList, ← this]
      rw [Addr.add_add]
    have key2 : ∀ k, k ≤ n → ∃ ns : List Num, ns.length = k ∧ ∀ i q, ns[i]? = some q → ∀ j, j < 4 → w.cell? (a.add (i * 4 + j)) = q.arr[j]? := by
      intro k
      induction k with
      | zero => intro _; exact ⟨[], rfl, fun i q hi => by simp at hi⟩
      | succ k ih =>
        intro hk
        obtain ⟨ns, hl1, hc1⟩ := ih (by omega)
        obtain ⟨l, hc2⟩ := key k (by omega)
        refine ⟨ns ++ [l], by simp [hl1], ?_⟩
        intro i q hq j hj
        by_cases hik : i < k
        · rw [List.getElem?_append_left (by omega)] at hq
          exact hc1 i q hq j hj
        · have hi2 : i < (ns ++ [l]).length := (List.getElem?_eq_some_iff.1 hq).1
          rw [List.length_append, List.length_singleton] at hi2
          obtain rfl : i = k := by omega
          rw [List.getElem?_append_right (by omega), hl1, Nat.sub_self] at hq
          simp at hq
          subst hq
          exact hc2 j hj
    obtain ⟨ns, hl1, hc1⟩ := key2 n (Nat.le_refl _)
    refine ⟨_, n, c, ns, rfl, hl, by simpa [maxLen] using hm, hl1, fun h0 => ?_⟩
    obtain ⟨b, off, spot⟩ := a
    have h00 := hc1 0 (ns[0]'(by omega)) (List.getElem?_eq_getElem _) 0 (by omega)
    have hz : ∃ x, (ns[0]'(by omega)).arr[0]? = some x := ⟨_, rfl⟩
    obtain ⟨x0, hz⟩ := hz
    rw [hz] at h00
    have hspot : spot = none := by simpa [Addr.add] using World.cell?_spot h00
    subst hspot
    refine ⟨b, off, rfl, fun i q hq j hj => ?_⟩
    have := hc1 i q hq j hj
    rw [add_plain] at this
    rw [← this, Nat.add_assoc]
end
end Go.Proofs.YtfligfompdcddaaGreatDoor
