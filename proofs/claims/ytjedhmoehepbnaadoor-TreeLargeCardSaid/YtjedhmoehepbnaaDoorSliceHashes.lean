/- An argument that is a slice of hashes, in a law's frame. -/
import Derived.Test.YtjedhmoehepbnaaDoorTreeStrings
import Derived.ChangeSlices
namespace Go.Proofs.YtjedhmoehepbnaaDoor
open Go.RowKit Go.WideShapes Go.ChangeShapes
set_option linter.unusedVariables false
/-- an argument that is a slice of hashes -/
structure HsIn (w : World) (ao : Option Addr) (n c : Nat) (hs : List Tree.H) : Prop where
  le : n ≤ c
  cap : c ≤ 9223372036854775807
  len : hs.length = n
  each : Each hs
  some : 0 < n → ∃ b o, ao = some ⟨b, o, none⟩ ∧ HAt w b o hs
theorem HsIn.is {w : World} {ao : Option Addr} {n c : Nat} {hs : List Tree.H} (h : HsIn w ao n c hs) : IsHs w (.slice ao n c) hs := by
  refine ⟨h.each, ?_⟩
  have hl := h.len
  by_cases h0 : n = 0
  · subst h0; exact .inl ⟨List.length_eq_zero_iff.1 hl, _, _, rfl, h.cap⟩
  · obtain ⟨b, o, rfl, hs'⟩ := h.some (by omega)
    exact .inr ⟨b, o, c, by rw [hl], by omega, by have := h.le; omega, h.cap, hs'⟩
section
variable {H : Type} {enc : TypeId × Value → H} {P : Program}
theorem open_row32 {w : World} {base fuel : Nat} {spare : Nat → Bool} {held : Bool} {e u : TypeId} {cs : List Value} {x : DataW H × List MemPlace} (he : P.underlying e = some (.array 32 u)) (hu : P.underlying u = some (.int .u8)) (hcu : P.cellsOf u = 1) (hce : P.cellsOf e = 32)
    (h : DataW.trod enc P w base spare held fuel e cs = some x) : ∃ l : Tree.H, l.length = 32 ∧ cs = (hashArr l).toList := by
  obtain ⟨xs, m, _, hx, hl, hxl, hi⟩ := DataW.trod_array he h
  rw [hcu] at hi
  rw [hce] at hl
  have key : ∀ i, i < 32 → ∃ z : UInt8, cs[i]? = some (.int .u8 (z.toNat : Int)) := by
    intro i hin
    have h1 := hi i hin
    rw [List.getElem?_eq_getElem (by omega)] at h1
    obtain ⟨z, e1, e2, wz⟩ := DataW.trod_int hu h1
    rw [Nat.mul_one, List.drop_eq_getElem_cons (show i < cs.length by omega), List.take_succ_cons, List.take_zero] at e1
    injection e1 with e1
    have h2 : 0 ≤ z ∧ z ≤ 255 := by simpa [Lit.wf, IntKind.min, IntKind.max, IntKind.signed, IntKind.bits] using wz
    refine ⟨UInt8.ofNat z.toNat, ?_⟩
    rw [List.getElem?_eq_getElem (by omega), e1]
    have : ((UInt8.ofNat z.toNat).toNat : Int) = z := by
      have : z.toNat < 256 := by omega
      simp only [UInt8.toNat_ofNat']
      omega
    rw [this]
  let zof : Value → UInt8 := fun v => match v with | .int _ z => UInt8.ofNat z.toNat | _ => 0
  refine ⟨cs.map zof, by rw [List.length_map, hl], ?_⟩
  apply List.ext_getElem?
  intro i
  by_cases hin : i < 32
  · obtain ⟨z, h1⟩ := key i hin
    simp [hashArr, h1, zof]
  · rw [List.getElem?_eq_none (by omega), List.getElem?_eq_none (by simp [hashArr]; omega)]
theorem open_hashes {w : World} {r : Reach} {b0 : Nat} {t e u : TypeId} {v : Value} {d : DataW H} {p : List MemPlace} (ht : P.underlying t = some (.slice e)) (he : P.underlying e = some (.array 32 u)) (hu : P.underlying u = some (.int .u8)) (hcu : P.cellsOf u = 1) (hce : P.cellsOf e = 32)
    (hv : Value.okWide P w r b0 t v) (h : DataW.Trod enc P w 0 (fun _ => true) true t v d p) :
    ∃ ao n c hs, v = .slice ao n c ∧ HsIn w ao n c hs := by
  obtain ⟨ao, n, c, rfl⟩ := okWide_slice ht hv
  obtain ⟨fuel, hf⟩ := h
  rcases DataW.trod_slice ht hf with ⟨hcs, hx⟩ | ⟨a, len, cap, elems, rest, m, _, hcs, hx, _, hl, hm, hlen, hel, _, _⟩
  · simp [Value.cells] at hcs
    obtain ⟨rfl, rfl, rfl⟩ := hcs
    exact ⟨none, 0, 0, [], rfl, by omega, by omega, rfl, (fun s hs => by cases hs), fun h => by omega⟩
  · simp [Value.cells] at hcs
    obtain ⟨rfl, rfl, rfl⟩ := hcs
    have key : ∀ i, i < n → ∃ l : Tree.H, l.length = 32 ∧ ∀ j, j < 32 → w.cell? (a.add (i * 32 + j)) = (hashArr l).toList[j]? := by
      intro i hi
      have h1 := hel i hi
      rw [hce, List.getElem?_eq_getElem (by omega), Option.bind_eq_some_iff] at h1
      obtain ⟨cs', hc1, hc2⟩ := h1
      obtain ⟨l, hl32, rfl⟩ := open_row32 he hu hcu hce hc2
      refine ⟨l, hl32, fun j hj => ?_⟩
      obtain ⟨_, _, h3⟩ := World.cells?_some hc1
      have := h3 j hj
      rw [← this]
      rw [Addr.add_add]
    have key2 : ∀ k, k ≤ n → ∃ hs : List Tree.H, hs.length = k ∧ Each hs ∧ ∀ i, i < k → ∀ j, j < 32 → w.cell? (a.add (i * 32 + j)) = (hashArr (hs.getD i [])).toList[j]? := by
      intro k
      induction k with
      | zero => intro _; exact ⟨[], rfl, (fun s hs => by cases hs), fun i hi => by omega⟩
      | succ k ih =>
        intro hk
        obtain ⟨hs, hl1, he1, hc1⟩ := ih (by omega)
        obtain ⟨l, hl32, hc2⟩ := key k (by omega)
        refine ⟨hs ++ [l], by simp [hl1], ?_, ?_⟩
        · intro x hx
          rcases List.mem_append.1 hx with hx | hx
          · exact he1 x hx
          · rw [List.mem_singleton.1 hx]; exact hl32
        · intro i hi j hj
          by_cases hik : i < k
          · rw [show (hs ++ [l]).getD i [] = hs.getD i [] by rw [List.getD_eq_getElem?_getD, List.getD_eq_getElem?_getD, List.getElem?_append_left (by omega)]]
            exact hc1 i hik j hj
          · obtain rfl : i = k := by omega
            rw [show (hs ++ [l]).getD i [] = l by rw [List.getD_eq_getElem?_getD, List.getElem?_append_right (by omega), hl1]; simp]
            exact hc2 j hj
    obtain ⟨hs, hl1, he1, hc1⟩ := key2 n (Nat.le_refl _)
    refine ⟨_, n, c, hs, rfl, hl, by simpa [maxLen] using hm, hl1, he1, fun h0 => ?_⟩
    obtain ⟨b, off, spot⟩ := a
    have h00 := hc1 0 h0 0 (by omega)
    have hz : (hashArr (hs.getD 0 [])).toList[0]? = some ((hashArr (hs.getD 0 [])).toList[0]'(by rw [Array.length_toList, hashArr_size, he1.getD 0 (by omega)]; omega)) := List.getElem?_eq_getElem _
    rw [hz] at h00
    have hspot : spot = none := by simpa [Addr.add] using World.cell?_spot h00
    subst hspot
    refine ⟨b, off, rfl, fun i hi j v hv => ?_⟩
    have hj : j < 32 := by
      have := (List.getElem?_eq_some_iff.1 hv).1
      rw [Array.length_toList, hashArr_size, he1.getD i hi] at this
      exact this
    have := hc1 i (by omega) j hj
    rw [hv, add_plain] at this
    rw [← this, Nat.add_assoc]
end
end Go.Proofs.YtjedhmoehepbnaaDoor
