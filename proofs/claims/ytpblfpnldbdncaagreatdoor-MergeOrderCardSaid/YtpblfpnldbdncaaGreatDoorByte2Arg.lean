/- An argument that is an array of two slices of bytes. -/
import Derived.Test.YtpblfpnldbdncaaGreatDoorByteArg
import Derived.OpenShut
namespace Go.Proofs.YtpblfpnldbdncaaGreatDoor
open Go.RowKit Go.WideShapes Go.ChangeShapes
set_option linter.unusedVariables false
section
variable {H : Type} {enc : TypeId × Value → H} {P : Program}
theorem open_bytes_cells {w : World} {fuel : Nat} {t e : TypeId} {cs : List Value} {x : DataW H × List MemPlace} (ht : P.underlying t = some (.slice e)) (he : P.underlying e = some (.int .u8)) (hc : P.cellsOf e = 1)
    (hf : DataW.trod enc P w 0 (fun _ => true) true fuel t cs = some x) : ∃ ao n c xs, cs = [.slice ao n c] ∧ BytesIn w ao n c xs := by
  rcases open_ints ht he hc hf with ⟨hcs, hx⟩ | ⟨a, n, c, zs, hcs, _, hl, hm, hz, hx, hcell, hws⟩
  · exact ⟨none, 0, 0, [], hcs, by omega, by omega, rfl, fun h => by omega⟩
  · simp only [if_true] at hz
    have hlen : ((zs.take n).map fun z => UInt8.ofNat z.toNat).length = n := by rw [List.length_map, List.length_take]; omega
    refine ⟨_, n, c, (zs.take n).map fun z => UInt8.ofNat z.toNat, hcs, hl, by simpa [maxLen] using hm, hlen, fun h0 => ?_⟩
    obtain ⟨b, off, spot⟩ := a
    have hspot : spot = none := by simpa [Addr.add] using World.cell?_spot (hcell 0 (by omega))
    subst hspot
    refine ⟨b, off, rfl, fun i hi => ?_⟩
    have h1 := hcell i (by omega)
    rw [add_plain] at h1
    have hm2 : zs.getD i 0 ∈ zs := by
      rw [List.getD_eq_getElem?_getD, List.getElem?_eq_getElem (by omega)]
      exact List.getElem_mem (by omega)
    have h2 : 0 ≤ zs.getD i 0 ∧ zs.getD i 0 ≤ 255 := by simpa [Lit.wf, IntKind.min, IntKind.max, IntKind.signed, IntKind.bits] using hws _ hm2
    have e1 : ((zs.take n).map fun z => UInt8.ofNat z.toNat).getD i 0 = UInt8.ofNat (zs.getD i 0).toNat := by
      rw [List.getD_eq_getElem?_getD, List.getElem?_map, List.getElem?_take, if_pos hi, List.getD_eq_getElem?_getD, List.getElem?_eq_getElem (by omega)]
      rfl
    rw [h1, e1]
    have e2 : ((UInt8.ofNat (zs.getD i 0).toNat).toNat : Int) = zs.getD i 0 := by
      have : (zs.getD i 0).toNat < 256 := by omega
      simp only [UInt8.toNat_ofNat']
      omega
    rw [e2]
theorem open_bytes2 {w : World} {r : Reach} {b0 : Nat} {t s e : TypeId} {v : Value} {d : DataW H} {p : List MemPlace} (ht : P.underlying t = some (.array 2 s)) (hs : P.underlying s = some (.slice e)) (he : P.underlying e = some (.int .u8)) (hc : P.cellsOf e = 1) (hcs : P.cellsOf s = 1) (hct : P.cellsOf t = 2)
    (hv : Value.okWide P w r b0 t v) (h : DataW.Trod enc P w 0 (fun _ => true) true t v d p) :
    ∃ a0 n0 c0 x0 a1 n1 c1 x1, v = .agg #[.slice a0 n0 c0, .slice a1 n1 c1] ∧ BytesIn w a0 n0 c0 x0 ∧ BytesIn w a1 n1 c1 x1 := by
  obtain ⟨cs, rfl, hsz, _⟩ : ∃ cs, v = .agg cs ∧ cs.size = P.cellsOf t ∧ Row.okWide P w r b0 t cs := by
    simpa [Value.okWide, ht] using hv
  obtain ⟨fuel, hf⟩ := h
  obtain ⟨xs, m, _, hx, hl, hxl, hi⟩ := DataW.trod_array ht hf
  obtain ⟨l⟩ := cs
  simp only [Value.cells] at hi hl
  rw [hcs] at hi
  rw [hct] at hl
  obtain ⟨u0, u1, rfl⟩ : ∃ a b, l = [a, b] := by
    match l, hl with
    | [a, b], _ => exact ⟨a, b, rfl⟩
  have k0 := hi 0 (by omega)
  have k1 := hi 1 (by omega)
  rw [List.getElem?_eq_getElem (by omega)] at k0 k1
  obtain ⟨a0, n0, c0, x0, e0, h0⟩ := open_bytes_cells hs he hc k0
  obtain ⟨a1, n1, c1, x1, e1, h1⟩ := open_bytes_cells hs he hc k1
  simp at e0 e1
  exact ⟨a0, n0, c0, x0, a1, n1, c1, x1, by rw [e0, e1], h0, h1⟩
end
end Go.Proofs.YtpblfpnldbdncaaGreatDoor
