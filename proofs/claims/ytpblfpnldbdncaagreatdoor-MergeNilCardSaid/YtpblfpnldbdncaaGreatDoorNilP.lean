/- Nil and zero merges; an argument that is an output. -/
import Derived.Test.YtpblfpnldbdncaaGreatDoorLearnsP
import Derived.OpenShut
namespace Go.Proofs.YtpblfpnldbdncaaGreatDoor
open Go.RowKit Go.Sort Go.Maps Go.WideShapes Go.ChangeShapes
open Sg (Rc)
open Mg (Mst Jd H)
set_option linter.unusedVariables false
set_option maxRecDepth 100000
/-! nil merges -/
theorem nil_learn {o : Ot} (w : World) : Calls Tryz.prog 16 #[.pointer none, .agg (otArr o)] w fun e w' => e = .returned (.int .i64 1) ∧ Below w.heap.size w w' := by
  have bz : Below w.heap.size w (w.alloc (.cells (otArr o) 42)) := (Below.refl _ _).alloc (Nat.le_refl _) _
  obtain ⟨V, hV⟩ : ∃ V, otArr o = V := ⟨_, rfl⟩
  rw [hV] at bz ⊢
  have BZ := Lib.hid bz
  clear hV bz
  go_enter Tryz.func16, Tryz.ntmps16
  go_wp2_with fail
  go_ret
  exact ⟨rfl, BZ.out⟩
theorem nil_take {k : Int} {v : Value} {ao : Option Addr} {n c : Nat} (hv : v = .slice ao n c) (w : World) : Calls Tryz.prog 18 #[.pointer none, .agg #[.int .i64 k, v]] w fun e w' => e = .returned (.int .i64 1) ∧ Below w.heap.size w w' := by
  subst hv
  have BZ : Hid (Below w.heap.size w (w.alloc (.cells #[.int .i64 k, .slice ao n c] 46))) := (Below.refl _ _).alloc (Nat.le_refl _) _
  go_enter Tryz.func18, Tryz.ntmps18
  go_wp2_with fail
  go_ret
  exact ⟨rfl, BZ.out⟩
theorem nil_pick {u : Value} (w : World) : Calls Tryz.prog 50 #[.pointer none, u] w fun e w' => e = .returned (.slice none 0 0) ∧ Below w.heap.size w w' := by
  go_enter Tryz.func50, Tryz.ntmps50
  go_wp2_with fail
  go_ret
  exact ⟨rfl, Below.refl _ _⟩
theorem nil_receipts {d : ByteArray} {r : Int} (w : World) : Calls Tryz.prog 21 #[.pointer none, .string d, .int .i64 r] w fun e w' => e = .returned (.slice none 0 0) ∧ Below w.heap.size w w' := by
  have BZ : Hid (Below w.heap.size w ((w.alloc (.cells #[.string d] 9)).alloc (.cells #[.int .i64 r] 3))) := ((Below.refl _ _).alloc (Nat.le_refl _) _).alloc (by simp) _
  have hmf : ∀ (fn : Fn) (first cap : Array Value) (w : World), (Instr.makeFunc fn first cap).run Tryz.prog w = .ok (.func fn first cap) w := fun _ _ _ _ => rfl
  go_enter Tryz.func21, Tryz.ntmps21
  go_wp2_with fail
  refine (nil_pick _).mono ?_
  rintro e w1 ⟨rfl, b1⟩
  have B1 := Lib.hid (below_join BZ.out b1)
  clear b1
  go_wp2_with fail
  go_ret
  exact ⟨rfl, B1.out⟩
theorem nil_late {d : ByteArray} {r : Int} (w : World) : Calls Tryz.prog 25 #[.pointer none, .string d, .int .i64 r] w fun e w' => e = .returned (.slice none 0 0) ∧ Below w.heap.size w w' := by
  have BZ : Hid (Below w.heap.size w ((w.alloc (.cells #[.string d] 9)).alloc (.cells #[.int .i64 r] 3))) := ((Below.refl _ _).alloc (Nat.le_refl _) _).alloc (by simp) _
  have hmf : ∀ (fn : Fn) (first cap : Array Value) (w : World), (Instr.makeFunc fn first cap).run Tryz.prog w = .ok (.func fn first cap) w := fun _ _ _ _ => rfl
  go_enter Tryz.func25, Tryz.ntmps25
  go_wp2_with fail
  refine (nil_pick _).mono ?_
  rintro e w1 ⟨rfl, b1⟩
  have B1 := Lib.hid (below_join BZ.out b1)
  clear b1
  go_wp2_with fail
  go_ret
  exact ⟨rfl, B1.out⟩
theorem nil_evidence (w : World) : Calls Tryz.prog 19 #[.pointer none] w fun e w' => e = .returned (.slice none 0 0) ∧ Below w.heap.size w w' := by
  go_enter Tryz.func19, Tryz.ntmps19
  go_wp2_with fail
  go_ret
  exact ⟨rfl, Below.refl _ _⟩
theorem nil_encode (w : World) : Calls Tryz.prog 29 #[.pointer none] w fun e w' => e = .returned (.string ⟨#[]⟩) ∧ Below w.heap.size w w' := by
  go_enter Tryz.func29, Tryz.ntmps29
  go_wp2_with fail
  go_ret
  exact ⟨rfl, Below.refl _ _⟩
/-! a zero merge -/
theorem zero_at (w : World) : MrgAt (w.alloc (.cells #[.map none, .map none, .map none, .map none] 82)) w.heap.size (.map none) (.map none) (.map none) (.map none) (newSt []) 0 where
  cells := heap_alloc_new w _
  pub := MapIs.none
  outs := MapIs.none
  kept := MapIs.none
  clones := MapIs.none
  po := fun k h => by cases h
  pk := fun k h => by cases h
  pc := fun k h => by cases h
  ok' := fun k h => by cases h
  oc := fun k h => by cases h
  kc := fun k h => by cases h
  ok := ⟨fun k v h => (by cases h), fun k v h => (by cases h), fun k s v h => (by cases h), fun k s v h => (by cases h), fun k v h => (by cases h)⟩
theorem zero_has {T : Thing} {w0 w : World} (h : Has T w0 w) : Has ((MrgT w.heap.size (newSt []) 0).both T) w0 (w.alloc (.cells #[.map none, .map none, .map none, .map none] 82)) := by
  have hb : Below w.heap.size w (w.alloc (.cells #[.map none, .map none, .map none, .map none] 82)) := (Below.refl _ _).alloc (Nat.le_refl _) _
  refine (h.newMrg hb (zero_at w) (fun k hk => ?_)).swap
  rcases hk with rfl | hk | hk | hk | hk
  · exact Nat.le_refl _
  · cases hk
  · cases hk
  · cases hk
  · cases hk
/-! an argument that is an output -/
section
variable {H' : Type} {enc : TypeId × Value → H'}
theorem cells_nat' : Tryz.prog.cellsOf 40 = 1 := by kernel_rfl
theorem cells_out : Tryz.prog.cellsOf 42 = 67 := by kernel_rfl
theorem hash_of {w : World} {base fuel : Nat} {spare : Nat → Bool} {held : Bool} {L : List Value} {x : DataW H' × List MemPlace} (h : DataW.trod enc Tryz.prog w base spare held fuel 27 L = some x) : ∃ l : List UInt8, L = hcl l ∧ l.length = 32 := by
  obtain ⟨xs, m, _, hx, hl, hxl, hi⟩ := DataW.trod_array Tryz.underlying27 h
  rw [cells_hash] at hl
  rw [cells_u8] at hi
  have key : ∀ i, i < 32 → ∃ z : Int, L[i]? = some (.int .u8 z) ∧ 0 ≤ z ∧ z ≤ 255 := by
    intro i hin
    have h1 := hi i hin
    rw [List.getElem?_eq_getElem (show i < xs.length by omega)] at h1
    obtain ⟨z, e1, _, wz⟩ := DataW.trod_int Tryz.underlying5 h1
    rw [Nat.mul_one, List.drop_eq_getElem_cons (show i < L.length by omega), List.take_succ_cons, List.take_zero] at e1
    injection e1 with e1
    have hz : 0 ≤ z ∧ z ≤ 255 := by simpa [Lit.wf, IntKind.min, IntKind.max, IntKind.signed, IntKind.bits] using wz
    exact ⟨z, by rw [List.getElem?_eq_getElem (show i < L.length by omega), e1], hz⟩
  let zof : Value → UInt8 := fun v => match v with | .int _ z => UInt8.ofNat z.toNat | _ => 0
  refine ⟨L.map zof, ?_, by rw [List.length_map, hl]⟩
  apply List.ext_getElem?
  intro i
  by_cases hin : i < 32
  · obtain ⟨z, h1, h2, h3⟩ := key i hin
    rw [h1, hcl, List.getElem?_map, List.getElem?_map, h1]
    have h4 : z.toNat < 256 := by omega
    simp [zof]
    omega
  · rw [List.getElem?_eq_none (by omega), List.getElem?_eq_none (by rw [hcl_length, List.length_map]; omega)]
theorem open_out {w : World} {r : Reach} {b0 : Nat} {v : Value} {d : DataW H'} {p : List MemPlace} (hv : Value.okWide Tryz.prog w r b0 42 v) (h : DataW.Trod enc Tryz.prog w 0 (fun _ => true) true 42 v d p) :
    ∃ o : Ot, v = .agg (otArr o) ∧ OtOk o := by
  obtain ⟨cs, rfl, hsz, _⟩ : ∃ cs, v = .agg cs ∧ cs.size = Tryz.prog.cellsOf 42 ∧ Row.okWide Tryz.prog w r b0 42 cs := by
    simpa [Value.okWide, Tryz.underlying42] using hv
  obtain ⟨fuel, hf⟩ := h
  obtain ⟨L⟩ := cs
  simp only [Value.cells] at hf
  obtain ⟨xs, m, _, hx, hl, hxl, hi⟩ := DataW.trod_struct Tryz.underlying42 hf
  rw [cells_out] at hl
  have hx5 : xs.length = 5 := hxl
  have some_at : ∀ i, i < 5 → ∃ y, xs[i]? = some y := fun i hin => ⟨xs[i]'(by omega), List.getElem?_eq_getElem _⟩
  obtain ⟨y0, q0⟩ := some_at 0 (by omega)
  obtain ⟨y1, q1⟩ := some_at 1 (by omega)
  obtain ⟨y2, q2⟩ := some_at 2 (by omega)
  obtain ⟨y3, q3⟩ := some_at 3 (by omega)
  obtain ⟨y4, q4⟩ := some_at 4 (by omega)
  have k0 : DataW.trod enc Tryz.prog w 0 (fun _ => true) true m 3 ((L.drop 0).take (Tryz.prog.cellsOf 3)) = some y0 := (hi 0 _ rfl).trans q0
  have k1 : DataW.trod enc Tryz.prog w 0 (fun _ => true) true m 3 ((L.drop 1).take (Tryz.prog.cellsOf 3)) = some y1 := (hi 1 _ rfl).trans q1
  have k2 : DataW.trod enc Tryz.prog w 0 (fun _ => true) true m 40 ((L.drop 2).take (Tryz.prog.cellsOf 40)) = some y2 := (hi 2 _ rfl).trans q2
  have k3 : DataW.trod enc Tryz.prog w 0 (fun _ => true) true m 27 ((L.drop 3).take (Tryz.prog.cellsOf 27)) = some y3 := (hi 3 _ rfl).trans q3
  have k4 : DataW.trod enc Tryz.prog w 0 (fun _ => true) true m 27 ((L.drop 35).take (Tryz.prog.cellsOf 27)) = some y4 := (hi 4 _ rfl).trans q4
  rw [cells_int] at k0 k1
  rw [cells_nat'] at k2
  rw [cells_hash] at k3 k4
  obtain ⟨z0, e0, _, w0⟩ := DataW.trod_int Tryz.underlying3 k0
  obtain ⟨z1, e1, _, w1⟩ := DataW.trod_int Tryz.underlying3 k1
  obtain ⟨s2, e2, _, m2⟩ := DataW.trod_string Tryz.underlying40 k2
  obtain ⟨l3, e3, n3⟩ := hash_of k3
  obtain ⟨l4, e4, n4⟩ := hash_of k4
  have i0 : I64 z0 := by
    have : -9223372036854775808 ≤ z0 ∧ z0 ≤ 9223372036854775807 := by simpa [Lit.wf, IntKind.min, IntKind.max, IntKind.signed, IntKind.bits] using w0
    exact this
  have i1 : I64 z1 := by
    have : -9223372036854775808 ≤ z1 ∧ z1 ≤ 9223372036854775807 := by simpa [Lit.wf, IntKind.min, IntKind.max, IntKind.signed, IntKind.bits] using w1
    exact this
  refine ⟨⟨z0, z1, s2, l3, l4⟩, ?_, ⟨i0, i1, m2, n3, n4⟩⟩
  have eL : L = (L.drop 0).take 1 ++ ((L.drop 1).take 1 ++ ((L.drop 2).take 1 ++ ((L.drop 3).take 32 ++ (L.drop 35).take 32))) := by
    have t0 : (L.drop 35).take 32 = L.drop 35 := List.take_of_length_le (by rw [List.length_drop]; omega)
    have t1 : L.drop 35 = (L.drop 3).drop 32 := by rw [List.drop_drop]
    have t2 : L.drop 3 = (L.drop 2).drop 1 := by rw [List.drop_drop]
    have t3 : L.drop 2 = (L.drop 1).drop 1 := by rw [List.drop_drop]
    have t4 : L.drop 1 = (L.drop 0).drop 1 := by rw [List.drop_drop]
    rw [t0, t1, List.take_append_drop, t2, List.take_append_drop, t3, List.take_append_drop, t4, List.take_append_drop, List.drop_zero]
  have e0' : (L.drop 0).take 1 = [.int .i64 z0] := e0
  rw [eL, e0', e1, e2, e3, e4]
  rfl
end
end Go.Proofs.YtpblfpnldbdncaaGreatDoor
