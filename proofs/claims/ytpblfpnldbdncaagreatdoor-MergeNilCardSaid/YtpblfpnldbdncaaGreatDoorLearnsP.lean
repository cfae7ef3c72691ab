/- For the law of learning: the two merges side by side, where no kiosk is known; the arguments. -/
import Derived.Test.YtpblfpnldbdncaaGreatDoorREnc
import Derived.Test.YtpblfpnldbdncaaGreatDoorSameE
import Derived.Test.YtpblfpnldbdncaaGreatDoorEncW
import Derived.Test.YtpblfpnldbdncaaGreatDoorG21
import Derived.ChangeSlices
namespace Go.Proofs.YtpblfpnldbdncaaGreatDoor
open Go.RowKit Go.Sort Go.Maps Go.WideShapes Go.ChangeShapes
open Sg (Rc)
open Mg (Mst Jd H)
set_option linter.unusedVariables false
set_option maxRecDepth 100000
/-- .. reads as zs -/
structure IntsIn (w : World) (ao : Option Addr) (n c : Nat) (zs : List Int) : Prop where
  le : n ≤ c
  cap : c ≤ 9223372036854775807
  len : zs.length = n
  wf : ∀ z ∈ zs, I64 z
  some : 0 < n → ∃ b o, ao = some ⟨b, o, none⟩ ∧ ∀ i, i < n → w.cell? ⟨b, o + i, none⟩ = some (.int .i64 (zs.getD i 0))
section
variable {H : Type} {enc : TypeId × Value → H} {P : Program}
theorem open_i64s {w : World} {r : Reach} {b0 : Nat} {t e : TypeId} {v : Value} {d : DataW H} {p : List MemPlace} (ht : P.underlying t = some (.slice e)) (he : P.underlying e = some (.int .i64)) (hc : P.cellsOf e = 1)
    (hv : Value.okWide P w r b0 t v) (h : DataW.Trod enc P w 0 (fun _ => true) true t v d p) :
    ∃ ao n c zs, v = .slice ao n c ∧ IntsIn w ao n c zs := by
  obtain ⟨ao, n, c, rfl⟩ := okWide_slice ht hv
  obtain ⟨fuel, hf⟩ := h
  rcases open_ints ht he hc hf with ⟨hcs, hx⟩ | ⟨a, len', cap', zs, hcs, _, hl, hm, hz, hx, hcell, hws⟩
  · simp [Value.cells] at hcs
    obtain ⟨rfl, rfl, rfl⟩ := hcs
    exact ⟨none, 0, 0, [], rfl, by omega, by omega, rfl, fun z hz => (by cases hz), fun h => by omega⟩
  · simp [Value.cells] at hcs
    obtain ⟨rfl, rfl, rfl⟩ := hcs
    simp only [if_true] at hz
    have hlen : (zs.take n).length = n := by rw [List.length_take]; omega
    refine ⟨_, n, c, zs.take n, rfl, hl, by simpa [maxLen] using hm, hlen, fun z hz => ?_, fun h0 => ?_⟩
    · have := hws z (List.mem_of_mem_take hz)
      have h2 : -9223372036854775808 ≤ z ∧ z ≤ 9223372036854775807 := by simpa [Lit.wf, IntKind.min, IntKind.max, IntKind.signed, IntKind.bits] using this
      exact h2
    · obtain ⟨b, off, spot⟩ := a
      have hspot : spot = none := by simpa [Addr.add] using World.cell?_spot (hcell 0 (by omega))
      subst hspot
      refine ⟨b, off, rfl, fun i hi => ?_⟩
      have h1 := hcell i (by omega)
      rw [add_plain] at h1
      rw [h1]
      congr 2
      rw [List.getD_eq_getElem?_getD, List.getD_eq_getElem?_getD, List.getElem?_take, if_pos hi]
end
/-- a merge that knows no kiosk and keeps nothing, beside the reference's list -/
structure LrnS (st : Mst) (L : List Ot) : Prop where
  outs : Mg.OutsList st.outs (L.map rh)
  pub : st.pub = fun _ => none
  kept : st.kept = fun _ _ => none
  cl : st.clones = fun _ => none
  ok : ∀ o ∈ L, OtOk o ∧ 1 ≤ o.rd
theorem lrn_new : LrnS (newSt []) [] := ⟨Mg.outs_nil, rfl, rfl, rfl, fun o h => by cases h⟩
theorem LrnS.learn {st : Mst} {L : List Ot} (h : LrnS st L) {o : Ot} (ho : OtOk o) : LrnS (st.learn o.rd o.hash).1 (rlearnO L o).1 ∧ (st.learn o.rd o.hash).2 = (rlearnO L o).2 := by
  obtain ⟨h1, h2⟩ := rlearnO_ok h.outs o
  have key : (st.learn o.rd o.hash).1.pub = st.pub ∧ (st.learn o.rd o.hash).1.kept = st.kept ∧ (st.learn o.rd o.hash).1.clones = st.clones := by
    unfold Mst.learn
    by_cases h0 : o.rd < 1
    · rw [if_pos h0]; exact ⟨rfl, rfl, rfl⟩
    · rw [if_neg h0]
      cases st.outs o.rd <;> exact ⟨rfl, rfl, rfl⟩
  obtain ⟨a, b, c⟩ := key
  refine ⟨⟨h2, a.trans h.pub, b.trans h.kept, c.trans h.cl, fun x hx => ?_⟩, h1⟩
  rcases rlearnO_mem hx with hx | ⟨rfl, h3⟩
  · exact h.ok x hx
  · exact ⟨ho, h3⟩
theorem LrnS.few {st : Mst} {L : List Ot} (h : LrnS st L) : Few st := ⟨[], by simp, fun k hk => by rw [h.pub] at hk; cases hk⟩
theorem LrnS.keys {st : Mst} {L : List Ot} (h : LrnS st L) : KeysIs (pubF st) [] := by
  refine ⟨List.Pairwise.nil, fun k => ⟨fun hk => (by cases hk), fun hk => ?_⟩⟩
  have := hk.2
  unfold pubF at this
  rw [h.pub] at this
  cases this
theorem LrnS.ckeys {st : Mst} {L : List Ot} (h : LrnS st L) : KeysIs (cloneF st) [] := by
  refine ⟨List.Pairwise.nil, fun k => ⟨fun hk => (by cases hk), fun hk => ?_⟩⟩
  have := hk.2
  unfold cloneF at this
  rw [h.cl] at this
  cases this
theorem LrnS.text {st : Mst} {L : List Ot} (h : LrnS st L) {ko ks kc : List Int} (h1 : KeysIs (outF st) ko) (h2 : KeysIs (pubF st) ks) (h3 : KeysIs (cloneF st) kc) : encT st ko ks kc = L.flatMap oLine :=
  enc_outs h.outs (fun o ho => (h.ok o ho).1.rd) h1 (keys_unique h2 h.keys) (keys_unique h3 h.ckeys)
theorem LrnS.sorted {st : Mst} {L : List Ot} (h : LrnS st L) : L.Pairwise (fun a b => a.rd < b.rd) := outs_sorted h.outs
/-- a slice that is nil or empty reads as no receipts -/
theorem lies_nil_rc {P : Program} {α : Type} {R : Rk P α} {w : World} : LiesR R w (.slice none 0 0) [] := LiesR.nil none 0
set_option maxHeartbeats 1000000 in
/-- the reference's Evidence, where no kiosk is known -/
theorem revid_any {w : World} {p : Nat} {vo : Value} {L : List Ot} (h : RMAt w p vo L) :
    Calls Tryz.prog 69 #[.pointer (some ⟨p, 0, none⟩)] w fun e w' => e = .returned (.slice none 0 0) ∧ Below w.heap.size w w' := by
  have c0 : w.cell? ⟨p, 0, none⟩ = some (.slice none 0 0) := (cell_of_row _ _ 0 _ _ _ h.cells).trans rfl
  clear h
  go_enter Tryz.func69, Tryz.ntmps69
  go_wp2_with fail
  go_loopw [3, 4] (fun v3 v4 wx => v3 = .slice none 0 0 ∧ v4 = .int .i64 0 ∧ wx = w) (fun _ _ _ => 0)
  case atStart => exact ⟨rfl, rfl, rfl⟩
  case round =>
    obtain ⟨rfl, rfl, rfl⟩ := hrel
    go_wp2_with fail
    go_ret
    exact ⟨rfl, Below.refl _ _⟩
set_option maxHeartbeats 1000000 in
theorem rreceipts_any {w : World} {p : Nat} {vo : Value} {L : List Ot} (h : RMAt w p vo L) (d : ByteArray) (r : Int) :
    Calls Tryz.prog 70 #[.pointer (some ⟨p, 0, none⟩), .string d, .int .i64 r] w fun e w' => e = .returned (.slice none 0 0) ∧ Below w.heap.size w w' := by
  have c0 : w.cell? ⟨p, 2, none⟩ = some (.slice none 0 0) := (cell_of_row _ _ 2 _ _ _ h.cells).trans rfl
  clear h
  go_enter Tryz.func70, Tryz.ntmps70
  go_wp2_with fail
  go_loopw [7, 8] (fun v7 v8 wx => v7 = .slice none 0 0 ∧ v8 = .int .i64 0 ∧ wx = w) (fun _ _ _ => 0)
  case atStart => exact ⟨rfl, rfl, rfl⟩
  case round =>
    obtain ⟨rfl, rfl, rfl⟩ := hrel
    go_wp2_with fail
    go_ret
    exact ⟨rfl, Below.refl _ _⟩
set_option maxHeartbeats 1000000 in
theorem rlate_any {w : World} {p : Nat} {vo : Value} {L : List Ot} (h : RMAt w p vo L) (d : ByteArray) (r : Int) :
    Calls Tryz.prog 71 #[.pointer (some ⟨p, 0, none⟩), .string d, .int .i64 r] w fun e w' => e = .returned (.slice none 0 0) ∧ Below w.heap.size w w' := by
  have c0 : w.cell? ⟨p, 2, none⟩ = some (.slice none 0 0) := (cell_of_row _ _ 2 _ _ _ h.cells).trans rfl
  clear h
  go_enter Tryz.func71, Tryz.ntmps71
  go_wp2_with fail
  go_loopw [7, 8] (fun v7 v8 wx => v7 = .slice none 0 0 ∧ v8 = .int .i64 0 ∧ wx = w) (fun _ _ _ => 0)
  case atStart => exact ⟨rfl, rfl, rfl⟩
  case round =>
    obtain ⟨rfl, rfl, rfl⟩ := hrel
    go_wp2_with fail
    go_ret
    exact ⟨rfl, Below.refl _ _⟩
end Go.Proofs.YtpblfpnldbdncaaGreatDoor
