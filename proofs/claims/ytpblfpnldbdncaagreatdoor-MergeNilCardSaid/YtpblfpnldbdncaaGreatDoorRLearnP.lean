/- Plain: the reference's list of outputs: Learn puts an output at its place; its text. -/
import Derived.Test.YtpblfpnldbdncaaGreatDoorG12
import Derived.Test.YtpblfpnldbdncaaGreatDoorG01
import Derived.Test.YtpblfpnldbdncaaGreatDoorEncP
namespace Go.Proofs.YtpblfpnldbdncaaGreatDoor
open Go.RowKit Go.Sort Go.Maps
open Sg (Rc)
open Mg (Mst Jd H)
set_option linter.unusedVariables false
/-- a round and its hash -/
def rh (o : Ot) : Int × H := (o.rd, o.hash)
/-- what the reference's Learn does -/
def rlearnO (L : List Ot) (o : Ot) : List Ot × Nat :=
  if o.rd < 1 then (L, 1) else
  match L.find? (fun a => decide (a.rd = o.rd)) with
  | some a => (L, if a.hash = o.hash then 2 else 3)
  | none => (L.filter (fun a => decide (a.rd < o.rd)) ++ o :: L.filter (fun a => !decide (a.rd < o.rd)), 0)
theorem rlearnO_map (L : List Ot) (o : Ot) : (rlearnO L o).1.map rh = (Mg.rlearn (L.map rh) o.rd o.hash).1 ∧ (rlearnO L o).2 = (Mg.rlearn (L.map rh) o.rd o.hash).2 := by
  unfold rlearnO Mg.rlearn
  by_cases h0 : o.rd < 1
  · rw [if_pos h0, if_pos h0]; exact ⟨rfl, rfl⟩
  · rw [if_neg h0, if_neg h0, List.find?_map]
    have e1 : ((fun a : Int × H => decide (a.1 = o.rd)) ∘ rh) = fun a : Ot => decide (a.rd = o.rd) := rfl
    rw [e1]
    cases L.find? (fun a => decide (a.rd = o.rd)) with
    | some a => exact ⟨rfl, rfl⟩
    | none =>
      refine ⟨?_, rfl⟩
      simp only [Option.map_none, List.map_append, List.map_cons, List.filter_map]
      rfl
theorem rlearnO_ok {m : Mst} {L : List Ot} (hL : Mg.OutsList m.outs (L.map rh)) (o : Ot) : (m.learn o.rd o.hash).2 = (rlearnO L o).2 ∧ Mg.OutsList (m.learn o.rd o.hash).1.outs ((rlearnO L o).1.map rh) := by
  obtain ⟨h1, h2⟩ := Mg.learn_ref hL o.rd o.hash
  obtain ⟨g1, g2⟩ := rlearnO_map L o
  rw [g1, g2]
  exact ⟨h1, h2⟩
theorem rlearnO_mem {L : List Ot} {o : Ot} {x : Ot} (hx : x ∈ (rlearnO L o).1) : x ∈ L ∨ (x = o ∧ 1 ≤ o.rd) := by
  unfold rlearnO at hx
  by_cases h0 : o.rd < 1
  · rw [if_pos h0] at hx; exact .inl hx
  · rw [if_neg h0] at hx
    cases hf : L.find? (fun a => decide (a.rd = o.rd)) with
    | some a => rw [hf] at hx; exact .inl hx
    | none =>
      rw [hf] at hx
      simp only [List.mem_append, List.mem_cons, List.mem_filter] at hx
      rcases hx with ⟨h, _⟩ | h | ⟨h, _⟩
      · exact .inl h
      · exact .inr ⟨h, by omega⟩
      · exact .inl h
theorem rlearnO_len (L : List Ot) (o : Ot) : (rlearnO L o).1.length ≤ L.length + 1 := by
  unfold rlearnO
  by_cases h0 : o.rd < 1
  · rw [if_pos h0]; exact Nat.le_succ _
  · rw [if_neg h0]
    cases L.find? (fun a => decide (a.rd = o.rd)) with
    | some a => exact Nat.le_succ _
    | none =>
      simp only [List.length_append, List.length_cons]
      have : ∀ l : List Ot, (l.filter (fun a => decide (a.rd < o.rd))).length + (l.filter (fun a => !decide (a.rd < o.rd))).length = l.length := by
        intro l
        induction l with
        | nil => rfl
        | cons x l ih =>
          rw [List.filter_cons, List.filter_cons]
          by_cases hx : x.rd < o.rd
          · rw [decide_eq_true hx]
            simp only [if_true, Bool.not_true, Bool.false_eq_true, if_false, List.length_cons]
            omega
          · rw [decide_eq_false hx]
            simp only [if_true, Bool.not_false, Bool.false_eq_true, if_false, List.length_cons]
            omega
      have := this L
      omega
/-- the place of a round in an ordered list -/
theorem splitO (rd : Int) : ∀ (L : List Ot), L.Pairwise (fun a b => a.rd < b.rd) → ∃ n ≤ L.length, (∀ k x, L[k]? = some x → (x.rd < rd ↔ k < n)) ∧ L.take n = L.filter (fun a => decide (a.rd < rd)) ∧ L.drop n = L.filter (fun a => !decide (a.rd < rd)) := by
  intro L
  induction L with
  | nil => intro _; exact ⟨0, Nat.le_refl _, fun k x h => by simp at h, rfl, rfl⟩
  | cons x L ih =>
    intro h
    obtain ⟨a1, a2⟩ := List.pairwise_cons.1 h
    by_cases hx : x.rd < rd
    · obtain ⟨n, h1, h0, h2, h3⟩ := ih a2
      refine ⟨n + 1, by rw [List.length_cons]; omega, fun k y hy => ?_, ?_, ?_⟩
      · cases k with
        | zero => simp at hy; subst hy; simp [hx]
        | succ k => have := h0 k y (by simpa using hy); omega
      · rw [List.take_succ_cons, List.filter_cons, if_pos (by simpa using hx), h2]
      · rw [List.drop_succ_cons, List.filter_cons, if_neg (by simpa using hx), h3]
    · have hall : ∀ b ∈ x :: L, ¬ b.rd < rd := fun b hb => by
        rcases List.mem_cons.1 hb with rfl | hb
        · exact hx
        · have := a1 b hb; omega
      refine ⟨0, Nat.zero_le _, fun k y hy => ?_, ?_, ?_⟩
      · have := hall y (List.mem_of_getElem? hy)
        omega
      · rw [List.take_zero, eq_comm, List.filter_eq_nil_iff]
        intro b hb
        simpa using hall b hb
      · rw [List.drop_zero, eq_comm, List.filter_eq_self]
        intro b hb
        simpa using hall b hb
theorem outs_sorted {o : Int → Option H} {L : List Ot} (h : Mg.OutsList o (L.map rh)) : L.Pairwise (fun a b => a.rd < b.rd) := (List.pairwise_map (f := rh) (R := fun a b => a.1 < b.1)).1 h.1
/-- a line of an output -/
def oLine (o : Ot) : List UInt8 := [111, 117, 116, 112, 117, 116, 32] ++ Lib.itoa o.rd ++ [32] ++ Sg.hex o.hash ++ [10]
theorem out_line {st : Mst} {L : List Ot} (h : Mg.OutsList st.outs (L.map rh)) {o : Ot} (ho : o ∈ L) : outLine st o.rd = oLine o := by
  have : st.outs o.rd = some o.hash := (h.2 o.rd o.hash).1 (List.mem_map.2 ⟨o, ho, rfl⟩)
  unfold outLine lineOf outWords oLine
  rw [this]
  simp [Lib.join, List.intercalate, List.intersperse]
theorem enc_outs {st : Mst} {L : List Ot} (h : Mg.OutsList st.outs (L.map rh)) (hr : ∀ o ∈ L, I64 o.rd) {ko ks kc : List Int} (h1 : KeysIs (outF st) ko) (hks : ks = []) (hkc : kc = []) : encT st ko ks kc = L.flatMap oLine := by
  have hk : KeysIs (outF st) (L.map Ot.rd) := by
    refine ⟨?_, fun k => ?_⟩
    · exact List.pairwise_map.2 (outs_sorted h)
    · constructor
      · intro hm
        obtain ⟨o, ho, rfl⟩ := List.mem_map.1 hm
        refine ⟨hr o ho, ?_⟩
        have : st.outs o.rd = some o.hash := (h.2 o.rd o.hash).1 (List.mem_map.2 ⟨o, ho, rfl⟩)
        unfold outF
        rw [this]
        rfl
      · rintro ⟨_, hs⟩
        unfold outF at hs
        rw [Option.isSome_map] at hs
        obtain ⟨x, hx⟩ := Option.isSome_iff_exists.1 hs
        obtain ⟨o, ho, e⟩ := List.mem_map.1 ((h.2 k x).2 hx)
        injection e with e _
        exact List.mem_map.2 ⟨o, ho, e⟩
  rw [keys_unique h1 hk, hks, hkc]
  unfold encT
  rw [List.flatMap_nil, List.flatMap_nil, List.append_nil, List.append_nil, List.flatMap_map]
  have key : ∀ l : List Ot, (∀ o ∈ l, o ∈ L) → (l.flatMap fun o => outLine st o.rd) = l.flatMap oLine := by
    intro l
    induction l with
    | nil => intro _; rfl
    | cons x l ih =>
      intro hs
      rw [List.flatMap_cons, List.flatMap_cons, ih (fun o ho => hs o (by simp [ho])), out_line h (hs x (by simp))]
  exact key L fun o ho => ho
end Go.Proofs.YtpblfpnldbdncaaGreatDoor
