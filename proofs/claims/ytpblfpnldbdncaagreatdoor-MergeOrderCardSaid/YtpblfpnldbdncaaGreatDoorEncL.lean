/- A line of the state of a merge: strings.Builder's WriteByte, and the closure of Encode. -/
import Derived.Test.YtpblfpnldbdncaaGreatDoorBuilder
import Derived.Test.YtpblfpnldbdncaaGreatDoorG10
import Derived.Lib.FrozenHead2
import Derived.Lib.UnsafeStr
namespace Go.Proofs.YtpblfpnldbdncaaGreatDoor
open Go.Shelf Go.RowKit Go.Sort
set_option linter.unusedVariables false
set_option maxHeartbeats 4000000 in
set_option maxRecDepth 100000 in
theorem writeByte_any (B b : Nat) (bs : List Value) (c : Int) (w : World) (h : Lib.IsBuilderF 127 5 B b bs w) (hlen : bs.length + 1 ≤ 140737488355328) (hBw : B ≤ w.heap.size) :
    Calls Tryz.prog 59 #[.pointer (some ⟨b, 0, none⟩), .int .u8 c] w fun e w' => e = .returned .nilIface ∧ (Lib.IsBuilderF 127 5 B b (bs ++ [.int .u8 c]) w' ∧ Below B w w' ∧ Lib.OthersKept 5 (some b) w w') := by
  obtain ⟨i0, hi, hz0, hz1, hz2⟩ := info_parts builder_byte
  have CC := Lib.hid (copyCheck_any B b bs w h)
  clear h
  go_enter Tryz.func59, Tryz.ntmps59
  go_wp2_with fail
  refine CC.out.mono ?_
  rintro e w1 ⟨rfl, h1, hb1, hk1⟩
  obtain ⟨hB, v, hbk, hown, hne⟩ := h1
  have c0 : w1.cell? ⟨b, 0, none⟩ = some (.pointer (some ⟨b, 0, none⟩)) := by rw [Lib.cell_of_heap hbk]; rfl
  have c1 : w1.cell? ⟨b, 1, none⟩ = some v := by rw [Lib.cell_of_heap hbk]; rfl
  go_wp2_with (at_builtin; refine wpList_append_ownF _ rfl _ _ 67 rfl B 5 i0 (.int .u8 0) 1 1 Tryz.underlying67 hi hz0 hz1 hz2 rfl (by decide) _ _ _ rfl (hown.alloc _) ⟨w1.heap.size, 0, none⟩ 1 1 [.int .u8 c] rfl rfl ?c1 ?c2 ?c3 ?c4 ?c5 ?_)
  case c1 =>
    intro j u hj
    match j, hj with
    | 0, hj => simp at hj; subst hj; simp [Addr.add]
  case c2 => intro u hu; simp at hu; subst hu; rfl
  case c3 => unfold maxLen; omega
  case c4 => omega
  case c5 => have := hb1.size; simp; omega
  intro v' w2 hown' hgrow _
  have hlt : b < w1.heap.size := by
    rcases Nat.lt_or_ge b w1.heap.size with h' | h'
    · exact h'
    · simp [Array.getElem?_eq_none h'] at hbk
  have hb2 : w2.heap[b]? = some (.cells #[.pointer (some ⟨b, 0, none⟩), v] 127 (0, 0)) := by
    rw [hgrow.block b (by simp; omega) (fun e => hne e.symm), Lib.alloc_old w1 _ b hlt]
    exact hbk
  have d0 : w2.cell? ⟨b, 0, none⟩ = some (.pointer (some ⟨b, 0, none⟩)) := by rw [Lib.cell_of_heap hb2]; rfl
  have d1 : w2.cell? ⟨b, 1, none⟩ = some v := by rw [Lib.cell_of_heap hb2]; rfl
  have f1 : w2.frozen? ⟨b, 1, none⟩ = false := Lib.frozen_of_heap hb2 1
  obtain ⟨g, cap, rfl⟩ : ∃ g cap, v' = .slice (some ⟨g, 0, none⟩) (bs.length + 1) cap := by
    rcases hown'.2 with ⟨_, h0⟩ | ⟨g, cap, cur, fz, hv, _⟩
    · omega
    · exact ⟨g, cap, hv⟩
  go_wp2_with fail
  go_ret
  refine ⟨rfl, .inr ?_, ?_, ((hk1.alloc _).grown hgrow (Lib.ownsRowF_kind (hown.alloc _))).setCell ⟨b, 1, none⟩ rfl _⟩
  · exact Lib.BuilderAtF.put (T := 127) (e := 5) hB hb2 (bs' := bs ++ [.int .u8 c]) (by simpa using hown') (by decide)
  · exact ((hb1.alloc (by have := hb1.size; omega) _).grown hgrow (by have := hb1.size; simp; omega) (fun k hk => (hown.lt k hk).1)).setCell (p := ⟨b, 1, none⟩) hB _
theorem others_below {e : TypeId} {b : Option Nat} {a w w' : World} (h : Lib.OthersKept e b a w) (hb : Below w.heap.size w w') : Lib.OthersKept e b a w' := fun k o hk hkb ho => heap_below (h k o hk hkb ho) hb
theorem builder_below {T e : TypeId} {B b : Nat} {bs : List Value} {w w' : World} (h : Lib.IsBuilderF T e B b bs w) (hb : Below w.heap.size w w') : Lib.IsBuilderF T e B b bs w' := by
  have key : ∀ p, Lib.BuilderAtF T e B b p bs w → Lib.BuilderAtF T e B b p bs w' := by
    rintro p ⟨hB, v, h1, h2, h3⟩
    refine ⟨hB, v, heap_below h1 hb, ⟨h2.1, ?_⟩, h3⟩
    rcases h2.2 with g | ⟨g, cap, cur, fz, e1, e2, e3, e4⟩
    · exact .inl g
    · exact .inr ⟨g, cap, cur, fz, e1, e2, heap_below e3 hb, e4⟩
  exact h.elim (fun x => .inl (key _ x)) (fun x => .inr (key _ x))
/-- a line is written: the closure of Encode -/
def Lined (B b : Nat) (bs r : List UInt8) (w : World) (e : Ending) (w' : World) : Prop :=
  e = .returned (.tuple #[]) ∧ Lib.IsBuilderF 127 5 B b (Lib.byteCells (bs ++ (r ++ [10]))) w' ∧ Below B w w' ∧ Lib.OthersKept 5 (some b) w w'
set_option maxHeartbeats 2000000 in
theorem line_any {w : World} {g n c b B : Nat} {xs : List (List UInt8)} {bs : List UInt8} (r : List UInt8) (h : StrsAt w g xs) (hn : xs.length = n) (hN : n ≤ 100) (hcap : n ≤ c) (hr : Lib.join xs [32] = r) (hlen : r.length ≤ 100000) (hB : Lib.IsBuilderF 127 5 B b (Lib.byteCells bs) w) (hbl : bs.length ≤ 100000000000000) (hBw : B ≤ w.heap.size) :
    Calls Tryz.prog 56 #[.slice (some ⟨g, 0, none⟩) n c, .pointer (some ⟨b, 0, none⟩)] w (Lined B b bs r w) := by
  have CJ := Lib.hid (join_on (⟨#[32]⟩ : ByteArray) r h hn hN hcap hr (by omega))
  have HB := Lib.hid hB
  have HL := Lib.hid hlen
  have HBL := Lib.hid hbl
  have HW := Lib.hid hBw
  clear h hn hN hcap hlen hr hB hbl hBw
  go_enter Tryz.func56, Tryz.ntmps56
  go_wp2_with fail
  refine CJ.out.mono ?_
  rintro e w1 ⟨rfl, b1⟩
  have B1 := Lib.hid (b1.mono HW.out)
  have K1 := Lib.hid (others_below (Lib.OthersKept.refl 5 (some b) w) b1)
  have CW := Lib.hid (writeString_any B b _ (bstr r) w1 (builder_below HB.out b1) (by rw [Lib.byteCells_length, bstr_size]; have := HL.out; have := HBL.out; omega) (Nat.le_trans HW.out B1.out.size))
  obtain ⟨s, hs⟩ : ∃ s, bstr r = s := ⟨_, rfl⟩
  rw [hs] at CW
  rw [hs]
  have HS := Lib.hid hs
  clear b1 CJ hs
  go_wp2_with fail
  refine CW.out.mono ?_
  rintro e w2 ⟨rfl, i2, b2, k2⟩
  have I2 := Lib.hid i2
  have B2 := Lib.hid (B1.out.trans b2)
  have K2 := Lib.hid (K1.out.trans k2)
  have CB := Lib.hid (writeByte_any B b _ 10 w2 I2.out (by rw [List.length_append, Lib.byteCells_length, Lib.strCells_length, ← HS.out, bstr_size]; have := HL.out; have := HBL.out; omega) (by have := B2.out.size; have := HW.out; omega))
  clear i2 b2 k2 CW
  go_wp2_with fail
  refine CB.out.mono ?_
  rintro e w3 ⟨rfl, i3, b3, k3⟩
  have I3 := Lib.hid i3
  have B3 := Lib.hid (B2.out.trans b3)
  have K3 := Lib.hid (K2.out.trans k3)
  clear i3 b3 k3 CB
  go_wp2_with fail
  go_end0
  refine ⟨rfl, ?_, B3.out, K3.out⟩
  have := I3.out
  rw [← HS.out, Lib.strCells_eq] at this
  have e : Lib.byteCells bs ++ Lib.byteCells (bstr r).data.toList ++ [Value.int .u8 10] = Lib.byteCells (bs ++ (r ++ [10])) := by
    rw [bstr_back, Lib.byteCells_append, Lib.byteCells_append, List.append_assoc]
    rfl
  rw [e] at this
  exact this
end Go.Proofs.YtpblfpnldbdncaaGreatDoor
