/- What the two functions Sum share: a hash as a value, the memory of a call. -/
import Derived.Test.YtkebipklcpplaaaDoorLength
import Derived.Test.YtkebipklcpplaaaDoorMix
import Derived.Test.YtkebipklcpplaaaDoorShaC
import Derived.Deep.RegionWith
import Derived.Deep.WholeRow
import Derived.Laws.CopyOwn
import Derived.IntWalk
namespace Go.Proofs.YtkebipklcpplaaaDoor
open Go.RowKit
set_option linter.unusedVariables false

theorem row8_set {w : World} {b : Nat} {t : TypeId} {f : Nat → Value} (h : w.rowIs b t 8 f) (x0 x1 x2 x3 x4 x5 x6 x7 : Value) :
    ((((((((w.setCell ⟨b, 0, none⟩ x0).setCell ⟨b, 1, none⟩ x1).setCell ⟨b, 2, none⟩ x2).setCell ⟨b, 3, none⟩ x3).setCell ⟨b, 4, none⟩ x4).setCell ⟨b, 5, none⟩ x5).setCell ⟨b, 6, none⟩ x6).setCell ⟨b, 7, none⟩ x7).rowIs b t 8 (fun i => #[x0, x1, x2, x3, x4, x5, x6, x7].getD i undef) := by
  refine ((((((((h.set 0 x0).set 1 x1).set 2 x2).set 3 x3).set 4 x4).set 5 x5).set 6 x6).set 7 x7).congr fun i hi => ?_
  match i, hi with
  | 0, _ => rfl
  | 1, _ => rfl
  | 2, _ => rfl
  | 3, _ => rfl
  | 4, _ => rfl
  | 5, _ => rfl
  | 6, _ => rfl
  | 7, _ => rfl
  | i + 8, hi => omega

/-- a hash, as a value -/
def hashArr (l : List UInt8) : Array Value := (l.map fun (b : UInt8) => Value.int .u8 (b.toNat : Int)).toArray

/-- the memory of a call of Sum: the result, the state -/
def SumMem (w wr : World) (st : Sha.St) : Prop :=
  wr.rowIs w.heap.size 24 32 (fun _ => .int .u8 0) ∧ wr.rowIs (w.heap.size + 1) 49 8 (fun i => .int .u32 ((Sha.stList st).getD i 0 : Nat)) ∧ Below w.heap.size w wr
theorem SumMem.drew {w wr : World} {st : Sha.St} (h : SumMem w wr st) : SumMem w wr.drew st := ⟨h.1, h.2.1, h.2.2.drew⟩
theorem SumMem.below {w wr w' : World} {st : Sha.St} (h : SumMem w wr st) (hb : Below wr.heap.size wr w') : SumMem w w' st :=
  ⟨h.1.of_block (hb.block _ h.1.lt), h.2.1.of_block (hb.block _ h.2.1.lt), h.2.2.trans (hb.mono (by have := h.1.lt; omega))⟩
theorem SumMem.store {w wr : World} {st : Sha.St} (h : SumMem w wr st) (m : Sha.St) :
    SumMem w ((((((((wr.setCell ⟨w.heap.size + 1, 0, none⟩ (.int .u32 (m.a : Int))).setCell ⟨w.heap.size + 1, 1, none⟩ (.int .u32 (m.b : Int))).setCell ⟨w.heap.size + 1, 2, none⟩ (.int .u32 (m.c : Int))).setCell ⟨w.heap.size + 1, 3, none⟩ (.int .u32 (m.d : Int))).setCell ⟨w.heap.size + 1, 4, none⟩ (.int .u32 (m.e : Int))).setCell ⟨w.heap.size + 1, 5, none⟩ (.int .u32 (m.f : Int))).setCell ⟨w.heap.size + 1, 6, none⟩ (.int .u32 (m.g : Int))).setCell ⟨w.heap.size + 1, 7, none⟩ (.int .u32 (m.h : Int))) m := by
  obtain ⟨h1, h2, h3⟩ := h
  refine ⟨?_, ?_, ?_⟩
  · exact (((((((h1.setOther (by simp) _).setOther (by simp) _).setOther (by simp) _).setOther (by simp) _).setOther (by simp) _).setOther (by simp) _).setOther (by simp) _).setOther (by simp) _
  · refine (row8_set h2 _ _ _ _ _ _ _ _).congr fun i hi => ?_
    match i, hi with
    | 0, _ => rfl
    | 1, _ => rfl
    | 2, _ => rfl
    | 3, _ => rfl
    | 4, _ => rfl
    | 5, _ => rfl
    | 6, _ => rfl
    | 7, _ => rfl
    | i + 8, hi => omega
  · exact (((((((h3.setCell (by simp) _).setCell (by simp) _).setCell (by simp) _).setCell (by simp) _).setCell (by simp) _).setCell (by simp) _).setCell (by simp) _).setCell (by simp) _
theorem SumMem.cells {w wr : World} {A B C D E F G H : Nat} (h : SumMem w wr ⟨A, B, C, D, E, F, G, H⟩) : wr.cell? ⟨w.heap.size + 1, 0, none⟩ = some (.int .u32 (A : Int)) ∧ wr.frozen? ⟨w.heap.size + 1, 0, none⟩ = false ∧ wr.cell? ⟨w.heap.size + 1, 1, none⟩ = some (.int .u32 (B : Int)) ∧ wr.frozen? ⟨w.heap.size + 1, 1, none⟩ = false ∧ wr.cell? ⟨w.heap.size + 1, 2, none⟩ = some (.int .u32 (C : Int)) ∧ wr.frozen? ⟨w.heap.size + 1, 2, none⟩ = false ∧ wr.cell? ⟨w.heap.size + 1, 3, none⟩ = some (.int .u32 (D : Int)) ∧ wr.frozen? ⟨w.heap.size + 1, 3, none⟩ = false ∧ wr.cell? ⟨w.heap.size + 1, 4, none⟩ = some (.int .u32 (E : Int)) ∧ wr.frozen? ⟨w.heap.size + 1, 4, none⟩ = false ∧ wr.cell? ⟨w.heap.size + 1, 5, none⟩ = some (.int .u32 (F : Int)) ∧ wr.frozen? ⟨w.heap.size + 1, 5, none⟩ = false ∧ wr.cell? ⟨w.heap.size + 1, 6, none⟩ = some (.int .u32 (G : Int)) ∧ wr.frozen? ⟨w.heap.size + 1, 6, none⟩ = false ∧ wr.cell? ⟨w.heap.size + 1, 7, none⟩ = some (.int .u32 (H : Int)) ∧ wr.frozen? ⟨w.heap.size + 1, 7, none⟩ = false :=
  ⟨h.2.1.cell (i := 0) (by omega), h.2.1.frozen 0, h.2.1.cell (i := 1) (by omega), h.2.1.frozen 1, h.2.1.cell (i := 2) (by omega), h.2.1.frozen 2, h.2.1.cell (i := 3) (by omega), h.2.1.frozen 3, h.2.1.cell (i := 4) (by omega), h.2.1.frozen 4, h.2.1.cell (i := 5) (by omega), h.2.1.frozen 5, h.2.1.cell (i := 6) (by omega), h.2.1.frozen 6, h.2.1.cell (i := 7) (by omega), h.2.1.frozen 7⟩
theorem hashArr_size (l : List UInt8) : (hashArr l).size = l.length := by simp [hashArr]
theorem hashArr_one (l : List UInt8) : (hashArr l).all (·.oneCell') = true := by simp [hashArr, Value.oneCell']
theorem hash_info (l : List UInt8) (h : l.length = 32) : (Tryd.prog.info? 24).map (·.size) = some (hashArr l).size := by
  rw [hashArr_size, h]; kernel_rfl
theorem hash_row {w : World} {b : Nat} {t : TypeId} (st : Sha.St) (h : w.rowIs b t 32 (fun i => .int .u8 (Sha.outAt st 32 i : Nat))) : w.heap[b]? = some (.cells (hashArr (Sha.out st)) t (0, 0)) := by
  obtain ⟨c, h1, h2, h3⟩ := h
  have e : c = hashArr (Sha.out st) := by
    apply Array.ext_getElem?
    intro i
    by_cases hi : i < 32
    · have h4 : c[i]? = some (.int .u8 (Sha.outAt st 32 i : Nat)) := h3 i hi
      rw [h4, hashArr, List.getElem?_toArray, List.getElem?_map, Sha.outAt_end st i hi, List.getD_eq_getElem?_getD, List.getElem?_eq_getElem (show i < (Sha.out st).length by rw [Sha.out_length]; exact hi)]
      rfl
    · rw [Array.getElem?_eq_none (by omega), Array.getElem?_eq_none (by rw [hashArr_size, Sha.out_length]; omega)]
  rw [h1, e]
theorem extract_block (t : ByteArray) (k : Nat) : (t.extract (64 * k) (64 * k + 64)).data.toList = (t.data.toList.drop (64 * k)).take 64 := by
  simp [ByteArray.data_extract, List.extract_eq_take_drop]
theorem stList_lt (s : Sha.St) (h : s.ok) (i : Nat) : (Sha.stList s).getD i 0 < 4294967296 := by
  obtain ⟨h0, h1, h2, h3, h4, h5, h6, h7⟩ := h
  match i with
  | 0 => exact h0
  | 1 => exact h1
  | 2 => exact h2
  | 3 => exact h3
  | 4 => exact h4
  | 5 => exact h5
  | 6 => exact h6
  | 7 => exact h7
  | i + 8 => simp [Sha.stList]
theorem sum_out (w wr : World) (st : Sha.St) (Q : World → Prop) (z32 : Array Value) (hM : SumMem w wr st) (hz : z32 = Array.replicate 32 (.int .u8 0))
    (k : ∀ W0 : World, SumMem w W0 st → W0.rowIs wr.heap.size 24 32 (fun i => .int .u8 (Sha.outAt st 0 i : Nat)) → Q W0) : Q (wr.alloc (.cells z32 24)) := by
  subst hz
  apply k
  · exact ⟨hM.1.alloc _, hM.2.1.alloc _, hM.2.2.alloc hM.2.2.size _⟩
  · have h := World.rowIs_alloc wr (Array.replicate 32 (.int .u8 0)) 24 (fun i => .int .u8 (Sha.outAt st 0 i : Nat)) (fun i hi => by
      rw [zeros_row 32 _ i (by simpa using hi)]; simp [Sha.outAt])
    simpa using h
/-- the two first blocks of Sum -/
theorem sum_start (w : World) (z32 : Array Value) (hz : z32 = Array.replicate 32 (.int .u8 0)) :
    SumMem w ((w.alloc (.cells z32 24)).alloc (.cells #[.int .u32 1779033703, .int .u32 3144134277, .int .u32 1013904242, .int .u32 2773480762, .int .u32 1359893119, .int .u32 2600822924, .int .u32 528734635, .int .u32 1541459225] 49)) Sha.iv := by
  subst hz
  refine ⟨?_, ?_, ((Below.refl _ _).alloc (Nat.le_refl _) _).alloc (by simp) _⟩
  · have h := World.rowIs_alloc w (Array.replicate 32 (.int .u8 0)) 24 (fun _ => .int .u8 0) (fun i hi => zeros_row 32 _ i (by simpa using hi))
    simp only [Array.size_replicate] at h
    exact h.alloc _
  · have h := World.rowIs_alloc (w.alloc (.cells (Array.replicate 32 (.int .u8 0)) 24)) #[.int .u32 1779033703, .int .u32 3144134277, .int .u32 1013904242, .int .u32 2773480762, .int .u32 1359893119, .int .u32 2600822924, .int .u32 528734635, .int .u32 1541459225] 49 (fun i => .int .u32 ((Sha.stList Sha.iv).getD i 0 : Nat)) (by
      intro i hi
      match i, hi with
      | 0, _ => rfl
      | 1, _ => rfl
      | 2, _ => rfl
      | 3, _ => rfl
      | 4, _ => rfl
      | 5, _ => rfl
      | 6, _ => rfl
      | 7, _ => rfl
      | i + 8, hi => simp at hi; omega)
    simpa using h

end Go.Proofs.YtkebipklcpplaaaDoor
