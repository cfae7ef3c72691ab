/- What the two functions Sum share: a hash as a value, the memory of a call. The contract of sortesref03.block. -/
import Derived.Test.YtpblfpnldbdncaaGreatDoorG03
import Derived.Test.YtpblfpnldbdncaaGreatDoorG04
import Derived.Deep.RegionWith
import Derived.Deep.WholeRow
import Derived.Laws.CopyOwn
import Derived.IntWalk
import Derived.Deep.RegionHeld3
namespace Go.Proofs.YtpblfpnldbdncaaGreatDoor
open Go.RowKit
set_option linter.unusedVariables false

theorem row8_set {w : World} {b : Nat} {t : TypeId} {f : Nat → Value} (h : w.rowIs b t 8 f) (x0 x1 x2 x3 x4 x5 x6 x7 : Value) :
    ((((((((w.setCell ⟨b, 0, none⟩ x0).setCell ⟨b, 1, none⟩ x1).setCell ⟨b, 2, none⟩ x2).setCell ⟨b, 3, none⟩ x3).setCell ⟨b, 4, none⟩ x4).setCell ⟨b, 5, none⟩ x5).setCell ⟨b, 6, none⟩ x6).setCell ⟨b, 7, none⟩ x7).rowIs b t 8 (fun i => #[x0, x1, x2, x3, x4, x5, x6, x7].getD i undef) := by
  refine ((((((((h.set 0 x0).set 1 x1).set 2 x2).set 3 x3).set 4 x4).set 5 x5).set 6 x6).set 7 x7).congr fun i hi => ?_
  match i, hi with
  | 0, _ => rfl
  | 1, _ => rfl
  | 2, _ => rfl
  | 3, _ => rfl
  | 4, _ => rfl
  | 5, _ => rfl
  | 6, _ => rfl
  | 7, _ => rfl
  | i + 8, hi => omega

/-- a hash, as a value -/
def hashArr (l : List UInt8) : Array Value := (l.map fun (b : UInt8) => Value.int .u8 (b.toNat : Int)).toArray

/-- the memory of a call of Sum: the result, the state -/
def SumMem (w wr : World) (st : Sha.St) : Prop :=
  wr.rowIs w.heap.size 27 32 (fun _ => .int .u8 0) ∧ wr.rowIs (w.heap.size + 1) 122 8 (fun i => .int .u32 ((Sha.stList st).getD i 0 : Nat)) ∧ Below w.heap.size w wr
theorem SumMem.drew {w wr : World} {st : Sha.St} (h : SumMem w wr st) : SumMem w wr.drew st := ⟨h.1, h.2.1, h.2.2.drew⟩
theorem SumMem.below {w wr w' : World} {st : Sha.St} (h : SumMem w wr st) (hb : Below wr.heap.size wr w') : SumMem w w' st :=
  ⟨h.1.of_block (hb.block _ h.1.lt), h.2.1.of_block (hb.block _ h.2.1.lt), h.2.2.trans (hb.mono (by have := h.1.lt; omega))⟩
theorem SumMem.store {w wr : World} {st : Sha.St} (h : SumMem w wr st) (m : Sha.St) :
    SumMem w ((((((((wr.setCell ⟨w.heap.size + 1, 0, none⟩ (.int .u32 (m.a : Int))).setCell ⟨w.heap.size + 1, 1, none⟩ (.int .u32 (m.b : Int))).setCell ⟨w.heap.size + 1, 2, none⟩ (.int .u32 (m.c : Int))).setCell ⟨w.heap.size + 1, 3, none⟩ (.int .u32 (m.d : Int))).setCell ⟨w.heap.size + 1, 4, none⟩ (.int .u32 (m.e : Int))).setCell ⟨w.heap.size + 1, 5, none⟩ (.int .u32 (m.f : Int))).setCell ⟨w.heap.size + 1, 6, none⟩ (.int .u32 (m.g : Int))).setCell ⟨w.heap.size + 1, 7, none⟩ (.int .u32 (m.h : Int))) m := by
  obtain ⟨h1, h2, h3⟩ := h
  refine ⟨?_, ?_, ?_⟩
  · exact (((((((h1.setOther (by simp) _).setOther (by simp) _).setOther (by simp) _).setOther (by simp) _).setOther (by simp) _).setOther (by simp) _).setOther (by simp) _).setOther (by simp) _
  · refine (row8_set h2 _ _ _ _ _ _ _ _).congr fun i hi => ?_
    match i, hi with
    | 0, _ => rfl
    | 1, _ => rfl
    | 2, _ => rfl
    | 3, _ => rfl
    | 4, _ => rfl
    | 5, _ => rfl
    | 6, _ => rfl
    | 7, _ => rfl
    | i + 8, hi => omega
  · exact (((((((h3.setCell (by simp) _).setCell (by simp) _).setCell (by simp) _).setCell (by simp) _).setCell (by simp) _).setCell (by simp) _).setCell (by simp) _).setCell (by simp) _
theorem SumMem.cells {w wr : World} {A B C D E F G H : Nat} (h : SumMem w wr ⟨A, B, C, D, E, F, G, H⟩) : wr.cell? ⟨w.heap.size + 1, 0, none⟩ = some (.int .u32 (A : Int)) ∧ wr.frozen? ⟨w.heap.size + 1, 0, none⟩ = false ∧ wr.cell? ⟨w.heap.size + 1, 1, none⟩ = some (.int .u32 (B : Int)) ∧ wr.frozen? ⟨w.heap.size + 1, 1, none⟩ = false ∧ wr.cell? ⟨w.heap.size + 1, 2, none⟩ = some (.int .u32 (C : Int)) ∧ wr.frozen? ⟨w.heap.size + 1, 2, none⟩ = false ∧ wr.cell? ⟨w.heap.size + 1, 3, none⟩ = some (.int .u32 (D : Int)) ∧ wr.frozen? ⟨w.heap.size + 1, 3, none⟩ = false ∧ wr.cell? ⟨w.heap.size + 1, 4, none⟩ = some (.int .u32 (E : Int)) ∧ wr.frozen? ⟨w.heap.size + 1, 4, none⟩ = false ∧ wr.cell? ⟨w.heap.size + 1, 5, none⟩ = some (.int .u32 (F : Int)) ∧ wr.frozen? ⟨w.heap.size + 1, 5, none⟩ = false ∧ wr.cell? ⟨w.heap.size + 1, 6, none⟩ = some (.int .u32 (G : Int)) ∧ wr.frozen? ⟨w.heap.size + 1, 6, none⟩ = false ∧ wr.cell? ⟨w.heap.size + 1, 7, none⟩ = some (.int .u32 (H : Int)) ∧ wr.frozen? ⟨w.heap.size + 1, 7, none⟩ = false :=
  ⟨h.2.1.cell (i := 0) (by omega), h.2.1.frozen 0, h.2.1.cell (i := 1) (by omega), h.2.1.frozen 1, h.2.1.cell (i := 2) (by omega), h.2.1.frozen 2, h.2.1.cell (i := 3) (by omega), h.2.1.frozen 3, h.2.1.cell (i := 4) (by omega), h.2.1.frozen 4, h.2.1.cell (i := 5) (by omega), h.2.1.frozen 5, h.2.1.cell (i := 6) (by omega), h.2.1.frozen 6, h.2.1.cell (i := 7) (by omega), h.2.1.frozen 7⟩
theorem hashArr_size (l : List UInt8) : (hashArr l).size = l.length := by simp [hashArr]
theorem hashArr_one (l : List UInt8) : (hashArr l).all (·.oneCell') = true := by simp [hashArr, Value.oneCell']
theorem hash_info (l : List UInt8) (h : l.length = 32) : (Tryz.prog.info? 27).map (·.size) = some (hashArr l).size := by
  rw [hashArr_size, h]; kernel_rfl
theorem hash_row {w : World} {b : Nat} {t : TypeId} (st : Sha.St) (h : w.rowIs b t 32 (fun i => .int .u8 (Sha.outAt st 32 i : Nat))) : w.heap[b]? = some (.cells (hashArr (Sha.out st)) t (0, 0)) := by
  obtain ⟨c, h1, h2, h3⟩ := h
  have e : c = hashArr (Sha.out st) := by
    apply Array.ext_getElem?
    intro i
    by_cases hi : i < 32
    · have h4 : c[i]? = some (.int .u8 (Sha.outAt st 32 i : Nat)) := h3 i hi
      rw [h4, hashArr, List.getElem?_toArray, List.getElem?_map, Sha.outAt_end st i hi, List.getD_eq_getElem?_getD, List.getElem?_eq_getElem (show i < (Sha.out st).length by rw [Sha.out_length]; exact hi)]
      rfl
    · rw [Array.getElem?_eq_none (by omega), Array.getElem?_eq_none (by rw [hashArr_size, Sha.out_length]; omega)]
  rw [h1, e]
theorem extract_block (t : ByteArray) (k : Nat) : (t.extract (64 * k) (64 * k + 64)).data.toList = (t.data.toList.drop (64 * k)).take 64 := by
  simp [ByteArray.data_extract, List.extract_eq_take_drop]
theorem stList_lt (s : Sha.St) (h : s.ok) (i : Nat) : (Sha.stList s).getD i 0 < 4294967296 := by
  obtain ⟨h0, h1, h2, h3, h4, h5, h6, h7⟩ := h
  match i with
  | 0 => exact h0
  | 1 => exact h1
  | 2 => exact h2
  | 3 => exact h3
  | 4 => exact h4
  | 5 => exact h5
  | 6 => exact h6
  | 7 => exact h7
  | i + 8 => simp [Sha.stList]
theorem sum_out (w wr : World) (st : Sha.St) (Q : World → Prop) (z32 : Array Value) (hM : SumMem w wr st) (hz : z32 = Array.replicate 32 (.int .u8 0))
    (k : ∀ W0 : World, SumMem w W0 st → W0.rowIs wr.heap.size 27 32 (fun i => .int .u8 (Sha.outAt st 0 i : Nat)) → Q W0) : Q (wr.alloc (.cells z32 27)) := by
  subst hz
  apply k
  · exact ⟨hM.1.alloc _, hM.2.1.alloc _, hM.2.2.alloc hM.2.2.size _⟩
  · have h := World.rowIs_alloc wr (Array.replicate 32 (.int .u8 0)) 27 (fun i => .int .u8 (Sha.outAt st 0 i : Nat)) (fun i hi => by
      rw [zeros_row 32 _ i (by simpa using hi)]; simp [Sha.outAt])
    simpa using h
/-- the two first blocks of Sum -/
theorem sum_start (w : World) (z32 : Array Value) (hz : z32 = Array.replicate 32 (.int .u8 0)) :
    SumMem w ((w.alloc (.cells z32 27)).alloc (.cells #[.int .u32 1779033703, .int .u32 3144134277, .int .u32 1013904242, .int .u32 2773480762, .int .u32 1359893119, .int .u32 2600822924, .int .u32 528734635, .int .u32 1541459225] 122)) Sha.iv := by
  subst hz
  refine ⟨?_, ?_, ((Below.refl _ _).alloc (Nat.le_refl _) _).alloc (by simp) _⟩
  · have h := World.rowIs_alloc w (Array.replicate 32 (.int .u8 0)) 27 (fun _ => .int .u8 0) (fun i hi => zeros_row 32 _ i (by simpa using hi))
    simp only [Array.size_replicate] at h
    exact h.alloc _
  · have h := World.rowIs_alloc (w.alloc (.cells (Array.replicate 32 (.int .u8 0)) 27)) #[.int .u32 1779033703, .int .u32 3144134277, .int .u32 1013904242, .int .u32 2773480762, .int .u32 1359893119, .int .u32 2600822924, .int .u32 528734635, .int .u32 1541459225] 122 (fun i => .int .u32 ((Sha.stList Sha.iv).getD i 0 : Nat)) (by
      intro i hi
      match i, hi with
      | 0, _ => rfl
      | 1, _ => rfl
      | 2, _ => rfl
      | 3, _ => rfl
      | 4, _ => rfl
      | 5, _ => rfl
      | 6, _ => rfl
      | 7, _ => rfl
      | i + 8, hi => simp at hi; omega)
    simpa using h

end Go.Proofs.YtpblfpnldbdncaaGreatDoor
namespace Go.Proofs.YtpblfpnldbdncaaGreatDoor
open Go.RowKit
set_option linter.unusedVariables false

theorem two_rows (w : World) (a b c d e f g h : Value) (z8 : Array Value) (t : TypeId) (h8 : z8 = Array.replicate 8 (.int .u32 0)) :
    ((w.alloc (.cells #[a, b, c, d, e, f, g, h] t)).alloc (.cells z8 t)).rowIs w.heap.size t 8 (fun i => #[a, b, c, d, e, f, g, h].getD i undef) ∧ ((w.alloc (.cells #[a, b, c, d, e, f, g, h] t)).alloc (.cells z8 t)).rowIs (w.heap.size + 1) t 8 (fun _ => .int .u32 0) := by
  subst h8
  constructor
  · refine World.rowIs.alloc (World.rowIs_alloc w #[a, b, c, d, e, f, g, h] t _ ?_) _
    intro i hi
    match i, hi with
    | 0, _ => rfl
    | 1, _ => rfl
    | 2, _ => rfl
    | 3, _ => rfl
    | 4, _ => rfl
    | 5, _ => rfl
    | 6, _ => rfl
    | 7, _ => rfl
    | i + 8, hi => simp at hi; omega
  · have h := World.rowIs_alloc (w.alloc (.cells #[a, b, c, d, e, f, g, h] t)) (Array.replicate 8 (.int .u32 0)) t (fun _ => .int .u32 0) (fun i hi => zeros_row 8 _ i (by simpa using hi))
    simpa using h
/-- the memory of a call of block: the state, the result, the constants, the schedule -/
def BlkMem (w wr : World) (K N : Nat) (st : Array Value) (f : Nat → Nat) : Prop :=
  wr.rowIs w.heap.size 122 8 (fun i => st.getD i undef) ∧ wr.rowIs (w.heap.size + 1) 122 8 (fun _ => .int .u32 0) ∧ wr.rowIs K 155 64 (fun i => .int .u32 (Sha.ks.getD i 0 : Nat)) ∧ wr.rowIs (K + 1) 155 64 (fun j => .int .u32 (f j : Nat)) ∧ Below w.heap.size w wr ∧ w.heap.size + 2 ≤ K ∧ wr.heap.size = N
theorem BlkMem.drewN {w wr : World} {K N : Nat} {st : Array Value} {f : Nat → Nat} (h : BlkMem w wr K N st f) (n : Nat) : BlkMem w (wr.drewN n) K N st f := ⟨h.1, h.2.1, h.2.2.1, h.2.2.2.1, below_drewN h.2.2.2.2.1 n, h.2.2.2.2.2⟩
theorem BlkMem.drew {w wr : World} {K N : Nat} {st : Array Value} {f : Nat → Nat} (h : BlkMem w wr K N st f) : BlkMem w wr.drew K N st f := h.drewN 1
theorem BlkMem.congr {w wr : World} {K N : Nat} {st : Array Value} {f g : Nat → Nat} (h : BlkMem w wr K N st f) (e : ∀ j, j < 64 → f j = g j) : BlkMem w wr K N st g := ⟨h.1, h.2.1, h.2.2.1, h.2.2.2.1.congr (fun j hj => by rw [e j hj]), h.2.2.2.2⟩
theorem BlkMem.store {w wr : World} {K N : Nat} {st : Array Value} {f : Nat → Nat} (h : BlkMem w wr K N st f) (j v : Nat) (x : Int) (hx : x = v) : BlkMem w (wr.setCell ⟨K + 1, j, none⟩ (.int .u32 x)) K N st (fun i => if i = j then v else f i) := by
  subst hx
  obtain ⟨h1, h2, h3, h4, h5, h6, h7⟩ := h
  refine ⟨h1.setOther (by simp; omega) _, h2.setOther (by simp; omega) _, h3.setOther (by simp) _, ?_, h5.setCell (by simp; omega) _, h6, by simpa [World.setCell] using h7⟩
  refine (h4.set j _).congr fun i _ => ?_
  by_cases e : i = j <;> simp [e]
theorem ksArr_at (i : Nat) (h : i < 64) : ksArr[i]? = some (.int .u32 (Sha.ks.getD i 0 : Nat)) := by
  have hl : i < Sha.ks.length := by simpa [Sha.ks] using h
  simp only [ksArr, List.getElem?_toArray, List.getElem?_map, List.getD_eq_getElem?_getD, List.getElem?_eq_getElem hl]
  rfl
theorem ksArr_size : ksArr.size = 64 := by simp [ksArr, Sha.ks]
theorem block_world (w w0 w1 : World) (Q : World → Prop) (st zA zB : Array Value) (hA : zA.size = 64) (hB : zB = Array.replicate 64 (.int .u32 0)) (h8 : w0.rowIs w.heap.size 122 8 (fun i => st.getD i undef)) (h8' : w0.rowIs (w.heap.size + 1) 122 8 (fun _ => .int .u32 0))
    (hb0 : Below w.heap.size w w0) (hb : Below w0.heap.size w0 w1)
    (k : ∀ W0 : World, BlkMem w W0 w1.heap.size (w1.heap.size + 1 + 1) st (fun _ => 0) → Q W0) :
    Q (((w1.alloc (.cells zA 155)).setRow w1.heap.size ksArr).alloc (.cells zB 155)) := by
  subst hB
  have l1 := h8.lt
  have l2 := h8'.lt
  have l3 := hb.size
  rw [World.setRow_alloc_new]
  apply k
  · refine ⟨((h8.of_block (hb.block _ l1)).alloc _).alloc _, ((h8'.of_block (hb.block _ l2)).alloc _).alloc _, ?_, ?_, (((hb0.trans (hb.mono (by omega))).alloc (by have := hb0.size; omega) _).alloc (by have := hb0.size; simp; omega) _), by omega, by simp⟩
    · have h := World.rowIs_alloc w1 ksArr 155 (fun i => .int .u32 (Sha.ks.getD i 0 : Nat)) (fun i hi => ksArr_at i (by rw [ksArr_size] at hi; exact hi))
      rw [ksArr_size] at h
      exact h.alloc _
    · have h := World.rowIs_alloc (w1.alloc (.cells ksArr 155)) (Array.replicate 64 (.int .u32 0)) 155 (fun _ => .int .u32 ((0 : Nat) : Int)) (fun i hi => zeros_row 64 _ i (by simpa using hi))
      simpa using h

theorem BlkMem.other {w wr : World} {K N : Nat} {st : Array Value} {f : Nat → Nat} (h : BlkMem w wr K N st f) (j : Nat) (v : Value) : BlkMem w (wr.setCell ⟨K + 1 + 1, j, none⟩ v) K N st f := by
  obtain ⟨h1, h2, h3, h4, h5, h6, h7⟩ := h
  exact ⟨h1.setOther (by simp; omega) _, h2.setOther (by simp; omega) _, h3.setOther (by simp; omega) _, h4.setOther (by simp) _, h5.setCell (by simp; omega) _, h6, by simpa [World.setCell] using h7⟩
theorem block_v (w wr : World) (K : Nat) (st : Array Value) (a b c d e f g h : Value) {F : Nat → Nat} (Q : World → Prop) (hM : BlkMem w wr K (K + 1 + 1) st F)
    (k : ∀ W0 : World, W0.rowIs (K + 1 + 1) 122 8 (fun i => #[a, b, c, d, e, f, g, h].getD i undef) → BlkMem w W0 K (K + 1 + 1 + 1) st F → Q W0) : Q (wr.alloc (.cells #[a, b, c, d, e, f, g, h] 122)) := by
  obtain ⟨h1, h2, h3, h4, h5, h6, h7⟩ := hM
  apply k
  · have := World.rowIs_alloc wr #[a, b, c, d, e, f, g, h] 122 (fun i => #[a, b, c, d, e, f, g, h].getD i undef) (by
      intro i hi
      match i, hi with
      | 0, _ => rfl
      | 1, _ => rfl
      | 2, _ => rfl
      | 3, _ => rfl
      | 4, _ => rfl
      | 5, _ => rfl
      | 6, _ => rfl
      | 7, _ => rfl
      | i + 8, hi => simp at hi; omega)
    rw [h7] at this
    exact this
  · exact ⟨h1.alloc _, h2.alloc _, h3.alloc _, h4.alloc _, h5.alloc (by have := h5.size; omega) _, h6, by simp [h7]⟩

set_option maxHeartbeats 4000000 in
set_option maxRecDepth 100000 in
theorem block_any (a b c d e f g h : Nat) (s : ByteArray) (w : World) (hs : s.size = 64)
    (ha : a < 4294967296) (hb : b < 4294967296) (hc : c < 4294967296) (hd : d < 4294967296) (he : e < 4294967296) (hf : f < 4294967296) (hg : g < 4294967296) (hh : h < 4294967296) :
    Calls Tryz.prog 55 #[.agg #[.int .u32 a, .int .u32 b, .int .u32 c, .int .u32 d, .int .u32 e, .int .u32 f, .int .u32 g, .int .u32 h], .string s] w fun e' w' => e' = .returned (stVal (Sha.mix ⟨a, b, c, d, e, f, g, h⟩ s.data.toList)) ∧ Below w.heap.size w w' := by
  have hs1 : 64 ≤ s.size := by omega
  have hs2 : s.size ≤ 64 := by omega
  clear hs
  go_enter Tryz.func55, Tryz.ntmps55
  go_wp2_with fail
  refine (rounds_any _).mono ?_
  rintro e' w1 ⟨rfl, hb1⟩
  obtain ⟨r8, r8'⟩ := two_rows w (.int .u32 a) (.int .u32 b) (.int .u32 c) (.int .u32 d) (.int .u32 e) (.int .u32 f) (.int .u32 g) (.int .u32 h) #[.int .u32 0, .int .u32 0, .int .u32 0, .int .u32 0, .int .u32 0, .int .u32 0, .int .u32 0, .int .u32 0] 122 rfl
  have hb0 : Below w.heap.size w ((w.alloc (.cells #[.int .u32 a, .int .u32 b, .int .u32 c, .int .u32 d, .int .u32 e, .int .u32 f, .int .u32 g, .int .u32 h] 122)).alloc (.cells #[.int .u32 0, .int .u32 0, .int .u32 0, .int .u32 0, .int .u32 0, .int .u32 0, .int .u32 0, .int .u32 0] 122)) := ((Below.refl _ _).alloc (Nat.le_refl _) _).alloc (by simp) _
  generalize (w.alloc (.cells #[.int .u32 a, .int .u32 b, .int .u32 c, .int .u32 d, .int .u32 e, .int .u32 f, .int .u32 g, .int .u32 h] 122)).alloc (.cells #[.int .u32 0, .int .u32 0, .int .u32 0, .int .u32 0, .int .u32 0, .int .u32 0, .int .u32 0, .int .u32 0] 122) = w0 at *
  generalize hst : #[Value.int .u32 a, .int .u32 b, .int .u32 c, .int .u32 d, .int .u32 e, .int .u32 f, .int .u32 g, .int .u32 h] = st at *
  have HST := Lib.hid hst
  clear hst
  have R8 := Lib.hid r8
  have R8' := Lib.hid r8'
  clear r8 r8'
  go_wp2_with (refine wpList_store_row rfl 155 (.tmp 5) (.tmp 17) rfl w1.heap.size ksArr rfl rfl 155 _ (heap_alloc_new _ _) (by kernel_rfl) rfl (by kernel_rfl) ?_)
  refine block_world w w0 w1 (Code.wp _ _ _ _) st _ _ rfl rfl R8.out R8'.out hb0 hb1 ?_
  intro W0 hM0
  obtain ⟨K, hK⟩ : ∃ K, w1.heap.size = K := ⟨_, rfl⟩
  rw [hK] at hM0 ⊢
  clear hK R8 R8' hb0 hb1
  go_loopw [7, 8, 9] (fun i _ _ wr => ∃ k : Nat, k ≤ 64 ∧ i = .int .i64 k ∧ BlkMem w wr K (K + 1 + 1) st (Sha.upTo s.data.toList k)) (fun i _ _ _ => 64 - (intOf i).toNat)
  case atStart => exact ⟨0, by omega, rfl, hM0.congr fun j _ => by simp [Sha.upTo]⟩
  case round =>
    obtain ⟨k, hk, rfl, hM⟩ := hrel
    by_cases hlt : k < 64
    · by_cases h16 : k < 16
      · have c0 := hM.2.2.2.1.cell (i := k) (by omega)
        have fr := hM.2.2.2.1.frozen k
        have i0 : 4 * (k : Int) < (s.size : Int) := by omega
        have i1 : 4 * (k : Int) + 1 < (s.size : Int) := by omega
        have i2 : 4 * (k : Int) + 2 < (s.size : Int) := by omega
        have i3 : 4 * (k : Int) + 3 < (s.size : Int) := by omega
        have n0 : 4 * k < s.size := by omega
        have n1 : 4 * k + 1 < s.size := by omega
        have n2 : 4 * k + 2 < s.size := by omega
        have n3 : 4 * k + 3 < s.size := by omega
        have p0 : 0 ≤ 4 * (k : Int) := by omega
        have p1 : 0 ≤ 4 * (k : Int) + 1 := by omega
        have p2 : 0 ≤ 4 * (k : Int) + 2 := by omega
        have p3 : 0 ≤ 4 * (k : Int) + 3 := by omega
        have t0 : (4 * (k : Int)).toNat = 4 * k := by omega
        have t1 : (4 * (k : Int) + 1).toNat = 4 * k + 1 := by omega
        have t2 : (4 * (k : Int) + 2).toNat = 4 * k + 2 := by omega
        have t3 : (4 * (k : Int) + 3).toNat = 4 * k + 3 := by omega
        go_wp2_with fail
        go_region
        go_wp2_with fail
        go_roundw
        case rel => exact ⟨k + 1, by omega, by go_num, ((hM.store k _ _ (Sha.word_walk s _ _ _ _ n0 n1 n2 n3)).congr fun j _ => Sha.upTo_word _ k h16 j).drew⟩
        case measure => simp [intOf]; omega
      · have h16' : 16 ≤ k := by omega
        obtain ⟨x15, ex15⟩ : ∃ v, Sha.upTo s.data.toList k (k - 15) = v := ⟨_, rfl⟩
        have cx15 : wr.cell? ⟨K + 1, k - 15, none⟩ = some (.int .u32 (x15 : Int)) := by rw [← ex15]; exact hM.2.2.2.1.cell (i := k - 15) (by omega)
        have lx15 : x15 < 4294967296 := by rw [← ex15]; exact Sha.upTo_lt _ _ _
        have EX15 := Lib.hid ex15
        clear ex15
        obtain ⟨x2, ex2⟩ : ∃ v, Sha.upTo s.data.toList k (k - 2) = v := ⟨_, rfl⟩
        have cx2 : wr.cell? ⟨K + 1, k - 2, none⟩ = some (.int .u32 (x2 : Int)) := by rw [← ex2]; exact hM.2.2.2.1.cell (i := k - 2) (by omega)
        have lx2 : x2 < 4294967296 := by rw [← ex2]; exact Sha.upTo_lt _ _ _
        have EX2 := Lib.hid ex2
        clear ex2
        obtain ⟨x16, ex16⟩ : ∃ v, Sha.upTo s.data.toList k (k - 16) = v := ⟨_, rfl⟩
        have cx16 : wr.cell? ⟨K + 1, k - 16, none⟩ = some (.int .u32 (x16 : Int)) := by rw [← ex16]; exact hM.2.2.2.1.cell (i := k - 16) (by omega)
        have lx16 : x16 < 4294967296 := by rw [← ex16]; exact Sha.upTo_lt _ _ _
        have EX16 := Lib.hid ex16
        clear ex16
        obtain ⟨x7, ex7⟩ : ∃ v, Sha.upTo s.data.toList k (k - 7) = v := ⟨_, rfl⟩
        have cx7 : wr.cell? ⟨K + 1, k - 7, none⟩ = some (.int .u32 (x7 : Int)) := by rw [← ex7]; exact hM.2.2.2.1.cell (i := k - 7) (by omega)
        have lx7 : x7 < 4294967296 := by rw [← ex7]; exact Sha.upTo_lt _ _ _
        have EX7 := Lib.hid ex7
        clear ex7
        have c0 := hM.2.2.2.1.cell (i := k) (by omega)
        have fr := hM.2.2.2.1.frozen k
        have d1 : decide ((k : Int) < 64) = true := by simp; omega
        have d2 : decide ((k : Int) < 16) = false := by simp; omega
        have q1 : 0 ≤ (k : Int) - 16 := by omega
        have q2 : (k : Int) - 16 < 64 := by omega
        have q3 : 0 ≤ (k : Int) - 7 := by omega
        have q4 : (k : Int) - 7 < 64 := by omega
        have q5 : (k : Int) < 64 := by omega
        have e1 : IntKind.i64.wrap ((k : Int) - 16) = (k : Int) - 16 := IntWalk.i64_in _ (by omega)
        have e2 : IntKind.i64.wrap ((k : Int) - 7) = (k : Int) - 7 := IntWalk.i64_in _ (by omega)
        have e3 : ((k : Int) - 16).toNat = k - 16 := by omega
        have e4 : ((k : Int) - 7).toNat = k - 7 := by omega
        have q6 : 16 ≤ (k : Int) := by omega
        have q7 : 7 ≤ (k : Int) := by omega
        have q8 : (k : Int) < 64 + 16 := by omega
        have q9 : (k : Int) < 64 + 7 := by omega
        have v1 : ¬ k - 16 = k := by omega
        have v2 : ¬ k = k - 16 := by omega
        have v3 : ¬ k - 7 = k := by omega
        have v4 : ¬ k = k - 7 := by omega
        clear hlt h16
        go_wp2_with fail
        go_region_held3 (fun w' => w'.cell? ⟨K + 1, k - 16, none⟩ = some (.int .u32 (x16 : Int)) ∧ w'.cell? ⟨K + 1, k - 7, none⟩ = some (.int .u32 (x7 : Int))) (first | exact ⟨cx16, cx7⟩ | exact ⟨(World.cell?_setCell_other _ _ _ _ (by simp)).trans cx16, (World.cell?_setCell_other _ _ _ _ (by simp)).trans cx7⟩)
          (first | (go_at_call 87; (with_reducible refine (rot_int x15 _ _ lx15 (by decide) (by decide)).mono ?_); rintro e' w' ⟨rfl, m, rfl⟩) | (go_at_call 87; (with_reducible refine (rot_int x2 _ _ lx2 (by decide) (by decide)).mono ?_); rintro e' w' ⟨rfl, m, rfl⟩))
        go_wp2_with fail
        go_roundw
        case rel =>
          refine ⟨k + 1, by omega, by go_num, ((hM.drewN _).store k _ _ (Sha.more_wrap x16 x15 x7 x2 lx15 lx2)).congr fun j _ => ?_⟩
          rw [← EX16.out, ← EX15.out, ← EX7.out, ← EX2.out]
          exact Sha.upTo_more' _ k h16' (by omega) j
        case measure => simp [intOf]; omega
    · have hdk : decide ((k : Int) < 64) = false := by simp; omega
      have hM1 : BlkMem w wr K (K + 1 + 1) st (fun j => (Sha.sched s.data.toList 48).getD j 0) := by
        obtain rfl : k = 64 := by omega
        exact hM.congr fun j hj => by simp [Sha.upTo, hj]
      clear hM hM0 hlt hk
      have s0 : wr.cell? ⟨w.heap.size, 0, none⟩ = some (.int .u32 (a : Int)) := by have := hM1.1.cell (i := 0) (by omega); rw [← HST.out] at this; exact this
      have s1 : wr.cell? ⟨w.heap.size, 1, none⟩ = some (.int .u32 (b : Int)) := by have := hM1.1.cell (i := 1) (by omega); rw [← HST.out] at this; exact this
      have s2 : wr.cell? ⟨w.heap.size, 2, none⟩ = some (.int .u32 (c : Int)) := by have := hM1.1.cell (i := 2) (by omega); rw [← HST.out] at this; exact this
      have s3 : wr.cell? ⟨w.heap.size, 3, none⟩ = some (.int .u32 (d : Int)) := by have := hM1.1.cell (i := 3) (by omega); rw [← HST.out] at this; exact this
      have s4 : wr.cell? ⟨w.heap.size, 4, none⟩ = some (.int .u32 (e : Int)) := by have := hM1.1.cell (i := 4) (by omega); rw [← HST.out] at this; exact this
      have s5 : wr.cell? ⟨w.heap.size, 5, none⟩ = some (.int .u32 (f : Int)) := by have := hM1.1.cell (i := 5) (by omega); rw [← HST.out] at this; exact this
      have s6 : wr.cell? ⟨w.heap.size, 6, none⟩ = some (.int .u32 (g : Int)) := by have := hM1.1.cell (i := 6) (by omega); rw [← HST.out] at this; exact this
      have s7 : wr.cell? ⟨w.heap.size, 7, none⟩ = some (.int .u32 (h : Int)) := by have := hM1.1.cell (i := 7) (by omega); rw [← HST.out] at this; exact this
      have hsize : wr.heap.size = K + 1 + 1 := hM1.2.2.2.2.2.2
      go_wp2_with fail
      refine block_v w wr K _ _ _ _ _ _ _ _ _ (Code.wp _ _ _ _) hM1 ?_
      intro W2 hV0 hM2
      clear s0 s1 s2 s3 s4 s5 s6 s7 hsize hM1
      go_loopw [11, 12, 13, 14, 15] (fun i _ _ _ _ wr => ∃ k A B C D E F G H : Nat, k ≤ 64 ∧ i = .int .i64 k ∧ A < 4294967296 ∧ B < 4294967296 ∧ C < 4294967296 ∧ D < 4294967296 ∧ E < 4294967296 ∧ F < 4294967296 ∧ G < 4294967296 ∧ H < 4294967296 ∧ Hid ((⟨A, B, C, D, E, F, G, H⟩ : Sha.St) = Sha.rounds (Sha.sched s.data.toList 48) ⟨a, b, c, d, e, f, g, h⟩ k) ∧ wr.rowIs (K + 1 + 1) 122 8 (fun i => #[Value.int .u32 (A : Int), .int .u32 (B : Int), .int .u32 (C : Int), .int .u32 (D : Int), .int .u32 (E : Int), .int .u32 (F : Int), .int .u32 (G : Int), .int .u32 (H : Int)].getD i undef) ∧ BlkMem w wr K (K + 1 + 1 + 1) st (fun j => (Sha.sched s.data.toList 48).getD j 0)) (fun i _ _ _ _ _ => 64 - (intOf i).toNat)
      case atStart => exact ⟨0, a, b, c, d, e, f, g, h, by omega, rfl, ha, hb, hc, hd, he, hf, hg, hh, rfl, hV0, hM2⟩
      case round =>
        obtain ⟨k, A, B, C, D, E, F, G, H, hk, rfl, lA, lB, lC, lD, lE, lF, lG, lH, HR, hV, hM⟩ := hrel
        by_cases hlt : k < 64
        · obtain ⟨wk, ewk⟩ : ∃ v, (Sha.sched s.data.toList 48).getD k 0 = v := ⟨_, rfl⟩
          have cwk : wr.cell? ⟨K + 1, k, none⟩ = some (.int .u32 (wk : Int)) := by rw [← ewk]; exact hM.2.2.2.1.cell (i := k) (by omega)
          have lwk : wk < 4294967296 := by rw [← ewk]; exact Sha.sched_lt _ _ _
          obtain ⟨kk, ekk⟩ : ∃ v, Sha.ks.getD k 0 = v := ⟨_, rfl⟩
          have ckk : wr.cell? ⟨K, k, none⟩ = some (.int .u32 (kk : Int)) := by rw [← ekk]; exact hM.2.2.1.cell (i := k) (by omega)
          have lkk : kk < 4294967296 := by rw [← ekk]; exact Sha.ks_lt _
          have EWK := Lib.hid ewk
          have EKK := Lib.hid ekk
          clear ewk ekk
          have v0 : wr.cell? ⟨K + 1 + 1, 0, none⟩ = some (.int .u32 (A : Int)) := hV.cell (i := 0) (by omega)
          have f0 : wr.frozen? ⟨K + 1 + 1, 0, none⟩ = false := hV.frozen 0
          have v1 : wr.cell? ⟨K + 1 + 1, 1, none⟩ = some (.int .u32 (B : Int)) := hV.cell (i := 1) (by omega)
          have f1 : wr.frozen? ⟨K + 1 + 1, 1, none⟩ = false := hV.frozen 1
          have v2 : wr.cell? ⟨K + 1 + 1, 2, none⟩ = some (.int .u32 (C : Int)) := hV.cell (i := 2) (by omega)
          have f2 : wr.frozen? ⟨K + 1 + 1, 2, none⟩ = false := hV.frozen 2
          have v3 : wr.cell? ⟨K + 1 + 1, 3, none⟩ = some (.int .u32 (D : Int)) := hV.cell (i := 3) (by omega)
          have f3 : wr.frozen? ⟨K + 1 + 1, 3, none⟩ = false := hV.frozen 3
          have v4 : wr.cell? ⟨K + 1 + 1, 4, none⟩ = some (.int .u32 (E : Int)) := hV.cell (i := 4) (by omega)
          have f4 : wr.frozen? ⟨K + 1 + 1, 4, none⟩ = false := hV.frozen 4
          have v5 : wr.cell? ⟨K + 1 + 1, 5, none⟩ = some (.int .u32 (F : Int)) := hV.cell (i := 5) (by omega)
          have f5 : wr.frozen? ⟨K + 1 + 1, 5, none⟩ = false := hV.frozen 5
          have v6 : wr.cell? ⟨K + 1 + 1, 6, none⟩ = some (.int .u32 (G : Int)) := hV.cell (i := 6) (by omega)
          have f6 : wr.frozen? ⟨K + 1 + 1, 6, none⟩ = false := hV.frozen 6
          have v7 : wr.cell? ⟨K + 1 + 1, 7, none⟩ = some (.int .u32 (H : Int)) := hV.cell (i := 7) (by omega)
          have f7 : wr.frozen? ⟨K + 1 + 1, 7, none⟩ = false := hV.frozen 7
          have hki : (k : Int) < 64 := by omega
          have hnot := Sha.not_walk
          go_wp2_with fail
          go_quiet ((go_at_call 87; with_reducible exact Calls.quiet_of (rot_int _ _ _ lE (by decide) (by decide))))
          rw [Sha.t_walk A B C D E F G H kk wk lE lF lG]
          have lT := Sha.add_lt (Sha.add (Sha.add (Sha.add H (Sha.S1 E)) (Sha.ch E F G)) kk) wk
          obtain ⟨T, eT⟩ : ∃ v, Sha.tOf ⟨A, B, C, D, E, F, G, H⟩ kk wk = v := ⟨_, rfl⟩
          rw [eT]
          have lT : T < 4294967296 := by rw [← eT]; exact lT
          have ET := Lib.hid eT
          clear eT
          have hV' : (wr.drewN nq).rowIs (K + 1 + 1) 122 8 (fun i => #[Value.int .u32 (A : Int), .int .u32 (B : Int), .int .u32 (C : Int), .int .u32 (D : Int), .int .u32 (E : Int), .int .u32 (F : Int), .int .u32 (G : Int), .int .u32 (H : Int)].getD i undef) := hV
          have hM' := hM.drewN nq
          clear hV hM cwk ckk v0 v1 v2 v3 v4 v5 v6 v7 f0 f1 f2 f3 f4 f5 f6 f7
          generalize wr.drewN nq = wq at *
          have v0 : wq.cell? ⟨K + 1 + 1, 0, none⟩ = some (.int .u32 (A : Int)) := hV'.cell (i := 0) (by omega)
          have f0 : wq.frozen? ⟨K + 1 + 1, 0, none⟩ = false := hV'.frozen 0
          have v1 : wq.cell? ⟨K + 1 + 1, 1, none⟩ = some (.int .u32 (B : Int)) := hV'.cell (i := 1) (by omega)
          have f1 : wq.frozen? ⟨K + 1 + 1, 1, none⟩ = false := hV'.frozen 1
          have v2 : wq.cell? ⟨K + 1 + 1, 2, none⟩ = some (.int .u32 (C : Int)) := hV'.cell (i := 2) (by omega)
          have f2 : wq.frozen? ⟨K + 1 + 1, 2, none⟩ = false := hV'.frozen 2
          have v3 : wq.cell? ⟨K + 1 + 1, 3, none⟩ = some (.int .u32 (D : Int)) := hV'.cell (i := 3) (by omega)
          have f3 : wq.frozen? ⟨K + 1 + 1, 3, none⟩ = false := hV'.frozen 3
          have v4 : wq.cell? ⟨K + 1 + 1, 4, none⟩ = some (.int .u32 (E : Int)) := hV'.cell (i := 4) (by omega)
          have f4 : wq.frozen? ⟨K + 1 + 1, 4, none⟩ = false := hV'.frozen 4
          have v5 : wq.cell? ⟨K + 1 + 1, 5, none⟩ = some (.int .u32 (F : Int)) := hV'.cell (i := 5) (by omega)
          have f5 : wq.frozen? ⟨K + 1 + 1, 5, none⟩ = false := hV'.frozen 5
          have v6 : wq.cell? ⟨K + 1 + 1, 6, none⟩ = some (.int .u32 (G : Int)) := hV'.cell (i := 6) (by omega)
          have f6 : wq.frozen? ⟨K + 1 + 1, 6, none⟩ = false := hV'.frozen 6
          have v7 : wq.cell? ⟨K + 1 + 1, 7, none⟩ = some (.int .u32 (H : Int)) := hV'.cell (i := 7) (by omega)
          have f7 : wq.frozen? ⟨K + 1 + 1, 7, none⟩ = false := hV'.frozen 7
          go_wp2_with fail
          go_quiet ((go_at_call 87; with_reducible exact Calls.quiet_of (rot_int _ _ _ lA (by decide) (by decide))))
          rw [Sha.u_walk A B C D E F G H lA lB lC]
          have lU := Sha.add_lt (Sha.S0 A) (Sha.maj A B C)
          obtain ⟨U, eU⟩ : ∃ v, Sha.uOf ⟨A, B, C, D, E, F, G, H⟩ = v := ⟨_, rfl⟩
          rw [eU]
          have lU : U < 4294967296 := by rw [← eU]; exact lU
          have EU := Lib.hid eU
          clear eU
          go_wp2_with fail
          go_roundw
          case rel =>
            refine ⟨k + 1, Sha.add T U, A, B, C, Sha.add D T, E, F, G, by omega, by go_num, Sha.add_lt _ _, lA, lB, lC, Sha.add_lt _ _, lE, lF, lG, ?_, ?_, ?_⟩
            · show _ = _
              rw [Sha.rounds, ← HR.out, EKK.out, EWK.out, Sha.round, ET.out, EU.out]
            · have := row8_set (show (wq.drewN nq).rowIs (K + 1 + 1) 122 8 _ from hV') (.int .u32 (((T : Int) + (U : Int)) % 4294967296)) (.int .u32 (A : Int)) (.int .u32 (B : Int)) (.int .u32 (C : Int)) (.int .u32 (((D : Int) + (T : Int)) % 4294967296)) (.int .u32 (E : Int)) (.int .u32 (F : Int)) (.int .u32 (G : Int))
              rw [show ((Sha.add T U : Nat) : Int) = ((T : Int) + (U : Int)) % 4294967296 by unfold Sha.add; omega, show ((Sha.add D T : Nat) : Int) = ((D : Int) + (T : Int)) % 4294967296 by unfold Sha.add; omega]
              exact this
            · exact ((((((((hM'.drewN _).other 0 _).other 1 _).other 2 _).other 3 _).other 4 _).other 5 _).other 6 _).other 7 _
          case measure => simp [intOf]; omega
        · have hdk2 : decide ((k : Int) < 64) = false := by simp; omega
          have HRR : Hid ((⟨A, B, C, D, E, F, G, H⟩ : Sha.St) = Sha.rounds (Sha.sched s.data.toList 48) ⟨a, b, c, d, e, f, g, h⟩ 64) := by
            obtain rfl : k = 64 := by omega
            exact HR
          have hst : wr.rowIs w.heap.size 122 8 (fun i => .int .u32 (Sha.halfWay ⟨a, b, c, d, e, f, g, h⟩ ⟨A, B, C, D, E, F, G, H⟩ 0 i : Nat)) := by
            refine hM.1.congr fun i hi => ?_
            rw [← HST.out]
            match i, hi with
            | 0, _ => rfl
            | 1, _ => rfl
            | 2, _ => rfl
            | 3, _ => rfl
            | 4, _ => rfl
            | 5, _ => rfl
            | 6, _ => rfl
            | 7, _ => rfl
            | i + 8, hi => omega
          have hvv : wr.rowIs (K + 1 + 1) 122 8 (fun i => .int .u32 ((Sha.stList ⟨A, B, C, D, E, F, G, H⟩).getD i 0 : Nat)) := by
            refine hV.congr fun i hi => ?_
            match i, hi with
            | 0, _ => rfl
            | 1, _ => rfl
            | 2, _ => rfl
            | 3, _ => rfl
            | 4, _ => rfl
            | 5, _ => rfl
            | 6, _ => rfl
            | 7, _ => rfl
            | i + 8, hi => omega
          have hres := hM.2.1
          have hbw := hM.2.2.2.2.1
          have hK2 := hM.2.2.2.2.2.1
          clear hM hV HR hlt hk hV0 hM2
          go_wp2_with fail
          go_loopw [16] (fun i wr => ∃ j : Nat, j ≤ 8 ∧ i = .int .i64 j ∧ wr.rowIs w.heap.size 122 8 (fun i => .int .u32 (Sha.halfWay ⟨a, b, c, d, e, f, g, h⟩ ⟨A, B, C, D, E, F, G, H⟩ j i : Nat)) ∧ wr.rowIs (K + 1 + 1) 122 8 (fun i => .int .u32 ((Sha.stList ⟨A, B, C, D, E, F, G, H⟩).getD i 0 : Nat)) ∧ wr.rowIs (w.heap.size + 1) 122 8 (fun _ => .int .u32 0) ∧ Below w.heap.size w wr) (fun i _ => 8 - (intOf i).toNat)
          case atStart => exact ⟨0, by omega, rfl, hst, hvv, hres, hbw⟩
          case round =>
            obtain ⟨j, hj, rfl, hs8, hv8, hr8, hb8⟩ := hrel
            by_cases hlt : j < 8
            · obtain ⟨p, ep⟩ : ∃ v, Sha.halfWay ⟨a, b, c, d, e, f, g, h⟩ ⟨A, B, C, D, E, F, G, H⟩ j j = v := ⟨_, rfl⟩
              obtain ⟨q, eq⟩ : ∃ v, (Sha.stList ⟨A, B, C, D, E, F, G, H⟩).getD j 0 = v := ⟨_, rfl⟩
              have cp : wr.cell? ⟨w.heap.size, j, none⟩ = some (.int .u32 (p : Int)) := by rw [← ep]; exact hs8.cell (i := j) hlt
              have cq : wr.cell? ⟨K + 1 + 1, j, none⟩ = some (.int .u32 (q : Int)) := by rw [← eq]; exact hv8.cell (i := j) hlt
              have fp := hs8.frozen j
              have EP := Lib.hid ep
              have EQ := Lib.hid eq
              clear ep eq
              have hji : (j : Int) < 8 := by omega
              go_wp2_with fail
              go_region
              go_wp2_with fail
              go_roundw
              case rel =>
                refine ⟨j + 1, by omega, by go_num, ?_, ?_, ?_, ?_⟩
                · refine ((hs8.set j _).congr fun i _ => ?_).drew
                  have hst := Sha.halfWay_step ⟨a, b, c, d, e, f, g, h⟩ ⟨A, B, C, D, E, F, G, H⟩ j i
                  rw [EP.out, EQ.out] at hst
                  rw [← hst]
                  by_cases e : i = j
                  · rw [if_pos e, if_pos e]; unfold Sha.add; congr 1
                  · rw [if_neg e, if_neg e]
                · exact (hv8.setOther (by simp; omega) _).drew
                · exact (hr8.setOther (by simp) _).drew
                · exact (hb8.setCell (by simp) _).drew
              case measure => simp [intOf]; omega
            · obtain ⟨M, eM⟩ : ∃ M, Sha.mix ⟨a, b, c, d, e, f, g, h⟩ s.data.toList = M := ⟨_, rfl⟩
              have hcells : ∀ i, i < 8 → wr.cell? ⟨w.heap.size, i, none⟩ = some (.int .u32 ((Sha.stList M).getD i 0 : Nat)) := by
                obtain rfl : j = 8 := by omega
                intro i hi
                rw [hs8.cell hi, Sha.halfWay_end _ _ i hi, HRR.out, ← eM]
                rfl
              have s0 : wr.cell? ⟨w.heap.size, 0, none⟩ = some (.int .u32 (M.a : Int)) := hcells 0 (by omega)
              have z0 : wr.cell? ⟨w.heap.size + 1, 0, none⟩ = some (.int .u32 0) := hr8.cell (i := 0) (by omega)
              have y0 : wr.frozen? ⟨w.heap.size + 1, 0, none⟩ = false := hr8.frozen 0
              have s1 : wr.cell? ⟨w.heap.size, 1, none⟩ = some (.int .u32 (M.b : Int)) := hcells 1 (by omega)
              have z1 : wr.cell? ⟨w.heap.size + 1, 1, none⟩ = some (.int .u32 0) := hr8.cell (i := 1) (by omega)
              have y1 : wr.frozen? ⟨w.heap.size + 1, 1, none⟩ = false := hr8.frozen 1
              have s2 : wr.cell? ⟨w.heap.size, 2, none⟩ = some (.int .u32 (M.c : Int)) := hcells 2 (by omega)
              have z2 : wr.cell? ⟨w.heap.size + 1, 2, none⟩ = some (.int .u32 0) := hr8.cell (i := 2) (by omega)
              have y2 : wr.frozen? ⟨w.heap.size + 1, 2, none⟩ = false := hr8.frozen 2
              have s3 : wr.cell? ⟨w.heap.size, 3, none⟩ = some (.int .u32 (M.d : Int)) := hcells 3 (by omega)
              have z3 : wr.cell? ⟨w.heap.size + 1, 3, none⟩ = some (.int .u32 0) := hr8.cell (i := 3) (by omega)
              have y3 : wr.frozen? ⟨w.heap.size + 1, 3, none⟩ = false := hr8.frozen 3
              have s4 : wr.cell? ⟨w.heap.size, 4, none⟩ = some (.int .u32 (M.e : Int)) := hcells 4 (by omega)
              have z4 : wr.cell? ⟨w.heap.size + 1, 4, none⟩ = some (.int .u32 0) := hr8.cell (i := 4) (by omega)
              have y4 : wr.frozen? ⟨w.heap.size + 1, 4, none⟩ = false := hr8.frozen 4
              have s5 : wr.cell? ⟨w.heap.size, 5, none⟩ = some (.int .u32 (M.f : Int)) := hcells 5 (by omega)
              have z5 : wr.cell? ⟨w.heap.size + 1, 5, none⟩ = some (.int .u32 0) := hr8.cell (i := 5) (by omega)
              have y5 : wr.frozen? ⟨w.heap.size + 1, 5, none⟩ = false := hr8.frozen 5
              have s6 : wr.cell? ⟨w.heap.size, 6, none⟩ = some (.int .u32 (M.g : Int)) := hcells 6 (by omega)
              have z6 : wr.cell? ⟨w.heap.size + 1, 6, none⟩ = some (.int .u32 0) := hr8.cell (i := 6) (by omega)
              have y6 : wr.frozen? ⟨w.heap.size + 1, 6, none⟩ = false := hr8.frozen 6
              have s7 : wr.cell? ⟨w.heap.size, 7, none⟩ = some (.int .u32 (M.h : Int)) := hcells 7 (by omega)
              have z7 : wr.cell? ⟨w.heap.size + 1, 7, none⟩ = some (.int .u32 0) := hr8.cell (i := 7) (by omega)
              have y7 : wr.frozen? ⟨w.heap.size + 1, 7, none⟩ = false := hr8.frozen 7
              clear hcells hs8 hv8
              have EM := Lib.hid eM
              clear eM
              go_wp2_with fail
              rw [EM.out]
              refine bodyPost_ret (v := stVal M) (by simp [results, Tryz.results55, go_sem, z0, z1, z2, z3, z4, z5, z6, z7, stVal]) rfl ⟨rfl, ?_⟩
              exact (((((((hb8.setCell (by simp) _).setCell (by simp) _).setCell (by simp) _).setCell (by simp) _).setCell (by simp) _).setCell (by simp) _).setCell (by simp) _).setCell (by simp) _
end Go.Proofs.YtpblfpnldbdncaaGreatDoor
