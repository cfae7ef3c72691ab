/- Hashes compared and indexed; the contract of digest.Text. -/
import Derived.Test.YtkebipklcpplaaaDoorSumKit
import Derived.Stop.BytesEq
namespace Go.Proofs.YtkebipklcpplaaaDoor
open Go.RowKit
set_option linter.unusedVariables false

theorem hash_eql (a b : List UInt8) (ha : a.length = 32) (hb : b.length = 32) (w : World) : (binOp .eql 24 (.agg (hashArr a)) (.agg (hashArr b))).run Tryd.prog w = .ok (.bool (a == b)) w :=
  run_eql_bytes w 24 5 32 Tryd.underlying24 Tryd.underlying5 Tryd.sizeOf5 a b ha hb
theorem hash_index (l : List UInt8) (hl : l.length = 32) (k : Nat) (hk : k < 32) (w : World) : (Instr.index 24 (.agg (hashArr l)) (.int .i64 (k : Int))).run Tryd.prog w = .ok (.int .u8 ((l.getD k 0).toNat : Int)) w := by
  have hc : (hashArr l)[k]? = some (.int .u8 ((l.getD k 0).toNat : Int)) := by
    rw [hashArr, List.getElem?_toArray, List.getElem?_map, List.getD_eq_getElem?_getD, List.getElem?_eq_getElem (show k < l.length by omega)]
    rfl
  simp [Instr.index, asIntOf, run_underlying Tryd.underlying24, hk, Tryd.sizeOf5, part, Tryd.isAgg5, hc]

/-- a letter of the text -/
def hexAt (l : List UInt8) (j : Nat) : UInt8 := Sha.hexDigit (if j % 2 = 0 then (l.getD (j / 2) 0).toNat / 16 else (l.getD (j / 2) 0).toNat % 16)
/-- the text's letters behind k of 32 rounds -/
def textAt (l : List UInt8) (k j : Nat) : Nat := if j < 2 * k then (hexAt l j).toNat else 0
theorem textAt_step (l : List UInt8) (k j : Nat) : (if j = 2 * k + 1 then (Sha.hexDigit ((l.getD k 0).toNat % 16)).toNat else if j = 2 * k then (Sha.hexDigit ((l.getD k 0).toNat / 16)).toNat else textAt l k j) = textAt l (k + 1) j := by
  unfold textAt
  by_cases h : j = 2 * k + 1
  · rw [if_pos h, if_pos (by omega), hexAt, if_neg (by omega), show j / 2 = k by omega]
  · rw [if_neg h]
    by_cases h2 : j = 2 * k
    · rw [if_pos h2, if_pos (by omega), hexAt, if_pos (by omega), show j / 2 = k by omega]
    · rw [if_neg h2]
      by_cases h3 : j < 2 * k
      · rw [if_pos h3, if_pos (by omega)]
      · rw [if_neg h3, if_neg (by omega)]
theorem text_at (l : List UInt8) (j : Nat) (hj : j < 2 * l.length) : (Sha.text l)[j]? = some (hexAt l j) := by
  unfold hexAt
  induction l generalizing j with
  | nil => simp at hj
  | cons x l ih =>
    have e : Sha.text (x :: l) = Sha.hexDigit (x.toNat / 16) :: Sha.hexDigit (x.toNat % 16) :: Sha.text l := by simp [Sha.text]
    rw [e]
    match j with
    | 0 => rfl
    | 1 => rfl
    | j + 2 =>
      simp only [List.length_cons] at hj
      rw [List.getElem?_cons_succ, List.getElem?_cons_succ, ih j (by omega), show (j + 2) % 2 = j % 2 by omega, show (j + 2) / 2 = j / 2 + 1 by omega, List.getD_cons_succ]
theorem text_length (l : List UInt8) : (Sha.text l).length = 2 * l.length := by
  induction l with
  | nil => rfl
  | cons x l ih =>
    have e : Sha.text (x :: l) = Sha.hexDigit (x.toNat / 16) :: Sha.hexDigit (x.toNat % 16) :: Sha.text l := by simp [Sha.text]
    rw [e]; simp only [List.length_cons]; omega
theorem textAt_end (l : List UInt8) (hl : l.length = 32) : (List.range 64).map (fun i => UInt8.ofNat (textAt l 32 i)) = Sha.text l := by
  apply List.ext_getElem?
  intro j
  by_cases hj : j < 64
  · rw [List.getElem?_map, List.getElem?_range hj, text_at l j (by omega)]
    unfold textAt
    simp [show j < 2 * 32 by omega]
  · rw [List.getElem?_eq_none (by simp; omega), List.getElem?_eq_none (by rw [text_length]; omega)]
theorem hex_index (n : Nat) (h : n < 16) (z : Int) (hz : z = n) (w : World) : (Instr.index 9 (.string ⟨#[48, 49, 50, 51, 52, 53, 54, 55, 56, 57, 97, 98, 99, 100, 101, 102]⟩) (.int .u8 z)).run Tryd.prog w = .ok (.int .u8 ((Sha.hexDigit n).toNat : Int)) w := by
  subst hz
  rw [run_index_string _ _ _ _ _ Tryd.underlying9, dif_pos ⟨by omega, by show (n : Int) < ((16 : Nat) : Int); omega⟩]
  congr 3
  have : ∀ m : Fin 16, ((⟨#[48, 49, 50, 51, 52, 53, 54, 55, 56, 57, 97, 98, 99, 100, 101, 102]⟩ : ByteArray)[m.val]'(show m.val < 16 from m.isLt)) = Sha.hexDigit m.val := by decide
  have h2 := this ⟨n, h⟩
  simp only [Int.toNat_natCast]
  rw [h2]

set_option maxHeartbeats 1000000 in
set_option maxRecDepth 100000 in
theorem text_any (l : List UInt8) (hl : l.length = 32) (w : World) :
    Calls Tryd.prog 20 #[.agg (hashArr l)] w fun e w' => e = .returned (.string ⟨(Sha.text l).toArray⟩) ∧ Below w.heap.size w w' := by
  have HL := Lib.hid hl
  clear hl
  go_enter Tryd.func20, Tryd.ntmps20
  go_wp2_with (refine wpList_load_row rfl 24 (.tmp 1) rfl w.heap.size rfl 24 (hashArr l) (0, 0) _ (heap_alloc2_old _ _ _) Tryd.underlying24 rfl (hash_info _ HL.out) ?_)
  have hr0 : ((w.alloc (.cells (hashArr l) 24)).alloc (.cells #[.int .u8 0, .int .u8 0, .int .u8 0, .int .u8 0, .int .u8 0, .int .u8 0, .int .u8 0, .int .u8 0, .int .u8 0, .int .u8 0, .int .u8 0, .int .u8 0, .int .u8 0, .int .u8 0, .int .u8 0, .int .u8 0, .int .u8 0, .int .u8 0, .int .u8 0, .int .u8 0, .int .u8 0, .int .u8 0, .int .u8 0, .int .u8 0, .int .u8 0, .int .u8 0, .int .u8 0, .int .u8 0, .int .u8 0, .int .u8 0, .int .u8 0, .int .u8 0, .int .u8 0, .int .u8 0, .int .u8 0, .int .u8 0, .int .u8 0, .int .u8 0, .int .u8 0, .int .u8 0, .int .u8 0, .int .u8 0, .int .u8 0, .int .u8 0, .int .u8 0, .int .u8 0, .int .u8 0, .int .u8 0, .int .u8 0, .int .u8 0, .int .u8 0, .int .u8 0, .int .u8 0, .int .u8 0, .int .u8 0, .int .u8 0, .int .u8 0, .int .u8 0, .int .u8 0, .int .u8 0, .int .u8 0, .int .u8 0, .int .u8 0, .int .u8 0] 54)).rowIs (w.heap.size + 1) 54 64 (fun j => .int .u8 (textAt l 0 j : Nat)) := by
    have h := World.rowIs_alloc (w.alloc (.cells (hashArr l) 24)) (Array.replicate 64 (.int .u8 0)) 54 (fun j => .int .u8 (textAt l 0 j : Nat)) (fun i hi => by rw [zeros_row 64 _ i (by simpa using hi)]; simp [textAt])
    rw [show (w.alloc (.cells (hashArr l) 24)).heap.size = w.heap.size + 1 by simp, Array.size_replicate] at h
    exact h
  have hb0 : Below w.heap.size w ((w.alloc (.cells (hashArr l) 24)).alloc (.cells #[.int .u8 0, .int .u8 0, .int .u8 0, .int .u8 0, .int .u8 0, .int .u8 0, .int .u8 0, .int .u8 0, .int .u8 0, .int .u8 0, .int .u8 0, .int .u8 0, .int .u8 0, .int .u8 0, .int .u8 0, .int .u8 0, .int .u8 0, .int .u8 0, .int .u8 0, .int .u8 0, .int .u8 0, .int .u8 0, .int .u8 0, .int .u8 0, .int .u8 0, .int .u8 0, .int .u8 0, .int .u8 0, .int .u8 0, .int .u8 0, .int .u8 0, .int .u8 0, .int .u8 0, .int .u8 0, .int .u8 0, .int .u8 0, .int .u8 0, .int .u8 0, .int .u8 0, .int .u8 0, .int .u8 0, .int .u8 0, .int .u8 0, .int .u8 0, .int .u8 0, .int .u8 0, .int .u8 0, .int .u8 0, .int .u8 0, .int .u8 0, .int .u8 0, .int .u8 0, .int .u8 0, .int .u8 0, .int .u8 0, .int .u8 0, .int .u8 0, .int .u8 0, .int .u8 0, .int .u8 0, .int .u8 0, .int .u8 0, .int .u8 0, .int .u8 0] 54)) := ((Below.refl _ _).alloc (Nat.le_refl _) _).alloc (by simp) _
  generalize (w.alloc (.cells (hashArr l) 24)).alloc _ = W0 at *
  go_loopw [4, 5, 7] (fun _ _ i wr => ∃ k : Nat, k ≤ 32 ∧ i = .int .i64 k ∧ wr.rowIs (w.heap.size + 1) 54 64 (fun j => .int .u8 (textAt l k j : Nat)) ∧ Below w.heap.size w wr) (fun _ _ i _ => 32 - (intOf i).toNat)
  case atStart => exact ⟨0, by omega, rfl, hr0, hb0⟩
  case round =>
    obtain ⟨k, hk, rfl, hr, hbw⟩ := hrel
    by_cases hlt : k < 32
    · obtain ⟨x, ex⟩ : ∃ x, (l.getD k 0).toNat = x := ⟨_, rfl⟩
      have hx : x < 256 := by rw [← ex]; exact UInt8.toNat_lt _
      have hix := fun W => hash_index l HL.out k hlt W
      rw [ex] at hix
      have EX := Lib.hid ex
      clear ex
      have hb4 := u8_and15 (x := (x : Int)) (by omega) (by omega)
      have hi1 := fun W => hex_index (x / 16) (by omega) ((x : Int) / 16) (by omega) W
      have hi2 := fun W => hex_index (x % 16) (by omega) ((x : Int) % 16) (by omega) W
      have c0 := hr.cell (i := 2 * k) (by omega)
      have c1 := hr.cell (i := 2 * k + 1) (by omega)
      have f0 := hr.frozen (2 * k)
      have f1 := hr.frozen (2 * k + 1)
      have p1 : 0 ≤ 2 * (k : Int) := by omega
      have p2 : 2 * (k : Int) < 64 := by omega
      have p3 : 0 ≤ 2 * (k : Int) + 1 := by omega
      have p4 : 2 * (k : Int) + 1 < 64 := by omega
      have p5 : (2 * (k : Int)).toNat = 2 * k := by omega
      have p6 : (2 * (k : Int) + 1).toNat = 2 * k + 1 := by omega
      obtain ⟨d1, ed1⟩ : ∃ d, (Sha.hexDigit (x / 16)).toNat = d := ⟨_, rfl⟩
      obtain ⟨d2, ed2⟩ : ∃ d, (Sha.hexDigit (x % 16)).toNat = d := ⟨_, rfl⟩
      rw [ed1] at hi1
      rw [ed2] at hi2
      have ED1 := Lib.hid ed1
      have ED2 := Lib.hid ed2
      clear ed1 ed2
      go_wp2_with fail
      go_region
      go_wp2_with fail
      go_roundw
      case rel =>
        refine ⟨k + 1, by omega, by go_num, (((hr.set (2 * k) _).set (2 * k + 1) _).congr fun j _ => ?_).drew, ((hbw.setCell (by simp) _).setCell (by simp) _).drew⟩
        rw [← textAt_step, EX.out, ED1.out, ED2.out]
        by_cases e : j = 2 * k + 1
        · rw [if_pos e, if_pos e]
        · rw [if_neg e, if_neg e]
          by_cases e2 : j = 2 * k
          · rw [if_pos e2, if_pos e2]
          · rw [if_neg e2, if_neg e2]
      case measure => simp [intOf]; omega
    · have hdk : decide ((k : Int) < 32) = false := by simp; omega
      have hcv : Sem.run Tryd.prog (convert 33 9 (Value.slice (some ⟨w.heap.size + 1, 0, none⟩) 64 64)) wr = Result.ok (.string ⟨(Sha.text l).toArray⟩) wr := by
        obtain rfl : k = 32 := by omega
        rw [← textAt_end l HL.out]
        exact conv_row (P := Tryd.prog) (T := 54) (c := 64) Tryd.underlying33 Tryd.underlying5 Tryd.underlying9 (fun i hi => hr.cell (i := i) (n := 64) hi)
      go_wp2_with fail
      go_ret
      exact ⟨rfl, hbw⟩
end Go.Proofs.YtkebipklcpplaaaDoor
