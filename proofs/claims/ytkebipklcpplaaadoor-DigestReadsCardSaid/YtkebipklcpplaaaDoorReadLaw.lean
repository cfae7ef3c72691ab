/- The reading of a text of a hash: plain laws. -/
import Derived.Test.YtkebipklcpplaaaDoorHashLoad
import Derived.Lib.Bytealg
import Derived.Laws.Rows
namespace Go.Proofs.YtkebipklcpplaaaDoor
open Go.RowKit
set_option linter.unusedVariables false
namespace Sha
def hexL : List UInt8 := [48, 49, 50, 51, 52, 53, 54, 55, 56, 57, 97, 98, 99, 100, 101, 102]
def hexIdx (c : UInt8) : Int := Lib.indexByte hexL c
theorem hexIdx_fin : ∀ c : Fin 256, -1 ≤ hexIdx (UInt8.ofNat c.val) ∧ hexIdx (UInt8.ofNat c.val) < 16 := by decide +kernel
theorem hexIdx_range (c : UInt8) : -1 ≤ hexIdx c ∧ hexIdx c < 16 := by
  have := hexIdx_fin ⟨c.toNat, UInt8.toNat_lt c⟩
  simpa using this
theorem hexIdx_digit : ∀ n : Fin 16, hexIdx (hexDigit n.val) = (n.val : Int) := by decide +kernel
def idxUpto (ch : UInt8) (c : Nat) : Int := if hexIdx ch < (c : Int) then hexIdx ch else -1
theorem idx_fin : ∀ (c : Fin 256) (n : Fin 16), idxUpto (UInt8.ofNat c.val) (n.val + 1) = if (hexDigit n.val).toNat = (UInt8.ofNat c.val).toNat then (n.val : Int) else idxUpto (UInt8.ofNat c.val) n.val := by decide +kernel
theorem idx_step (ch : UInt8) (n : Nat) (h : n < 16) : idxUpto ch (n + 1) = if (hexDigit n).toNat = ch.toNat then (n : Int) else idxUpto ch n := by
  have := idx_fin ⟨ch.toNat, UInt8.toNat_lt ch⟩ ⟨n, h⟩
  simpa using this
theorem idx_zero (ch : UInt8) : idxUpto ch 0 = -1 := by
  unfold idxUpto
  have := hexIdx_range ch
  split <;> omega
theorem idx_end (ch : UInt8) : idxUpto ch 16 = hexIdx ch := by
  unfold idxUpto
  have := hexIdx_range ch
  rw [if_pos (by omega)]
def dig (s : List UInt8) (i : Nat) : Nat := (hexIdx (s.getD i 0)).toNat
theorem dig_lt (s : List UInt8) (i : Nat) : dig s i < 16 := by
  unfold dig; have := hexIdx_range (s.getD i 0); omega
def rdAt (s : List UInt8) (k j : Nat) : Nat := if 2 * j + 2 ≤ k then dig s (2 * j) * 16 + dig s (2 * j + 1) else if 2 * j + 1 ≤ k then dig s (2 * j) else 0
theorem rdAt_half (s : List UInt8) (k : Nat) : rdAt s k (k / 2) < 16 := by
  unfold rdAt
  rw [if_neg (by omega)]
  split
  · exact dig_lt _ _
  · omega
theorem rdAt_lt (s : List UInt8) (k j : Nat) : rdAt s k j < 256 := by
  unfold rdAt
  have h1 := dig_lt s (2 * j)
  have h2 := dig_lt s (2 * j + 1)
  split
  · omega
  · split <;> omega
theorem rdAt_step (s : List UInt8) (k j : Nat) : (if j = k / 2 then rdAt s k (k / 2) * 16 + dig s k else rdAt s k j) = rdAt s (k + 1) j := by
  by_cases h : j = k / 2
  · subst h
    rw [if_pos rfl]
    unfold rdAt
    rw [if_neg (by omega)]
    by_cases e : k % 2 = 0
    · rw [if_neg (by omega), if_neg (by omega), if_pos (by omega), show 2 * (k / 2) = k by omega]; omega
    · rw [if_pos (by omega), if_pos (by omega), show 2 * (k / 2) + 1 = k by omega]
  · rw [if_neg h]
    unfold rdAt
    by_cases h1 : 2 * j + 2 ≤ k
    · rw [if_pos h1, if_pos (by omega)]
    · rw [if_neg h1, if_neg (by omega), if_neg (by omega), if_neg (by omega)]
theorem rdAt_zero (s : List UInt8) (j : Nat) : rdAt s 0 j = 0 := by
  unfold rdAt; rw [if_neg (by omega), if_neg (by omega)]
def rd (s : List UInt8) : List UInt8 := (List.range 32).map fun j => UInt8.ofNat (rdAt s 64 j)
theorem rd_length (s : List UInt8) : (rd s).length = 32 := by simp [rd]
theorem rd_getD (s : List UInt8) (j : Nat) (h : j < 32) : ((rd s).getD j 0).toNat = rdAt s 64 j := by
  simp only [rd, List.getD_eq_getElem?_getD, List.getElem?_map, List.getElem?_range h, Option.map_some, Option.getD_some]
  have := rdAt_lt s 64 j
  simp; omega
def readOk (s : List UInt8) : Bool := s.length == 64 && (List.range 64).all fun i => decide (0 ≤ hexIdx (s.getD i 0))
def readH (s : List UInt8) : List UInt8 := if readOk s then rd s else List.replicate 32 0
theorem readH_length (s : List UInt8) : (readH s).length = 32 := by
  unfold readH; split
  · exact rd_length s
  · simp
theorem first_bad (s : List UInt8) : ∀ n : Nat, ∃ d, d ≤ n ∧ (∀ i, i < d → 0 ≤ hexIdx (s.getD i 0)) ∧ (d < n → hexIdx (s.getD d 0) = -1) := by
  intro n
  induction n with
  | zero => exact ⟨0, by omega, fun i h => by omega, fun h => by omega⟩
  | succ n ih =>
    obtain ⟨d, h1, h2, h3⟩ := ih
    by_cases e : d = n
    · subst e
      by_cases g : 0 ≤ hexIdx (s.getD d 0)
      · exact ⟨d + 1, by omega, fun i hi => by
          by_cases e : i = d
          · rw [e]; exact g
          · exact h2 i (by omega), fun h => by omega⟩
      · exact ⟨d, by omega, h2, fun _ => by have := hexIdx_range (s.getD d 0); omega⟩
    · exact ⟨d, by omega, h2, fun _ => h3 (by omega)⟩
theorem readOk_of (s : List UInt8) (hl : s.length = 64) (h : ∀ i, i < 64 → 0 ≤ hexIdx (s.getD i 0)) : readOk s = true := by
  unfold readOk
  rw [Bool.and_eq_true, List.all_eq_true]
  exact ⟨by simp [hl], fun i hi => by simpa using h i (List.mem_range.1 hi)⟩
theorem readOk_bad (s : List UInt8) (d : Nat) (hd : d < 64) (h : hexIdx (s.getD d 0) = -1) : readOk s = false := by
  cases e : readOk s with
  | false => rfl
  | true =>
    unfold readOk at e
    rw [Bool.and_eq_true, List.all_eq_true] at e
    have := e.2 d (List.mem_range.2 hd)
    rw [h] at this
    simp at this
theorem readOk_len (s : List UInt8) (h : s.length ≠ 64) : readOk s = false := by
  unfold readOk
  simp [h]
theorem text_getD : ∀ (h : List UInt8) (j : Nat), j < h.length → (text h).getD (2 * j) 0 = hexDigit ((h.getD j 0).toNat / 16) ∧ (text h).getD (2 * j + 1) 0 = hexDigit ((h.getD j 0).toNat % 16) := by
  intro h
  induction h with
  | nil => intro j hj; simp at hj
  | cons x h ih =>
    intro j hj
    have e : text (x :: h) = hexDigit (x.toNat / 16) :: hexDigit (x.toNat % 16) :: text h := by simp [text]
    rw [e]
    cases j with
    | zero => simp
    | succ j =>
      have := ih j (by simpa using hj)
      rw [show 2 * (j + 1) = 2 * j + 1 + 1 by omega]
      simpa using this
theorem read_text (h : List UInt8) (hl : h.length = 32) (ht : (text h).length = 64) : readOk (text h) = true ∧ rd (text h) = h := by
  have key : ∀ j, j < 32 → dig (text h) (2 * j) = (h.getD j 0).toNat / 16 ∧ dig (text h) (2 * j + 1) = (h.getD j 0).toNat % 16 ∧ 0 ≤ hexIdx ((text h).getD (2 * j) 0) ∧ 0 ≤ hexIdx ((text h).getD (2 * j + 1) 0) := by
    intro j hj
    have hx := UInt8.toNat_lt (h.getD j 0)
    obtain ⟨e1, e2⟩ := text_getD h j (by omega)
    have d1 := hexIdx_digit ⟨(h.getD j 0).toNat / 16, by omega⟩
    have d2 := hexIdx_digit ⟨(h.getD j 0).toNat % 16, by omega⟩
    simp only at d1 d2
    unfold dig
    rw [e1, e2, d1, d2]
    omega
  refine ⟨readOk_of _ ht fun i hi => ?_, ?_⟩
  · obtain ⟨_, _, k3, k4⟩ := key (i / 2) (by omega)
    by_cases e : i % 2 = 0
    · rw [show 2 * (i / 2) = i by omega] at k3; exact k3
    · rw [show 2 * (i / 2) + 1 = i by omega] at k4; exact k4
  · apply List.ext_getElem?
    intro j
    by_cases hj : j < 32
    · have h1 := rd_getD (text h) j hj
      obtain ⟨k1, k2, _, _⟩ := key j hj
      have hx := UInt8.toNat_lt (h.getD j 0)
      have e : ((rd (text h)).getD j 0) = h.getD j 0 := by
        apply UInt8.toNat_inj.1
        rw [h1]
        unfold rdAt
        rw [if_pos (by omega), k1, k2]
        omega
      have l := rd_length (text h)
      rw [List.getD_eq_getElem?_getD, List.getD_eq_getElem?_getD, List.getElem?_eq_getElem (show j < (rd (text h)).length by omega), List.getElem?_eq_getElem (show j < h.length by omega)] at e
      rw [List.getElem?_eq_getElem (show j < (rd (text h)).length by omega), List.getElem?_eq_getElem (show j < h.length by omega)]
      exact congrArg some e
    · rw [List.getElem?_eq_none (by rw [rd_length]; omega), List.getElem?_eq_none (by omega)]
end Sha
theorem or_walk (x y : Nat) (hx : x < 16) (hy : y < 16) : bits BinOp.or IntKind.u8 ((x : Int) * 16) (y : Int) = ((x * 16 + y : Nat) : Int) := by
  have e : ((x : Int) * 16) = ((x * 16 : Nat) : Int) := by omega
  rw [e, u8_or_nat _ _ (by omega) (by omega)]
  have h := Nat.two_pow_add_eq_or_of_lt (i := 4) (b := y) (by omega) x
  rw [show (2 : Nat) ^ 4 * x = x * 16 by omega] at h
  rw [← h]
theorem zeros_getD (n j : Nat) : (List.replicate n (0 : UInt8)).getD j 0 = 0 := by
  rw [List.getD_eq_getElem?_getD, List.getElem?_replicate]; split <;> rfl
/-- two results: a row that lies in memory, and a slot -/
theorem results_row_slot {P : Program} {fn : Func} {p q : Tmp} {ty : TypeId} (h : fn.results = #[.cell p ty, .tmp q]) (tmps : Array Value) (w : World) (g : Nat) (t : TypeId) (cs : Array Value) (fr : Nat × Nat) (d : TypeDesc) (v : Value)
    (hp : tmps.getD p undef = .pointer (some ⟨g, 0, none⟩)) (hq : tmps.getD q undef = v) (hg : w.heap[g]? = some (.cells cs t fr))
    (hu : P.underlying ty = some d) (hd : (match d with | .struct _ | .array _ _ => true | _ => false) = true) (hi : (P.info? ty).map (·.size) = some cs.size) :
    (results fn tmps).run P w = .ok (.tuple #[.agg cs, v]) w := by
  have hp' : tmps[p]?.getD undef = .pointer (some ⟨g, 0, none⟩) := by simpa using hp
  have hq' : tmps[q]?.getD undef = v := by simpa using hq
  simp [results, h, hp', hq', asAddr, run_loadVar_row w g t ty cs fr d hg hu hd hi]
end Go.Proofs.YtkebipklcpplaaaDoor
