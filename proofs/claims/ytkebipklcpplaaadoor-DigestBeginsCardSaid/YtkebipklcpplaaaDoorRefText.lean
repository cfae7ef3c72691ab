/- The contract of sortesref03.Text. -/
import Derived.Test.YtkebipklcpplaaaDoorText
import Derived.Test.YtkebipklcpplaaaDoorPadded
namespace Go.Proofs.YtkebipklcpplaaaDoor
open Go.RowKit
set_option linter.unusedVariables false

theorem text_take (l : List UInt8) (k : Nat) (hk : k < l.length) : Sha.text (l.take (k + 1)) = Sha.text (l.take k) ++ [Sha.hexDigit ((l.getD k 0).toNat / 16), Sha.hexDigit ((l.getD k 0).toNat % 16)] := by
  rw [List.take_succ_eq_append_getElem hk, List.getD_eq_getElem?_getD, List.getElem?_eq_getElem hk]
  unfold Sha.text
  rw [List.flatMap_append]
  rfl
theorem hex_slice (n : Nat) (h : n < 16) (z y : Int) (hz : z = n) (hy : y = n + 1) (w : World) : (Instr.slice 9 (.string ⟨#[48, 49, 50, 51, 52, 53, 54, 55, 56, 57, 97, 98, 99, 100, 101, 102]⟩) (some (.int .u8 z)) (some (.int .u8 y)) none).run Tryd.prog w = .ok (.string ⟨#[Sha.hexDigit n]⟩) w := by
  have e : ∀ m : Fin 16, (⟨#[48, 49, 50, 51, 52, 53, 54, 55, 56, 57, 97, 98, 99, 100, 101, 102]⟩ : ByteArray).extract m.val (m.val + 1) = ⟨#[Sha.hexDigit m.val]⟩ := by decide +kernel
  have h1 := run_slice_string (P := Tryd.prog) w 9 (⟨#[48, 49, 50, 51, 52, 53, 54, 55, 56, 57, 97, 98, 99, 100, 101, 102]⟩ : ByteArray) .u8 .u8 z y Tryd.underlying9 (by omega) (by omega) (by show y ≤ ((16 : Nat) : Int); omega)
  rw [h1, show z.toNat = n by omega, show y.toNat = n + 1 by omega, e ⟨n, h⟩]

set_option maxHeartbeats 1000000 in
set_option maxRecDepth 100000 in
theorem rtext_any (l : List UInt8) (hl : l.length = 32) (w : World) :
    Calls Tryd.prog 21 #[.agg (hashArr l)] w fun e w' => e = .returned (.string ⟨(Sha.text l).toArray⟩) ∧ Below w.heap.size w w' := by
  have HL := Lib.hid hl
  clear hl
  go_enter Tryd.func21, Tryd.ntmps21
  go_wp2_with fail
  have hr0 : (w.alloc (.cells (hashArr l) 24)).rowIs w.heap.size 24 32 (fun i => .int .u8 ((l.getD i 0).toNat : Int)) := by
    have h := World.rowIs_alloc w (hashArr l) 24 (fun i => .int .u8 ((l.getD i 0).toNat : Int)) (fun i hi => by
      rw [hashArr_size] at hi
      rw [hashArr, List.getElem?_toArray, List.getElem?_map, List.getD_eq_getElem?_getD, List.getElem?_eq_getElem hi]
      rfl)
    rw [hashArr_size, HL.out] at h
    exact h
  have hb0 : Below w.heap.size w (w.alloc (.cells (hashArr l) 24)) := (Below.refl _ _).alloc (Nat.le_refl _) _
  generalize w.alloc _ = W0 at *
  go_loopw [3, 4] (fun t i wr => ∃ k : Nat, k ≤ 32 ∧ i = .int .i64 k ∧ t = .string ⟨(Sha.text (l.take k)).toArray⟩ ∧ wr.rowIs w.heap.size 24 32 (fun i => .int .u8 ((l.getD i 0).toNat : Int)) ∧ Below w.heap.size w wr) (fun _ i _ => 32 - (intOf i).toNat)
  case atStart => exact ⟨0, by omega, rfl, rfl, hr0, hb0⟩
  case round =>
    obtain ⟨k, hk, rfl, rfl, hr, hbw⟩ := hrel
    obtain ⟨u, eu⟩ : ∃ u : ByteArray, (⟨(Sha.text (l.take k)).toArray⟩ : ByteArray) = u := ⟨_, rfl⟩
    have hu : u.size ≤ 64 := by
      rw [← eu]; show (Sha.text (l.take k)).toArray.size ≤ 64
      simp [text_length]; omega
    by_cases hlt : k < 32
    · obtain ⟨x, ex⟩ : ∃ x, (l.getD k 0).toNat = x := ⟨_, rfl⟩
      have hx : x < 256 := by rw [← ex]; exact UInt8.toNat_lt _
      have cx : wr.cell? ⟨w.heap.size, k, none⟩ = some (.int .u8 (x : Int)) := by rw [← ex]; exact hr.cell (i := k) hlt
      have HN : Hid (u ++ (⟨#[Sha.hexDigit (x / 16)]⟩ : ByteArray) ++ (⟨#[Sha.hexDigit (x % 16)]⟩ : ByteArray) = ⟨(Sha.text (l.take (k + 1))).toArray⟩) := by
        show _ = _
        rw [text_take l k (by rw [HL.out]; exact hlt), ex, ← eu]
        rw [show (⟨#[Sha.hexDigit (x / 16)]⟩ : ByteArray) = ⟨([Sha.hexDigit (x / 16)] : List UInt8).toArray⟩ from rfl, show (⟨#[Sha.hexDigit (x % 16)]⟩ : ByteArray) = ⟨([Sha.hexDigit (x % 16)] : List UInt8).toArray⟩ from rfl, ba_append, ba_append, List.append_assoc]
        rfl
      rw [eu]
      have hs1 := fun W => hex_slice (x / 16) (by omega) ((x : Int) / 16) ((x : Int) / 16 + 1) (by omega) (by omega) W
      have hs2 := fun W => hex_slice (x % 16) (by omega) ((x : Int) % 16) ((x : Int) % 16 + 1) (by omega) (by omega) W
      obtain ⟨d1, ed1⟩ : ∃ d : ByteArray, (⟨#[Sha.hexDigit (x / 16)]⟩ : ByteArray) = d := ⟨_, rfl⟩
      obtain ⟨d2, ed2⟩ : ∃ d : ByteArray, (⟨#[Sha.hexDigit (x % 16)]⟩ : ByteArray) = d := ⟨_, rfl⟩
      have z1 : d1.size = 1 := by rw [← ed1]; rfl
      have z2 : d2.size = 1 := by rw [← ed2]; rfl
      have y1 : d1.size ≤ 1 := by omega
      have y2 : d2.size ≤ 1 := by omega
      have y3 : (u ++ d1).size ≤ 65 := by rw [ByteArray.size_append]; omega
      rw [ed1] at hs1 HN
      rw [ed2] at hs2 HN
      clear ed1 ed2 z1 z2 ex eu
      have q1 : (k : Int) < 32 := by omega
      have q2 : 0 ≤ (x : Int) / 16 := by omega
      have q3 : 0 ≤ (x : Int) % 16 := by omega
      have q4 : IntKind.u8.wrap ((x : Int) / 16 + 1) = (x : Int) / 16 + 1 := by simp [IntKind.wrap, IntKind.bits, IntKind.signed]; omega
      have q5 : IntKind.u8.wrap ((x : Int) % 16 + 1) = (x : Int) % 16 + 1 := by simp [IntKind.wrap, IntKind.bits, IntKind.signed]; omega
      have q6 : IntKind.u8.wrap ((x : Int) / 16) = (x : Int) / 16 := by simp [IntKind.wrap, IntKind.bits, IntKind.signed]; omega
      go_wp2_with fail
      go_quiet (fail)
      go_wp2_with fail
      go_roundw
      case rel => exact ⟨k + 1, by omega, by go_num, by rw [HN.out], hr, below_drewN hbw _⟩
      case measure => simp [intOf]; omega
    · rw [eu]
      have hd : decide ((k : Int) < 32) = false := by simp; omega
      go_wp2_with fail
      go_ret
      refine ⟨?_, hbw⟩
      rw [← eu, List.take_of_length_le (by rw [HL.out]; omega)]
      rfl
end Go.Proofs.YtkebipklcpplaaaDoor
