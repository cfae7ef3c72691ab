/- The contract of digest.length. -/
import Derived.Test.YtkebipklcpplaaaDoorProg
import Derived.Test.YtkebipklcpplaaaDoorBytes
import Derived.Test.YtkebipklcpplaaaDoorSha
import Derived.WalkLawsBesides
namespace Go.Proofs.YtkebipklcpplaaaDoor
open Go.RowKit
set_option linter.unusedVariables false

/-- the bytes behind k of 8 rounds -/
def lenAt (n k j : Nat) : Nat := if j < k then n / 2 ^ (56 - 8 * j) % 256 else 0
theorem lenAt_step (n k j : Nat) : (if j = k then n / 2 ^ (56 - 8 * k) % 256 else lenAt n k j) = lenAt n (k + 1) j := by
  unfold lenAt
  by_cases h : j = k
  · rw [if_pos h, if_pos (by omega), h]
  · rw [if_neg h]
    by_cases h2 : j < k
    · rw [if_pos h2, if_pos (by omega)]
    · rw [if_neg h2, if_neg (by omega)]
theorem lenAt_end (n : Nat) : (List.range 8).map (fun i => UInt8.ofNat (lenAt n 8 i)) = Sha.bytesOf 8 n := by
  unfold Sha.bytesOf
  apply List.map_congr_left
  intro i hi
  have hi : i < 8 := by simpa using hi
  unfold lenAt
  rw [if_pos hi, show 8 * (8 - 1 - i) = 56 - 8 * i by omega]
  apply UInt8.toNat_inj.1
  simp
theorem shr_cast (n e : Nat) : ((n : Int) / 2 ^ e) = ((n / 2 ^ e : Nat) : Int) := by simp

set_option maxHeartbeats 1000000 in
set_option maxRecDepth 100000 in
theorem length_any (n : Nat) (w : World) (hn : n < 18446744073709551616) :
    Calls Tryd.prog 39 #[.int .u64 (n : Int)] w fun e w' => e = .returned (.string ⟨(Sha.bytesOf 8 n).toArray⟩) ∧ Below w.heap.size w w' := by
  go_enter Tryd.func39, Tryd.ntmps39
  go_wp2_with fail
  have hr0 : (w.alloc (.cells #[.int .u8 0, .int .u8 0, .int .u8 0, .int .u8 0, .int .u8 0, .int .u8 0, .int .u8 0, .int .u8 0] 81)).rowIs w.heap.size 81 8 (fun j => .int .u8 (lenAt n 0 j : Nat)) :=
    World.rowIs_alloc w (Array.replicate 8 (.int .u8 0)) _ _ (fun i hi => by simp at hi; simp [lenAt, hi])
  have hb0 : Below w.heap.size w (w.alloc (.cells #[.int .u8 0, .int .u8 0, .int .u8 0, .int .u8 0, .int .u8 0, .int .u8 0, .int .u8 0, .int .u8 0] 81)) := (Below.refl _ _).alloc (Nat.le_refl _) _
  generalize w.alloc _ = W0 at *
  go_loopw [4, 5] (fun _ i wr => ∃ k : Nat, k ≤ 8 ∧ i = .int .i64 k ∧ wr.rowIs w.heap.size 81 8 (fun j => .int .u8 (lenAt n k j : Nat)) ∧ Below w.heap.size w wr) (fun _ i _ => 8 - (intOf i).toNat)
  case atStart => exact ⟨0, by omega, rfl, hr0, hb0⟩
  case round =>
    obtain ⟨k, hk, rfl, hr, hbw⟩ := hrel
    by_cases hlt : k < 8
    · have c0 := hr.cell (i := k) hlt
      have f0 := hr.frozen k
      go_wp2_with fail
      go_roundw
      case rel =>
        refine ⟨k + 1, by omega, by go_num, (hr.set k _).congr fun j _ => ?_, hbw.setCell (by simp) _⟩
        rw [← lenAt_step]
        by_cases e : j = k
        · rw [if_pos e, if_pos e, shr_cast]; congr 1
        · rw [if_neg e, if_neg e]
      case measure => simp [intOf]; omega
    · have hdk : decide ((k : Int) < 8) = false := by simp; omega
      have hcv : Sem.run Tryd.prog (convert 33 9 (Value.slice (some ⟨w.heap.size, 0, none⟩) 8 8)) wr = Result.ok (.string ⟨(Sha.bytesOf 8 n).toArray⟩) wr := by
        obtain rfl : k = 8 := by omega
        rw [← lenAt_end]
        exact conv_row (P := Tryd.prog) (T := 81) (c := 8) Tryd.underlying33 Tryd.underlying5 Tryd.underlying9 (fun i hi => hr.cell (i := i) (n := 8) hi)
      go_wp2_with fail
      go_ret
      exact ⟨rfl, hbw⟩
end Go.Proofs.YtkebipklcpplaaaDoor
