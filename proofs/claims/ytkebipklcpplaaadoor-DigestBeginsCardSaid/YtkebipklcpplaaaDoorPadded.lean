/- The contract of sortesref03.padded. -/
import Derived.Test.YtkebipklcpplaaaDoorLength
namespace Go.Proofs.YtkebipklcpplaaaDoor
open Go.RowKit
set_option linter.unusedVariables false

def zeroes (n : Nat) : Nat := (119 - n % 64) % 64
theorem zeroes_lt (n : Nat) : zeroes n < 64 := by unfold zeroes; omega
theorem zeroes_no (n j : Nat) (h : j < zeroes n) : (n + 1 + j) % 64 ≠ 56 := by unfold zeroes at h; omega
theorem zeroes_yes (n j : Nat) (h : j = zeroes n) : (n + 1 + j) % 64 = 56 := by unfold zeroes at h; omega
def padStr (l : List UInt8) (j : Nat) : ByteArray := ⟨(l ++ 128 :: List.replicate j 0).toArray⟩
theorem padStr_size (l : List UInt8) (j : Nat) : (padStr l j).size = l.length + 1 + j := by simp [padStr, ByteArray.size]; omega

theorem ba_append (a b : List UInt8) : (⟨a.toArray⟩ : ByteArray) ++ ⟨b.toArray⟩ = ⟨(a ++ b).toArray⟩ := by
  apply ByteArray.ext
  simp
theorem ba_mk (s : ByteArray) : (⟨s.data.toList.toArray⟩ : ByteArray) = s := by cases s; simp
theorem padStr_zero (s : ByteArray) : s ++ (⟨#[128]⟩ : ByteArray) = padStr s.data.toList 0 := by
  conv => lhs; rw [← ba_mk s]
  exact ba_append _ [128]
theorem padStr_succ (l : List UInt8) (j : Nat) : padStr l j ++ (⟨#[0]⟩ : ByteArray) = padStr l (j + 1) := by
  rw [padStr]
  rw [show (⟨#[0]⟩ : ByteArray) = ⟨([0] : List UInt8).toArray⟩ from rfl, ba_append, padStr, List.append_assoc]
  congr 3
  rw [List.replicate_succ', List.cons_append]
/-- the message, behind k of the 8 bytes of its length -/
def padLen (l : List UInt8) (n k : Nat) : ByteArray := ⟨((l ++ 128 :: List.replicate (zeroes l.length) 0) ++ (Sha.bytesOf 8 n).take k).toArray⟩
theorem padLen_size (l : List UInt8) (n k : Nat) : (padLen l n k).size ≤ l.length + 73 := by
  have h1 := zeroes_lt l.length
  have h2 : ((Sha.bytesOf 8 n).take k).length ≤ 8 := by simp [Sha.bytesOf]; omega
  have e : (padLen l n k).size = l.length + (zeroes l.length + 1) + ((Sha.bytesOf 8 n).take k).length := by
    show (((l ++ 128 :: List.replicate (zeroes l.length) 0) ++ (Sha.bytesOf 8 n).take k).toArray).size = _
    simp; omega
  omega
theorem padLen_zero (l : List UInt8) (n : Nat) : padStr l (zeroes l.length) = padLen l n 0 := by simp [padStr, padLen]
theorem padLen_end (l : List UInt8) : padLen l (l.length * 8) 8 = ⟨(Sha.padded l).toArray⟩ := by
  unfold padLen Sha.padded zeroes
  rw [List.take_of_length_le (by simp [Sha.bytesOf])]
theorem padLen_succ (l : List UInt8) (n k : Nat) (hk : k < 8) : padLen l n k ++ (⟨#[UInt8.ofNat (n / 2 ^ (8 * (7 - k)) % 256)]⟩ : ByteArray) = padLen l n (k + 1) := by
  rw [show (⟨#[UInt8.ofNat (n / 2 ^ (8 * (7 - k)) % 256)]⟩ : ByteArray) = ⟨([UInt8.ofNat (n / 2 ^ (8 * (7 - k)) % 256)] : List UInt8).toArray⟩ from rfl]
  unfold padLen
  rw [ba_append, List.append_assoc]
  congr 3
  rw [List.take_succ_eq_append_getElem (by simpa [Sha.bytesOf] using hk)]
  congr 2
  simp only [Sha.bytesOf, List.getElem_map, List.getElem_range]
  apply UInt8.toNat_inj.1
  simp

set_option maxHeartbeats 1000000 in
set_option maxRecDepth 100000 in
theorem padded_any (s : ByteArray) (w : World) (hs : s.size ≤ 140737488355328) :
    Calls Tryd.prog 40 #[.string s] w fun e w' => e = .returned (.string ⟨(Sha.padded s.data.toList).toArray⟩) ∧ Below w.heap.size w w' := by
  have hll : s.data.toList.length = s.size := by simp
  obtain ⟨Z, hZ⟩ : ∃ Z, zeroes s.data.toList.length = Z := ⟨_, rfl⟩
  have hZl : Z < 64 := by rw [← hZ]; exact zeroes_lt _
  have H0 := Lib.hid (padStr_zero s)
  go_enter Tryd.func40, Tryd.ntmps40
  go_wp2_with fail
  rw [H0.out]
  have HZ := Lib.hid hZ
  have HLL := Lib.hid hll
  clear hZ hll
  go_loop [3] (fun t => ∃ j : Nat, j ≤ Z ∧ t = .string (padStr s.data.toList j)) (fun t => 200 - (strLen t - s.size))
  case atStart => exact ⟨0, by omega, rfl⟩
  case round =>
    obtain ⟨j, hj, rfl⟩ := hrel
    obtain ⟨t, ht⟩ : ∃ t, padStr s.data.toList j = t := ⟨_, rfl⟩
    have hsz : t.size = s.size + 1 + j := by rw [← ht, padStr_size, HLL.out]
    have hs1 : t.size ≤ s.size + 1 + j := by omega
    have HSZ := Lib.hid hsz
    by_cases hlt : j < Z
    · have hm : ((t.size : Int) % 64 != 56) = true := by
        have := zeroes_no s.data.toList.length j (by rw [HZ.out]; exact hlt)
        rw [HLL.out, ← hsz] at this
        simp; omega
      have HN := Lib.hid (padStr_succ s.data.toList j)
      rw [ht] at *
      have HT := Lib.hid ht
      clear hsz ht
      go_wp2_with fail
      go_round
      case rel => exact ⟨j + 1, by omega, by rw [← HT.out, HN.out]⟩
      case measure =>
        have e2 := padStr_size s.data.toList (j + 1)
        rw [HLL.out] at e2
        rw [← HT.out, HN.out]
        simp only [strLen]
        rw [HT.out, HSZ.out, e2]
        omega
    · have hm : ((t.size : Int) % 64 != 56) = false := by
        have := zeroes_yes s.data.toList.length j (by rw [HZ.out]; omega)
        rw [HLL.out, ← hsz] at this
        simp; omega
      have HP : Hid (t = padLen s.data.toList (s.size * 8) 0) := by
        show t = _
        rw [← ht, ← padLen_zero, HZ.out]
        congr 1; omega
      clear hsz
      rw [ht]
      clear ht
      have hcv := fun (x : Int) (w : World) => conv_one (P := Tryd.prog) (T := 5) Tryd.underlying33 Tryd.underlying5 Tryd.underlying9 x w
      go_wp2_with fail
      go_loopw [3, 5] (fun t i wr => ∃ k : Nat, k ≤ 8 ∧ i = .int .i64 (7 - (k : Int)) ∧ t = .string (padLen s.data.toList (s.size * 8) k) ∧ Below w.heap.size w wr) (fun _ i _ => (intOf i + 1).toNat)
      case atStart => exact ⟨0, by omega, rfl, by rw [HP.out], Below.refl _ _⟩
      case round =>
        obtain ⟨k, hk, rfl, rfl, hbw⟩ := hrel
        by_cases hlt : k < 8
        · have HN := Lib.hid (padLen_succ s.data.toList (s.size * 8) k hlt)
          have hu := padLen_size s.data.toList (s.size * 8) k
          rw [HLL.out] at hu
          generalize padLen s.data.toList (s.size * 8) k = u at *
          go_wp2_with fail
          go_roundw
          case rel =>
            refine ⟨k + 1, by omega, by congr 1; omega, ?_, hbw.alloc (by have := hbw.size; omega) _⟩
            have e : ((s.size : Int) * 8 / 2 ^ (8 * (7 - k)) % 256) = ((s.size * 8 / 2 ^ (8 * (7 - k)) % 256 : Nat) : Int) := by simp
            rw [e, Int.toNat_natCast, HN.out]
          case measure => simp [intOf]; omega
        · have hd7 : decide ((0 : Int) ≤ 7 - (k : Int)) = false := by simp; omega
          go_wp2_with fail
          go_ret
          refine ⟨?_, hbw⟩
          obtain rfl : k = 8 := by omega
          have := padLen_end s.data.toList
          rw [HLL.out] at this
          simp only [this]
          rfl
end Go.Proofs.YtkebipklcpplaaaDoor
