/- The numbers of texts: plain laws, and the contracts of number, Scalar and Element in the program and in the reference. -/
import Derived.Test.YtkebipklcpplaaaDoorMember
import Derived.Test.YtkebipklcpplaaaDoorRefMul
import Derived.Test.YtkebipklcpplaaaDoorSumsWalk3
import Derived.Test.YtkebipklcpplaaaDoorLess
namespace Go.Proofs.YtkebipklcpplaaaDoor
open Go.RowKit Go.Sort
set_option linter.unusedVariables false
namespace Sha
/-- the number of the first bytes -/
def num (l : List UInt8) : Nat → Nat
  | 0 => 0
  | k + 1 => num l k * 256 + (l.getD k 0).toNat
theorem num_lt (l : List UInt8) (k : Nat) : num l k < 256 ^ k := by
  induction k with
  | zero => simp [num]
  | succ k ih =>
    have := UInt8.toNat_lt (l.getD k 0)
    rw [num, Nat.pow_succ]
    omega
/-- the reference's number of the first bytes -/
def rnum (l : List UInt8) : Nat → Nat
  | 0 => (l.getD 0 0).toNat % 128
  | k + 1 => rnum l k * 256 + (l.getD (k + 1) 0).toNat
theorem rnum_eq (l : List UInt8) (k : Nat) : rnum l k = num l (k + 1) % (128 * 256 ^ k) := by
  induction k with
  | zero => simp [rnum, num]
  | succ k ih =>
    rw [rnum, ih, num.eq_2 l (k + 1), Nat.pow_succ]
    have hb := UInt8.toNat_lt (l.getD (k + 1) 0)
    generalize num l (k + 1) = n
    generalize 256 ^ k = m
    generalize (l.getD (k + 1) 0).toNat = b at *
    rw [show 128 * (m * 256) = (128 * m) * 256 by rw [Nat.mul_assoc]]
    generalize 128 * m = q
    rw [Nat.mul_comm q 256, Nat.mod_mul, show (n * 256 + b) % 256 = b by omega, show (n * 256 + b) / 256 = n by omega]
    omega
def number (l : List UInt8) : Nat := num l 8 % 9223372036854775808
theorem number_ref (l : List UInt8) : rnum l 7 = number l := by
  rw [rnum_eq]; rfl
theorem number_lt (l : List UInt8) : number l < 9223372036854775808 := Nat.mod_lt _ (by omega)
end Sha
theorem or64_walk (x y : Nat) (hx : x < 72057594037927936) (hy : y < 256) : bits BinOp.or IntKind.u64 ((x : Int) * 256) (y : Int) = ((x * 256 + y : Nat) : Int) := by
  have e : ((x : Int) * 256) = ((x * 256 : Nat) : Int) := by omega
  rw [e, u64_or_nat _ _ (by omega) (by omega)]
  have h := Nat.two_pow_add_eq_or_of_lt (i := 8) (b := y) (by omega) x
  rw [show (2 : Nat) ^ 8 * x = x * 256 by omega] at h
  rw [← h]
theorem top_walk (x : Nat) (hx : x < 18446744073709551616) : bits BinOp.andNot IntKind.u64 (x : Int) 9223372036854775808 = ((x % 9223372036854775808 : Nat) : Int) := by
  have := u64_andNot_nat x 9223372036854775808 hx (by omega)
  rw [show ((9223372036854775808 : Nat) : Int) = 9223372036854775808 from rfl] at this
  rw [this]
  congr 1
  exact Nat.and_two_pow_sub_one_eq_mod x 63

set_option maxHeartbeats 1000000 in
set_option maxRecDepth 100000 in
theorem number_any (s : ByteArray) (n : Nat) (w : World) (hs : s.size ≤ 140737488355000) (hT : Tabs w) (hn : Sha.number (Sha.sum s.data.toList) = n) :
    Calls Tryd.prog 48 #[.string s] w fun e w' => e = .returned (.int .i64 (n : Int)) ∧ Below w.heap.size w w' := by
  obtain ⟨h, eh, lh⟩ := some_sum s
  rw [eh] at hn
  have EH := Lib.hid eh
  have LH := Lib.hid lh
  have HN := Lib.hid hn
  clear eh lh hn
  go_enter Tryd.func48, Tryd.ntmps48
  go_wp2_with fail
  refine (sum_is s h _ hs hT EH.out).mono ?_
  rintro e w1 ⟨rfl, hb1⟩
  clear hT
  go_wp2_with (refine store_hash LH.out rfl (.tmp 3) (.tmp 7) rfl rfl rfl rfl rfl ?_)
  have hb2 := hb1.alloc hb1.size (.cells (hashArr h) 24)
  have hr := heap_alloc_new w1 (.cells (hashArr h) 24)
  have HB2 := Lib.hid hb2
  have HC : Hid (∀ j, j < 32 → (w1.alloc (.cells (hashArr h) 24)).cell? ⟨w1.heap.size, j, none⟩ = some (.int .u8 ((h.getD j 0).toNat : Int))) := fun j hj => hash_cell LH.out hr j hj
  clear hb1 hb2 hr
  generalize w1.alloc (.cells (hashArr h) 24) = W2 at *
  go_loop [4, 5, 8] (fun n _ i => ∃ k : Nat, k ≤ 8 ∧ i = .int .i64 k ∧ n = .int .u64 (Sha.num h k : Int)) (fun _ _ i => 8 - (intOf i).toNat)
  case atStart => exact ⟨0, by omega, rfl, rfl⟩
  case round =>
    obtain ⟨k, hk, rfl, rfl⟩ := hrel
    have hlt := Sha.num_lt h k
    by_cases hk8 : k < 8
    · have hx : Sha.num h k < 72057594037927936 := by
        have : 256 ^ k ≤ 256 ^ 7 := Nat.pow_le_pow_right (by omega) (by omega)
        omega
      have ck := HC.out k (by omega)
      have hy := UInt8.toNat_lt (h.getD k 0)
      have hst : Sha.num h (k + 1) = Sha.num h k * 256 + (h.getD k 0).toNat := rfl
      obtain ⟨x, ex⟩ : ∃ x, Sha.num h k = x := ⟨_, rfl⟩
      obtain ⟨y, ey⟩ : ∃ y, (h.getD k 0).toNat = y := ⟨_, rfl⟩
      rw [ex, ey] at hst
      rw [ex] at hx ⊢
      rw [ey] at ck hy
      have HO := Lib.hid (or64_walk x y hx hy)
      have HST := Lib.hid hst
      clear hst ex ey hlt
      go_wp2_with fail
      go_round
      case rel => exact ⟨k + 1, by omega, by go_num, by rw [HST.out, HO.out]⟩
      case measure => simp [intOf]; omega
    · have hd8 : decide ((k : Int) < 8) = false := by simp; omega
      have hx : Sha.num h k < 18446744073709551616 := by
        obtain rfl : k = 8 := by omega
        exact hlt
      have hv : Sha.num h k % 9223372036854775808 = n := by
        obtain rfl : k = 8 := by omega
        exact HN.out
      obtain ⟨x, ex⟩ : ∃ x, Sha.num h k = x := ⟨_, rfl⟩
      rw [ex] at hx hv ⊢
      have HO := Lib.hid (top_walk x hx)
      have HV := Lib.hid hv
      have hn63 : n < 9223372036854775808 := by omega
      clear ex hlt hv
      go_wp2_with fail
      go_ret
      refine ⟨ret_int ?_, HB2.out⟩
      rw [HO.out, HV.out]
      simp [wrap64]
      omega
end Go.Proofs.YtkebipklcpplaaaDoor
