/- The contracts of the reference's number, and of Scalar and Element in the program and in the reference. -/
import Derived.Test.YtkebipklcpplaaaDoorNumber
namespace Go.Proofs.YtkebipklcpplaaaDoor
open Go.RowKit Go.Sort
set_option linter.unusedVariables false
set_option maxHeartbeats 1000000 in
set_option maxRecDepth 100000 in
theorem rnumber_any (h : List UInt8) (n : Nat) (w : World) (hl : h.length = 32) (hn : Sha.number h = n) :
    Calls Tryd.prog 52 #[.agg (hashArr h)] w fun e w' => e = .returned (.int .i64 (n : Int)) ∧ Below w.heap.size w w' := by
  have HN := Lib.hid hn
  have LH := Lib.hid hl
  clear hn hl
  have hb2 : Below w.heap.size w (w.alloc (.cells (hashArr h) 24)) := (Below.refl _ _).alloc (Nat.le_refl _) _
  have hr := heap_alloc_new w (.cells (hashArr h) 24)
  have HB2 := Lib.hid hb2
  have HC : Hid (∀ j, j < 32 → (w.alloc (.cells (hashArr h) 24)).cell? ⟨w.heap.size, j, none⟩ = some (.int .u8 ((h.getD j 0).toNat : Int))) := fun j hj => hash_cell LH.out hr j hj
  have c0 := HC.out 0 (by omega)
  have hy0 := UInt8.toNat_lt (h.getD 0 0)
  obtain ⟨y0, ey0⟩ : ∃ y, (h.getD 0 0).toNat = y := ⟨_, rfl⟩
  rw [ey0] at c0 hy0
  have EY0 := Lib.hid ey0
  clear hb2 hr ey0
  go_enter Tryd.func52, Tryd.ntmps52
  go_wp2_with fail
  generalize w.alloc (.cells (hashArr h) 24) = W2 at *
  clear c0
  go_loop [3, 4] (fun n i => ∃ k : Nat, 1 ≤ k ∧ k ≤ 8 ∧ i = .int .i64 k ∧ n = .int .i64 (Sha.rnum h (k - 1) : Int)) (fun _ i => 8 - (intOf i).toNat)
  case atStart => exact ⟨1, by omega, by omega, rfl, by show _ = Value.int .i64 (((h.getD 0 0).toNat % 128 : Nat) : Int); rw [EY0.out]; simp⟩
  case round =>
    obtain ⟨k, hk1, hk, rfl, rfl⟩ := hrel
    have hlt := Sha.num_lt h k
    have hre := Sha.rnum_eq h (k - 1)
    by_cases hk8 : k < 8
    · have hx : Sha.rnum h (k - 1) < 36028797018963968 := by
        rw [hre]
        have h1 : 256 ^ (k - 1) ≤ 256 ^ 6 := Nat.pow_le_pow_right (by omega) (by omega)
        have h2 : 0 < 256 ^ (k - 1) := Nat.pow_pos (by omega)
        have := Nat.mod_lt (Sha.num h (k - 1 + 1)) (show 0 < 128 * 256 ^ (k - 1) by omega)
        omega
      have ck := HC.out k (by omega)
      have hy := UInt8.toNat_lt (h.getD k 0)
      have hst : Sha.rnum h (k + 1 - 1) = Sha.rnum h (k - 1) * 256 + (h.getD k 0).toNat := by
        obtain ⟨j, rfl⟩ : ∃ j, k = j + 1 := ⟨k - 1, by omega⟩
        rfl
      obtain ⟨x, ex⟩ : ∃ x, Sha.rnum h (k - 1) = x := ⟨_, rfl⟩
      obtain ⟨y, ey⟩ : ∃ y, (h.getD k 0).toNat = y := ⟨_, rfl⟩
      rw [ex, ey] at hst
      rw [ex] at hx ⊢
      rw [ey] at ck hy
      have HST := Lib.hid hst
      clear hst ex ey hlt hre
      go_wp2_with fail
      go_round
      case rel => exact ⟨k + 1, by omega, by omega, by go_num, by rw [HST.out]; go_num⟩
      case measure => simp [intOf]; omega
    · have hd8 : decide ((k : Int) < 8) = false := by simp; omega
      have hv : Sha.rnum h (k - 1) = n := by
        obtain rfl : k = 8 := by omega
        rw [← HN.out, ← Sha.number_ref]
      rw [hv]
      clear hre hlt hv
      go_wp2_with fail
      go_ret
      exact ⟨rfl, HB2.out⟩

def scalarN (s : ByteArray) : Nat := Sha.number (Sha.sum ((⟨#[115, 47]⟩ : ByteArray) ++ s).data.toList) % 1152921504606845789
def rootN (s : ByteArray) : Nat := 1 + Sha.number (Sha.sum ((⟨#[101, 47]⟩ : ByteArray) ++ s).data.toList) % 2305843009213691578
theorem size_pre (a b : UInt8) (s : ByteArray) (h : s.size ≤ 140737488354990) : ((⟨#[a, b]⟩ : ByteArray) ++ s).size ≤ 140737488355000 := by
  rw [ByteArray.size_append, show (⟨#[a, b]⟩ : ByteArray).size = 2 from rfl]; omega
theorem scalar_any (s : ByteArray) (v : Nat) (w : World) (hs : s.size ≤ 140737488354990) (hT : Tabs w) (hv : scalarN s = v) :
    Calls Tryd.prog 34 #[.string s] w fun e w' => e = .returned (.int .i64 (v : Int)) ∧ Below w.heap.size w w' := by
  unfold scalarN at hv
  have hlt := Sha.number_lt (Sha.sum ((⟨#[115, 47]⟩ : ByteArray) ++ s).data.toList)
  obtain ⟨n, en⟩ : ∃ n, Sha.number (Sha.sum ((⟨#[115, 47]⟩ : ByteArray) ++ s).data.toList) = n := ⟨_, rfl⟩
  rw [en] at hv hlt
  have EN := Lib.hid en
  have HV := Lib.hid hv
  have HS := Lib.hid (size_pre 115 47 s hs)
  have n1 : ¬ 9223372036854775807 < 2 + s.size := by omega
  clear en hv
  go_enter Tryd.func34, Tryd.ntmps34
  go_wp2_with fail
  refine (number_any _ n _ HS.out hT EN.out).mono ?_
  rintro e w1 ⟨rfl, hb1⟩
  go_wp2_with fail
  refine (residue_any _ _ _ (by omega) (by omega) (by omega) (by omega)).mono ?_
  rintro e w' ⟨rfl, rfl⟩
  go_wp2_with fail
  go_ret
  refine ⟨ret_int ?_, hb1⟩
  rw [← HV.out]; simp
theorem rscalar_any (s : ByteArray) (v : Nat) (w : World) (hs : s.size ≤ 140737488354990) (hv : scalarN s = v) :
    Calls Tryd.prog 35 #[.string s] w fun e w' => e = .returned (.int .i64 (v : Int)) ∧ Below w.heap.size w w' := by
  unfold scalarN at hv
  have hlt := Sha.number_lt (Sha.sum ((⟨#[115, 47]⟩ : ByteArray) ++ s).data.toList)
  obtain ⟨h, eh, lh⟩ := some_sum ((⟨#[115, 47]⟩ : ByteArray) ++ s)
  rw [eh] at hv hlt
  obtain ⟨n, en⟩ : ∃ n, Sha.number h = n := ⟨_, rfl⟩
  rw [en] at hv hlt
  have EN := Lib.hid en
  have EH := Lib.hid eh
  have LH := Lib.hid lh
  have HV := Lib.hid hv
  have HS := Lib.hid (size_pre 115 47 s hs)
  have n1 : ¬ 9223372036854775807 < 2 + s.size := by omega
  clear en hv eh lh
  go_enter Tryd.func35, Tryd.ntmps35
  go_wp2_with fail
  refine (rsum_is _ h _ HS.out EH.out).mono ?_
  rintro e w1 ⟨rfl, hb1⟩
  go_wp2_with fail
  refine (rnumber_any h n _ LH.out EN.out).mono ?_
  rintro e w2 ⟨rfl, hb2⟩
  go_wp2_with fail
  go_ret
  refine ⟨ret_int ?_, below_join hb1 hb2⟩
  rw [← HV.out]; simp
theorem element_any (s : ByteArray) (v : Int) (w : World) (hs : s.size ≤ 140737488354990) (hT : Tabs w) (hv : Num.mulZ (rootN s : Nat) (rootN s : Nat) 2305843009213691579 = v) :
    Calls Tryd.prog 29 #[.string s] w fun e w' => e = .returned (.int .i64 v) ∧ Below w.heap.size w w' := by
  unfold rootN at hv
  have hlt := Sha.number_lt (Sha.sum ((⟨#[101, 47]⟩ : ByteArray) ++ s).data.toList)
  obtain ⟨n, en⟩ : ∃ n, Sha.number (Sha.sum ((⟨#[101, 47]⟩ : ByteArray) ++ s).data.toList) = n := ⟨_, rfl⟩
  rw [en] at hv hlt
  have EN := Lib.hid en
  have HV := Lib.hid hv
  have HS := Lib.hid (size_pre 101 47 s hs)
  have n1 : ¬ 9223372036854775807 < 2 + s.size := by omega
  clear en hv
  go_enter Tryd.func29, Tryd.ntmps29
  go_wp2_with fail
  refine (number_any _ n _ HS.out hT EN.out).mono ?_
  rintro e w1 ⟨rfl, hb1⟩
  go_wp2_with fail
  refine (residue_any _ _ _ (by omega) (by omega) (by omega) (by omega)).mono ?_
  rintro e w' ⟨rfl, rfl⟩
  have hm0 : 0 ≤ (n : Int) % 2305843009213691578 := by omega
  have hm1 : (n : Int) % 2305843009213691578 < 2305843009213691578 := by omega
  go_wp2_with fail
  refine (mul_any _ _ _ _ (by omega) (by omega) (by omega) (by omega) (by omega)).mono ?_
  rintro e w' ⟨rfl, rfl⟩
  go_wp2_with fail
  go_ret
  refine ⟨ret_int ?_, hb1⟩
  rw [← HV.out]; simp
theorem relement_any (s : ByteArray) (v : Int) (w : World) (hs : s.size ≤ 140737488354990) (hv : Num.mulZ (rootN s : Nat) (rootN s : Nat) 2305843009213691579 = v) :
    Calls Tryd.prog 36 #[.string s] w fun e w' => e = .returned (.int .i64 v) ∧ Below w.heap.size w w' := by
  unfold rootN at hv
  have hlt := Sha.number_lt (Sha.sum ((⟨#[101, 47]⟩ : ByteArray) ++ s).data.toList)
  obtain ⟨h, eh, lh⟩ := some_sum ((⟨#[101, 47]⟩ : ByteArray) ++ s)
  rw [eh] at hv hlt
  obtain ⟨n, en⟩ : ∃ n, Sha.number h = n := ⟨_, rfl⟩
  rw [en] at hv hlt
  have EN := Lib.hid en
  have EH := Lib.hid eh
  have LH := Lib.hid lh
  have HV := Lib.hid hv
  have HS := Lib.hid (size_pre 101 47 s hs)
  have n1 : ¬ 9223372036854775807 < 2 + s.size := by omega
  clear en hv eh lh
  go_enter Tryd.func36, Tryd.ntmps36
  go_wp2_with fail
  refine (rsum_is _ h _ HS.out EH.out).mono ?_
  rintro e w1 ⟨rfl, hb1⟩
  go_wp2_with fail
  refine (rnumber_any h n _ LH.out EN.out).mono ?_
  rintro e w2 ⟨rfl, hb2⟩
  have hm0 : 0 ≤ (n : Int) % 2305843009213691578 := by omega
  have hm1 : (n : Int) % 2305843009213691578 < 2305843009213691578 := by omega
  go_wp2_with fail
  refine (rmul_any _ _ _ _ (by omega) (by omega) (by omega) (by omega) (by omega)).mono ?_
  rintro e w' ⟨rfl, rfl⟩
  go_wp2_with fail
  go_ret
  refine ⟨ret_int ?_, below_join hb1 hb2⟩
  rw [← HV.out]; simp

/-! members: plain laws -/
theorem pow_red (p q a : Nat) (hp : 2 ≤ p) (h : a ^ q % p = 1) (n : Nat) : a ^ n % p = a ^ (n % q) % p := by
  have h1 : a ^ q % p = 1 % p := by rw [h, Nat.mod_eq_of_lt (by omega)]
  have e : a ^ n = a ^ (q * (n / q)) * a ^ (n % q) := by rw [← Nat.pow_add, Nat.div_add_mod]
  rw [e, Nat.mul_mod, Num.pow_one_mod h1 (n / q), ← Nat.mul_mod, Nat.one_mul]
/-- a square is a member -/
theorem square_member (q p x : Nat) (hq : q = 1152921504606845789) (hp : p = 2305843009213691579) (h1 : 1 ≤ x) (h2 : x < p) : (x * x % p) ^ q % p = 1 ∧ 1 ≤ x * x % p ∧ x * x % p < p := by
  have hf := Num.fermatP p (2 * q) x hp (by omega) (by omega) h2
  have e : (x * x % p) ^ q % p = 1 := by
    rw [Num.natpow_mod, ← hf, Nat.pow_mul, Nat.pow_two]
  refine ⟨e, ?_, Nat.mod_lt _ (by omega)⟩
  rcases Nat.eq_zero_or_pos (x * x % p) with h | h
  · rw [h, Nat.zero_pow (by omega)] at e; simp at e
  · exact h
/-- a power of a member is a member -/
theorem power_member (q p a n : Nat) (hq : q = 1152921504606845789) (hp : p = 2305843009213691579) (h : a ^ q % p = 1) : (a ^ n % p) ^ q % p = 1 ∧ 1 ≤ a ^ n % p ∧ a ^ n % p < p := by
  have h1 : a ^ q % p = 1 % p := by rw [h, Nat.mod_eq_of_lt (by omega)]
  have e : (a ^ n % p) ^ q % p = 1 := by
    rw [Num.natpow_mod, ← Nat.pow_mul, Nat.mul_comm, Num.pow_one_mod h1 n, Nat.mod_eq_of_lt (by omega)]
  refine ⟨e, ?_, Nat.mod_lt _ (by omega)⟩
  rcases Nat.eq_zero_or_pos (a ^ n % p) with h | h
  · rw [h, Nat.zero_pow (by omega)] at e; simp at e
  · exact h
theorem member_of (q p a : Nat) (hq : q = 1152921504606845789) (hp : p = 2305843009213691579) (h : a ^ q % p = 1) (h1 : 1 ≤ a) (h2 : a < p) : Num.memberZ (a : Int) = true := by
  rw [member_nat q p hq hp (a : Int) (by omega)]
  have : ((a : Int) ^ q % (p : Int)) = ((a ^ q % p : Nat) : Int) := by simp
  rw [this, h]; rfl
theorem powZ_nat (a n m : Nat) (hm : 1 ≤ m) : Num.powZ (a : Int) (n : Int) (m : Int) = ((a ^ n % m : Nat) : Int) := by
  rw [Num.powZ, if_neg (by omega)]; simp
theorem mulZ_nat (a b m : Nat) (hm : 1 ≤ m) : Num.mulZ (a : Int) (b : Int) (m : Int) = ((a * b % m : Nat) : Int) := by
  rw [Num.mulZ, if_neg (by omega)]; simp
theorem addZ_nat (a b m : Nat) (hm : 1 ≤ m) : Num.addZ (a : Int) (b : Int) (m : Int) = (((a + b) % m : Nat) : Int) := by
  rw [Num.addZ, if_neg (by omega)]; simp
end Go.Proofs.YtkebipklcpplaaaDoor
