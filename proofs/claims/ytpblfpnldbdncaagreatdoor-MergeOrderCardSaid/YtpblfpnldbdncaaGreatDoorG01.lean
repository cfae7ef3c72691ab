/- Plain arithmetic for package group: no program in sight. Plain number theory: the signatures of package sign verify. No program in sight. Plain: what Sign and Verify answer, over any scalar of a text; and the texts of receipts. No program in sight. Plain: how a merge judges the receipts of a kiosk, and what that means for chains. No program in sight. Plain: the receipts that the reference makes of numbers, where nothing is wrong: each kiosk's are a chain. No program in sight. Plain: chains that are broken somewhere: those before count, those behind do not. No program in sight. Plain: the state of a merge as functions, and what its calls do to it. No program in sight. Plain: outputs that are learned in any order, states that are equal, and what a chain that was kept is judged. No program in sight. Plain: what Take answers, and which receipts count. No program in sight. Plain: the three ways in which a chain is broken (one is missing, one names another before it, a clone in its place). No program in sight. Plain: receipts and outputs in any order and however often lead to one state (the law of MergeOrder); places of receipts that numbers make. No program in sight. Plain: the reference's outputs (a list in the order of rounds) against the program's (a map). No program in sight. Plain: the count of the law MergeHonest. No program in sight. -/
import Derived.Lib.BitFns
import Derived.WalkSmall
import Derived.Laws.Bits128
import Derived.Lib.ItoaNum
namespace Go.Proofs.YtpblfpnldbdncaaGreatDoor.Num
set_option linter.unusedVariables false

theorem tmod_neg (a m : Int) (hm : 1 ≤ m) (h : a.tmod m < 0) : a.tmod m + m = a % m := by
  have h1 := Int.tmod_eq_emod (a := a) (b := m)
  have h2 := Int.emod_nonneg a (show m ≠ 0 by omega)
  have h3 := Int.emod_lt_of_pos a (show 0 < m by omega)
  have h4 : (m.natAbs : Int) = m := by omega
  split at h1 <;> omega
theorem tmod_pos (a m : Int) (hm : 1 ≤ m) (h : 0 ≤ a.tmod m) : a.tmod m = a % m := by
  have h1 := Int.tmod_eq_emod (a := a) (b := m)
  have h2 := Int.emod_nonneg a (show m ≠ 0 by omega)
  have h3 := Int.emod_lt_of_pos a (show 0 < m by omega)
  have h4 : (m.natAbs : Int) = m := by omega
  split at h1 <;> omega
theorem tmod_lo (a m : Int) (hm : 1 ≤ m) : -m < a.tmod m ∧ a.tmod m < m := by
  have h1 := Int.tmod_eq_emod (a := a) (b := m)
  have h2 := Int.emod_nonneg a (show m ≠ 0 by omega)
  have h3 := Int.emod_lt_of_pos a (show 0 < m by omega)
  have h4 : (m.natAbs : Int) = m := by omega
  by_cases h0 : 0 ≤ a ∨ m ∣ a
  · rw [if_pos h0] at h1; omega
  · rw [if_neg h0] at h1
    have : a % m ≠ 0 := fun h => h0 (Or.inr (Int.dvd_of_emod_eq_zero h))
    omega

theorem plus_ge (x y m : Int) (hx : x < m) (hy : y < m) (h : m ≤ x + y) : x + y - m = (x + y) % m := by
  rw [← Int.emod_eq_of_lt (a := x + y - m) (b := m) (by omega) (by omega), Int.sub_emod_right]
theorem plus_lt (x y m : Int) (hx0 : 0 ≤ x) (hy0 : 0 ≤ y) (h : x + y < m) : x + y = (x + y) % m :=
  (Int.emod_eq_of_lt (by omega) h).symm

theorem lt_bitLen (y : Nat) (h : y < 2 ^ 64) : y < 2 ^ Lib.bitLen y := by
  have aux : ∀ (f y : Nat), y < 2 ^ f → y < 2 ^ Lib.bitLenAux f y := by
    intro f
    induction f with
    | zero => intro y h; simp [Lib.bitLenAux]; simpa using h
    | succ f ih =>
      intro y h
      simp only [Lib.bitLenAux]
      split
      · subst_vars; simp
      · have := ih (y / 2) (by rw [Nat.pow_succ] at h; omega)
        rw [Nat.add_comm, Nat.pow_succ]; omega
  exact aux 64 y h
theorem bitLen_le (y : Nat) : Lib.bitLen y ≤ 64 := by
  have aux : ∀ (f y : Nat), Lib.bitLenAux f y ≤ f := by
    intro f
    induction f with
    | zero => intro y; simp [Lib.bitLenAux]
    | succ f ih => intro y; simp only [Lib.bitLenAux]; split; omega; have := ih (y / 2); omega
  exact aux 64 y

/-- one round of 'double, and add': the bit is 1 -/
theorem round_one (x y m L i : Nat) (hi : i < L) (h : y / 2 ^ (L - 1 - i) % 2 = 1) :
    (((x * (y / 2 ^ (L - i))) % m + (x * (y / 2 ^ (L - i))) % m) % m + x) % m = (x * (y / 2 ^ (L - (i + 1)))) % m := by
  have e : L - i = (L - 1 - i) + 1 := by omega
  have e2 : L - (i + 1) = L - 1 - i := by omega
  rw [e, e2, Nat.pow_succ, ← Nat.div_div_eq_div_mul]
  generalize y / 2 ^ (L - 1 - i) = z at *
  have hz : z = z / 2 + z / 2 + 1 := by omega
  conv => rhs; rw [hz]
  simp only [Nat.mul_add, Nat.mul_one]
  rw [Nat.add_mod, Nat.mod_mod, ← Nat.add_mod, Nat.add_mod (x * (z / 2) % m + _) x, ← Nat.add_mod (x * (z / 2)), ← Nat.add_mod]
theorem round_zero (x y m L i : Nat) (hi : i < L) (h : ¬ y / 2 ^ (L - 1 - i) % 2 = 1) :
    ((x * (y / 2 ^ (L - i))) % m + (x * (y / 2 ^ (L - i))) % m) % m = (x * (y / 2 ^ (L - (i + 1)))) % m := by
  have e : L - i = (L - 1 - i) + 1 := by omega
  have e2 : L - (i + 1) = L - 1 - i := by omega
  rw [e, e2, Nat.pow_succ, ← Nat.div_div_eq_div_mul]
  generalize y / 2 ^ (L - 1 - i) = z at *
  have hz : z = z / 2 + z / 2 := by omega
  conv => rhs; rw [hz]
  rw [Nat.mul_add, ← Nat.add_mod]

/-- what 'double, and add' holds behind k of L rounds -/
def mulAt (x y m L k : Nat) : Nat := x * (y / 2 ^ (L - k)) % m
theorem mulAt_lt (x y m L k : Nat) (h : 0 < m) : mulAt x y m L k < m := Nat.mod_lt _ h
theorem mulAt_start (x y m L : Nat) (h : y < 2 ^ L) : mulAt x y m L 0 = 0 := by simp [mulAt, Nat.div_eq_of_lt h]
/-- the product modulo m -/
def mulN (x y m : Nat) : Nat := x * y % m
theorem mulAt_end (x y m L : Nat) : mulAt x y m L L = mulN x y m := by simp [mulAt, mulN]
theorem mulN_lt (x y m : Nat) (h : 0 < m) : mulN x y m < m := Nat.mod_lt _ h
theorem mulAt_one (x y m L i : Nat) (hi : i < L) (h : y / 2 ^ (L - 1 - i) % 2 = 1) : ((mulAt x y m L i + mulAt x y m L i) % m + x) % m = mulAt x y m L (i + 1) := round_one x y m L i hi h
theorem mulAt_zero (x y m L i : Nat) (hi : i < L) (h : ¬ y / 2 ^ (L - 1 - i) % 2 = 1) : (mulAt x y m L i + mulAt x y m L i) % m = mulAt x y m L (i + 1) := round_zero x y m L i hi h
theorem mul_final (a b : Int) (x y m : Nat) (ha : a % (m : Int) = x) (hb : b % (m : Int) = y) : ((mulN x y m : Nat) : Int) = a * b % m := by
  rw [mulN, Int.natCast_emod, Int.natCast_mul, ← ha, ← hb, ← Int.mul_emod]

theorem mulAt_one' (x y m L i : Nat) (hi : i < L) (h : y / 2 ^ (L - 1 - i) % 2 = 1) : ((mulAt x y m L i : Nat) + (mulAt x y m L i : Nat) + (x : Int)) % (m : Int) = (mulAt x y m L (i + 1) : Nat) := by
  rw [← mulAt_one x y m L i hi h]; simp
theorem mulAt_zero' (x y m L i : Nat) (hi : i < L) (h : ¬ y / 2 ^ (L - 1 - i) % 2 = 1) : ((mulAt x y m L i : Nat) + (mulAt x y m L i : Nat) : Int) % (m : Int) = (mulAt x y m L (i + 1) : Nat) := by
  rw [← mulAt_zero x y m L i hi h]; simp
theorem bit_cast (y k : Nat) : ((y : Int) / 2 ^ k) = ((y / 2 ^ k : Nat) : Int) := by simp

theorem bit_true (y k : Nat) (hy : y < 18446744073709551616) (h : y / 2 ^ k % 2 = 1) : (bits BinOp.and IntKind.u64 ((y : Int) / 2 ^ k) 1 == 1) = true := by
  have hd := Nat.div_le_self y (2 ^ k)
  rw [bit_cast]
  generalize y / 2 ^ k = z at *
  rw [and_one_u64 _ (by omega) (by omega)]
  simp; omega
theorem bit_false (y k : Nat) (hy : y < 18446744073709551616) (h : ¬ y / 2 ^ k % 2 = 1) : (bits BinOp.and IntKind.u64 ((y : Int) / 2 ^ k) 1 == 1) = false := by
  have hd := Nat.div_le_self y (2 ^ k)
  rw [bit_cast]
  generalize y / 2 ^ k = z at *
  rw [and_one_u64 _ (by omega) (by omega)]
  simp; omega

/-! what the functions of package group compute, for every argument -/
def addZ (a b m : Int) : Int := if m < 1 then 0 else (a + b) % m
def subZ (a b m : Int) : Int := if m < 1 then 0 else (a - b) % m
def mulZ (a b m : Int) : Int := if m < 1 then 0 else a * b % m
def powZ (a n m : Int) : Int := if m < 1 ∨ n < 0 then 0 else a ^ n.toNat % m
theorem natres (a m : Int) (h : 1 ≤ m) : ∃ x M : Nat, m = M ∧ a % (M : Int) = x ∧ x < M ∧ 1 ≤ M :=
  ⟨(a % m).toNat, m.toNat, by omega, by
    have e1 := Int.emod_nonneg a (show m ≠ 0 by omega)
    rw [Int.toNat_of_nonneg (by omega : 0 ≤ m)]; omega, by
    have e1 := Int.emod_nonneg a (show m ≠ 0 by omega)
    have e2 := Int.emod_lt_of_pos a (show 0 < m by omega)
    omega, by omega⟩
theorem natres2 (a b m : Int) (h : 1 ≤ m) : ∃ x y M : Nat, m = M ∧ a % (M : Int) = x ∧ b % (M : Int) = y ∧ x < M ∧ y < M ∧ 1 ≤ M := by
  obtain ⟨x, M, e, hx, hl, h1⟩ := natres a m h
  subst e
  obtain ⟨y, M', e', hy, hl', _⟩ := natres b M h
  obtain rfl : M = M' := by omega
  exact ⟨x, y, M, rfl, hx, hy, hl, hl', h1⟩

theorem pow_emod (x m : Int) (k : Nat) : (x % m) ^ k % m = x ^ k % m := by
  induction k with
  | zero => simp
  | succ k ih => rw [Int.pow_succ, Int.pow_succ, Int.mul_emod, ih, Int.emod_emod, ← Int.mul_emod]
theorem powL_odd (p a m : Int) (k : Nat) (h : k % 2 = 1) : (p * a % m) * (a * a % m) ^ (k / 2) % m = p * a ^ k % m := by
  have e : k = (k / 2 + k / 2) + 1 := by omega
  conv => rhs; rw [e, Int.pow_succ, Int.pow_add, ← Int.mul_pow]
  rw [Int.mul_emod, Int.emod_emod, pow_emod, ← Int.mul_emod, Int.mul_assoc, Int.mul_comm a]
theorem powL_even (p a m : Int) (k : Nat) (h : k % 2 = 0) : p * (a * a % m) ^ (k / 2) % m = p * a ^ k % m := by
  have e : k = (k / 2 + k / 2) := by omega
  conv => rhs; rw [e, Int.pow_add, ← Int.mul_pow]
  rw [Int.mul_emod, pow_emod, ← Int.mul_emod]

/-! 'double, and add' from the least bit on -/
theorem mulL_odd (o x y m : Nat) (h : y % 2 = 1) : ((o + x) % m + ((x + x) % m) * (y / 2)) % m = (o + x * y) % m := by
  have e : y = y / 2 + y / 2 + 1 := by omega
  conv => rhs; rw [e, Nat.mul_add, Nat.mul_add, Nat.mul_one]
  rw [Nat.add_mod, Nat.mod_mod, Nat.mod_mul_mod, ← Nat.add_mod, Nat.add_mul]
  congr 1; omega
theorem mulL_even (o x y m : Nat) (h : y % 2 = 0) : (o + ((x + x) % m) * (y / 2)) % m = (o + x * y) % m := by
  have e : y = y / 2 + y / 2 := by omega
  conv => rhs; rw [e, Nat.mul_add]
  rw [Nat.add_mod, Nat.mod_mul_mod, ← Nat.add_mod, Nat.add_mul]

/-! powers modulo m that the kernel can reckon -/
def powMod : Nat → Nat → Nat → Nat → Nat
  | 0, _, _, m => 1 % m
  | f + 1, b, e, m => if e = 0 then 1 % m else if e % 2 = 1 then powMod f (b * b % m) (e / 2) m * b % m else powMod f (b * b % m) (e / 2) m
theorem natpow_mod (x m k : Nat) : (x % m) ^ k % m = x ^ k % m := by rw [← Nat.pow_mod]
theorem powMod_eq (f : Nat) : ∀ b e m : Nat, e < 2 ^ f → powMod f b e m = b ^ e % m := by
  induction f with
  | zero => intro b e m h; obtain rfl : e = 0 := by simpa using h
            simp [powMod]
  | succ f ih =>
    intro b e m h
    unfold powMod
    by_cases h0 : e = 0
    · subst h0; simp
    · rw [if_neg h0, ih _ _ _ (by rw [Nat.pow_succ] at h; omega), natpow_mod]
      split
      · have e2 : e = e / 2 + e / 2 + 1 := by omega
        conv => rhs; rw [e2, Nat.pow_succ, Nat.pow_add, ← Nat.mul_pow]
        rw [Nat.mod_mul_mod]
      · have e2 : e = e / 2 + e / 2 := by omega
        conv => rhs; rw [e2, Nat.pow_add, ← Nat.mul_pow]
theorem powZ_eq (b e m : Nat) (h1 : 1 ≤ m) (h : e < 2 ^ 64) : powZ b e m = (powMod 64 b e m : Nat) := by
  rw [powZ, if_neg (by omega), powMod_eq 64 b e m h, Int.toNat_natCast]; simp

/-! masks of an int -/
theorem and1 (n : Int) : bits .and .i64 n 1 = n % 2 := by
  have h127 : (BitVec.ofInt 64 1).toNat = 2 ^ 1 - 1 := by decide
  have key : (BitVec.ofInt 64 n &&& BitVec.ofInt 64 1).toNat = (n % ((2 ^ 64 : Nat) : Int)).toNat % 2 ^ 1 := by
    rw [BitVec.toNat_and, BitVec.toNat_ofInt, h127, Nat.and_two_pow_sub_one_eq_mod]
  show IntKind.i64.wrap ((BitVec.ofInt 64 n &&& BitVec.ofInt 64 1).toNat : Nat) = n % 2
  rw [key, IntKind.wrap_i64]
  omega
theorem and6 (n : Int) : bits .and .i64 n 63 = n % 64 := by
  have h127 : (BitVec.ofInt 64 63).toNat = 2 ^ 6 - 1 := by decide
  have key : (BitVec.ofInt 64 n &&& BitVec.ofInt 64 63).toNat = (n % ((2 ^ 64 : Nat) : Int)).toNat % 2 ^ 6 := by
    rw [BitVec.toNat_and, BitVec.toNat_ofInt, h127, Nat.and_two_pow_sub_one_eq_mod]
  show IntKind.i64.wrap ((BitVec.ofInt 64 n &&& BitVec.ofInt 64 63).toNat : Nat) = n % 64
  rw [key, IntKind.wrap_i64]
  omega
theorem and10 (n : Int) : bits .and .i64 n 1023 = n % 1024 := by
  have h127 : (BitVec.ofInt 64 1023).toNat = 2 ^ 10 - 1 := by decide
  have key : (BitVec.ofInt 64 n &&& BitVec.ofInt 64 1023).toNat = (n % ((2 ^ 64 : Nat) : Int)).toNat % 2 ^ 10 := by
    rw [BitVec.toNat_and, BitVec.toNat_ofInt, h127, Nat.and_two_pow_sub_one_eq_mod]
  show IntKind.i64.wrap ((BitVec.ofInt 64 n &&& BitVec.ofInt 64 1023).toNat : Nat) = n % 1024
  rw [key, IntKind.wrap_i64]
  omega
theorem and20 (n : Int) : bits .and .i64 n 1048575 = n % 1048576 := by
  have h127 : (BitVec.ofInt 64 1048575).toNat = 2 ^ 20 - 1 := by decide
  have key : (BitVec.ofInt 64 n &&& BitVec.ofInt 64 1048575).toNat = (n % ((2 ^ 64 : Nat) : Int)).toNat % 2 ^ 20 := by
    rw [BitVec.toNat_and, BitVec.toNat_ofInt, h127, Nat.and_two_pow_sub_one_eq_mod]
  show IntKind.i64.wrap ((BitVec.ofInt 64 n &&& BitVec.ofInt 64 1048575).toNat : Nat) = n % 1048576
  rw [key, IntKind.wrap_i64]
  omega
theorem and60 (n : Int) : bits .and .i64 n 1152921504606846975 = n % 1152921504606846976 := by
  have h127 : (BitVec.ofInt 64 1152921504606846975).toNat = 2 ^ 60 - 1 := by decide
  have key : (BitVec.ofInt 64 n &&& BitVec.ofInt 64 1152921504606846975).toNat = (n % ((2 ^ 64 : Nat) : Int)).toNat % 2 ^ 60 := by
    rw [BitVec.toNat_and, BitVec.toNat_ofInt, h127, Nat.and_two_pow_sub_one_eq_mod]
  show IntKind.i64.wrap ((BitVec.ofInt 64 n &&& BitVec.ofInt 64 1152921504606846975).toNat : Nat) = n % 1152921504606846976
  rw [key, IntKind.wrap_i64]
  omega
theorem and61 (n : Int) : bits .and .i64 n 2305843009213693951 = n % 2305843009213693952 := by
  have h127 : (BitVec.ofInt 64 2305843009213693951).toNat = 2 ^ 61 - 1 := by decide
  have key : (BitVec.ofInt 64 n &&& BitVec.ofInt 64 2305843009213693951).toNat = (n % ((2 ^ 64 : Nat) : Int)).toNat % 2 ^ 61 := by
    rw [BitVec.toNat_and, BitVec.toNat_ofInt, h127, Nat.and_two_pow_sub_one_eq_mod]
  show IntKind.i64.wrap ((BitVec.ofInt 64 n &&& BitVec.ofInt 64 2305843009213693951).toNat : Nat) = n % 2305843009213693952
  rw [key, IntKind.wrap_i64]
  omega
theorem and62 (n : Int) : bits .and .i64 n 4611686018427387903 = n % 4611686018427387904 := by
  have h127 : (BitVec.ofInt 64 4611686018427387903).toNat = 2 ^ 62 - 1 := by decide
  have key : (BitVec.ofInt 64 n &&& BitVec.ofInt 64 4611686018427387903).toNat = (n % ((2 ^ 64 : Nat) : Int)).toNat % 2 ^ 62 := by
    rw [BitVec.toNat_and, BitVec.toNat_ofInt, h127, Nat.and_two_pow_sub_one_eq_mod]
  show IntKind.i64.wrap ((BitVec.ofInt 64 n &&& BitVec.ofInt 64 4611686018427387903).toNat : Nat) = n % 4611686018427387904
  rw [key, IntKind.wrap_i64]
  omega

/-! the extended algorithm of Euclid -/
/-- i is the inverse of a modulo m, if ok; else there is none. -/
def InvIs (a m i : Int) (ok : Bool) : Prop := (ok = true ∧ 2 ≤ m ∧ 0 ≤ i ∧ i < m ∧ a * i % m = 1) ∨ (ok = false ∧ i = 0 ∧ ∀ j, 2 ≤ m → a * j % m ≠ 1)
theorem InvIs.unique {a m i j : Int} {p q : Bool} (h : InvIs a m i p) (k : InvIs a m j q) : i = j ∧ p = q := by
  rcases h with ⟨rfl, h1, h2, h3, h4⟩ | ⟨rfl, rfl, h1⟩ <;> rcases k with ⟨rfl, k1, k2, k3, k4⟩ | ⟨rfl, rfl, k1⟩
  · refine ⟨?_, rfl⟩
    have e : a * i * j % m = a * j * i % m := by rw [Int.mul_assoc, Int.mul_comm i, ← Int.mul_assoc]
    rw [Int.mul_emod, h4, Int.mul_emod (a * j), k4, Int.one_mul, Int.one_mul, Int.emod_emod, Int.emod_emod, Int.emod_eq_of_lt k2 k3, Int.emod_eq_of_lt h2 h3] at e
    exact e.symm
  · exact absurd h4 (k1 i h1)
  · exact absurd k4 (h1 j k1)
  · exact ⟨rfl, rfl⟩

theorem inv_none (a : Int) (m r : Nat) (hr : a % (m : Int) = r) (hm : 2 ≤ m) (h : Nat.gcd m r ≠ 1) (j : Int) : a * j % (m : Int) ≠ 1 := by
  intro e
  have h1 : ((Nat.gcd m r : Nat) : Int) ∣ (m : Int) := Int.natCast_dvd_natCast.2 (Nat.gcd_dvd_left m r)
  have h2 : ((Nat.gcd m r : Nat) : Int) ∣ a := by
    have h3 : ((Nat.gcd m r : Nat) : Int) ∣ (r : Int) := Int.natCast_dvd_natCast.2 (Nat.gcd_dvd_right m r)
    rw [← hr] at h3
    have := Int.emod_add_mul_ediv a m
    rw [← this]
    exact Int.dvd_add h3 (Int.dvd_trans h1 (Int.dvd_mul_right _ _))
  have h4 : ((Nat.gcd m r : Nat) : Int) ∣ 1 := by
    rw [← e, Int.emod_def]
    exact Int.dvd_sub (Int.dvd_trans h2 (Int.dvd_mul_right _ _)) (Int.dvd_trans h1 (Int.dvd_mul_right _ _))
  have h5 : Nat.gcd m r ∣ 1 := by exact_mod_cast h4
  exact h (Nat.dvd_one.1 h5)

/-- the state of the extended algorithm: x, y: the rests; s, t: the coefficients. -/
def Eu (a : Int) (m x y : Nat) (s t : Int) : Prop :=
  1 ≤ x ∧ y < x ∧ (m : Int) ∣ s * a - x ∧ (m : Int) ∣ t * a - y ∧ ∃ u v : Nat, u * y + v * x = m ∧ ((s = -u ∧ t = v) ∨ (s = u ∧ t = -v))
theorem Eu.bounds {a : Int} {m x y : Nat} {s t : Int} (h : Eu a m x y s t) : -(m : Int) ≤ t ∧ t ≤ m ∧ (1 ≤ y → -(m : Int) ≤ s ∧ s ≤ m) := by
  obtain ⟨h1, h2, _, _, u, v, e, hs⟩ := h
  have hv : v ≤ m := by
    have : v * 1 ≤ v * x := Nat.mul_le_mul_left v h1
    omega
  have hu : 1 ≤ y → u ≤ m := fun hy => by
    have : u * 1 ≤ u * y := Nat.mul_le_mul_left u hy
    omega
  refine ⟨by omega, by omega, fun hy => ?_⟩
  have := hu hy
  omega
theorem Eu.step {a : Int} {m x y : Nat} {s t : Int} (h : Eu a m x y s t) (hy : 1 ≤ y) : Eu a m y (x % y) t (s - (x / y : Nat) * t) ∧ -(m : Int) ≤ (x / y : Nat) * t ∧ (x / y : Nat) * t ≤ m := by
  obtain ⟨h1, h2, h3, h4, u, v, e, hs⟩ := h
  have hd := Nat.div_add_mod x y
  have hsum : v * (x % y) + (u + x / y * v) * y = m := by
    rw [← e]
    conv => rhs; rw [← hd]
    rw [Nat.add_mul, Nat.mul_add, Nat.mul_assoc, Nat.mul_comm v y, ← Nat.mul_assoc, Nat.mul_comm (x / y) y, Nat.mul_comm (y * (x / y)) v]
    omega
  have hle : u + x / y * v ≤ m := by
    have : (u + x / y * v) * 1 ≤ (u + x / y * v) * y := Nat.mul_le_mul_left _ hy
    omega
  have hle' : x / y * v ≤ m := by omega
  have hdc : ((x % y : Nat) : Int) = x - (x / y : Nat) * y := by
    have : ((y * (x / y) + x % y : Nat) : Int) = x := by rw [hd]
    rw [Int.natCast_add, Int.natCast_mul] at this
    rw [Int.mul_comm]; omega
  have hpos : (((x / y : Nat) : Int) * v) = ((x / y * v : Nat) : Int) := by rw [Int.natCast_mul]
  refine ⟨⟨hy, Nat.mod_lt _ hy, h4, ?_, v, u + x / y * v, hsum, ?_⟩, ?_, ?_⟩
  · rw [hdc]
    have e2 : (s - (x / y : Nat) * t) * a - ((x : Int) - (x / y : Nat) * y) = (s * a - x) - (x / y : Nat) * (t * a - y) := by
      rw [Int.sub_mul, Int.mul_sub, Int.mul_assoc]; omega
    rw [e2]
    exact Int.dvd_sub h3 (Int.dvd_trans h4 (Int.dvd_mul_left _ _))
  · rcases hs with ⟨rfl, rfl⟩ | ⟨rfl, rfl⟩
    · right
      refine ⟨rfl, ?_⟩
      rw [hpos]; omega
    · left
      refine ⟨rfl, ?_⟩
      rw [Int.mul_neg, hpos]; omega
  · rcases hs with ⟨rfl, rfl⟩ | ⟨rfl, rfl⟩
    · rw [hpos]; omega
    · rw [Int.mul_neg, hpos]; omega
  · rcases hs with ⟨rfl, rfl⟩ | ⟨rfl, rfl⟩
    · rw [hpos]; omega
    · rw [Int.mul_neg, hpos]; omega
theorem Eu.step' {a : Int} {m x y : Nat} {s t : Int} (h : Eu a m x y s t) (hy : 1 ≤ y) : Eu a m y (x % y) t (s - (x : Int) / y * t) ∧ -(m : Int) ≤ (x : Int) / y * t ∧ (x : Int) / y * t ≤ m ∧ 0 ≤ (x : Int) / y ∧ (x : Int) / y ≤ x ∧ 0 ≤ (x : Int) % y ∧ (x : Int) % y < y := by
  have e : ((x : Int) / y) = ((x / y : Nat) : Int) := by simp
  rw [e]
  obtain ⟨h1, h2, h3⟩ := h.step hy
  have := Nat.div_le_self x y
  exact ⟨h1, h2, h3, Int.natCast_nonneg _, Int.ofNat_le.2 this, Int.emod_nonneg _ (by omega), Int.emod_lt_of_pos _ (by omega)⟩
theorem gcd_step (x y g : Nat) (h : Nat.gcd x y = g) : Nat.gcd y (x % y) = g := by
  rw [← h, Nat.gcd_comm y, ← Nat.gcd_rec, Nat.gcd_comm]
theorem Eu.start (a : Int) (m r : Nat) (hr : a % (m : Int) = r) (hm : 2 ≤ m) : Eu a m m r 0 1 := by
  refine ⟨by omega, ?_, ?_, ?_, 0, 1, by simp, Or.inl ⟨rfl, rfl⟩⟩
  · have := Int.emod_lt_of_pos a (show 0 < (m : Int) by omega); omega
  · simp
  · rw [Int.one_mul, ← hr, Int.emod_def]
    exact ⟨a / m, by omega⟩
theorem dvd_one_emod (a s m : Int) (hm : 2 ≤ m) (h : m ∣ s * a - 1) : a * (s % m) % m = 1 := by
  obtain ⟨k, hk⟩ := h
  rw [Int.mul_emod, Int.emod_emod, ← Int.mul_emod, Int.mul_comm, show s * a = 1 + m * k by omega, Int.add_mul_emod_self_left]
  exact Int.emod_eq_of_lt (by omega) (by omega)
theorem inv_yes (a s : Int) (m : Nat) (hm : 2 ≤ m) (h : (m : Int) ∣ s * a - (1 : Nat)) : InvIs a m (s % m) true :=
  Or.inl ⟨rfl, by omega, Int.emod_nonneg _ (by omega), Int.emod_lt_of_pos _ (by omega), dvd_one_emod a s m (by omega) h⟩
theorem inv_no (a : Int) (m r x : Nat) (hr : a % (m : Int) = r) (hm : 2 ≤ m) (hx : Nat.gcd x 0 = Nat.gcd m r) (h1 : x ≠ 1) : InvIs a m 0 false :=
  Or.inr ⟨rfl, rfl, fun j _ => inv_none a m r hr hm (by rw [← hx, Nat.gcd_zero_right]; exact h1) j⟩
theorem inv_small (a m : Int) (hm : m < 2) : InvIs a m 0 false := Or.inr ⟨rfl, rfl, fun _ h => by omega⟩

/-- the state of the reference's algorithm -/
def Ru (a : Int) (m x y : Nat) (s t : Int) : Prop := (m : Int) ∣ s * a - x ∧ (m : Int) ∣ t * a - y
theorem Ru.start (a : Int) (m r : Nat) (hr : a % (m : Int) = r) (hm : 2 ≤ m) : Ru a m m r 0 1 := by
  obtain ⟨_, _, h1, h2, _⟩ := Eu.start a m r hr hm
  exact ⟨h1, h2⟩
theorem quot_bd (x y : Nat) (hy : 0 < y) : 0 ≤ (x : Int) / y ∧ (x : Int) / y ≤ x ∧ 0 ≤ (x : Int) - (x : Int) / y * y ∧ (x : Int) - (x : Int) / y * y < y ∧ 0 ≤ (x : Int) / y * y ∧ (x : Int) / y * y ≤ x := by
  have e : ((x : Int) / y) = ((x / y : Nat) : Int) := by simp
  have h1 := Nat.div_le_self x y
  have h2 := Int.emod_nonneg (x : Int) (show (y : Int) ≠ 0 by omega)
  have h3 := Int.emod_lt_of_pos (x : Int) (show 0 < (y : Int) by omega)
  have h4 := Int.emod_def (x : Int) y
  rw [Int.mul_comm] at h4
  have h5 : 0 ≤ (x : Int) / y * y := by rw [e, ← Int.natCast_mul]; exact Int.natCast_nonneg _
  refine ⟨by rw [e]; exact Int.natCast_nonneg _, by rw [e]; exact Int.ofNat_le.2 h1, by omega, by omega, h5, by omega⟩
theorem rest_eq (x y : Nat) : (x : Int) - (x : Int) / y * y = ((x % y : Nat) : Int) := by
  rw [Int.natCast_emod, Int.emod_def, Int.mul_comm]
theorem Ru.step {a : Int} {m x y : Nat} {s t : Int} (hm : 1 ≤ (m : Int)) (h : Ru a m x y s t) : Ru a m y (x % y) t (subZ s (mulZ ((x : Int) / y) t m) m) := by
  refine ⟨h.2, ?_⟩
  rw [← rest_eq, subZ, if_neg (by omega), mulZ, if_neg (by omega)]
  have e : ∃ k, (s - (x : Int) / y * t % m) % m = s - (x : Int) / y * t + m * k := by
    rw [Int.emod_def (s - _), Int.emod_def ((x : Int) / y * t)]
    exact ⟨(x : Int) / y * t / m - (s - ((x : Int) / y * t - m * ((x : Int) / y * t / m))) / m, by rw [Int.mul_sub]; omega⟩
  obtain ⟨k, hk⟩ := e
  rw [hk]
  have e2 : (s - (x : Int) / y * t + m * k) * a - ((x : Int) - (x : Int) / y * y) = ((s * a - x) - (x : Int) / y * (t * a - y)) + m * (k * a) := by
    rw [Int.add_mul, Int.sub_mul, Int.mul_sub, Int.mul_assoc ((x : Int) / y) t a, Int.mul_assoc (m : Int)]; omega
  rw [e2]
  exact Int.dvd_add (Int.dvd_sub h.1 (Int.dvd_trans h.2 (Int.dvd_mul_left _ _))) (Int.dvd_mul_right _ _)
end Go.Proofs.YtpblfpnldbdncaaGreatDoor.Num
namespace Go.Proofs.YtpblfpnldbdncaaGreatDoor.Sg
set_option linter.unusedVariables false
/-- G has the order Q -/
theorem gq (q p : Nat) (hq : q = 1152921504606845789) (hp : p = 2305843009213691579) : 4 ^ q % p = 1 := by
  have h := Num.powMod_eq 64 4 q p (by omega)
  rw [← h, hq, hp]
  decide +kernel
theorem pow_order {g q p : Nat} (hp : 1 < p) (h : g ^ q % p = 1) (s k : Nat) : g ^ (q * k + s) % p = g ^ s % p := by
  rw [Nat.pow_add, Nat.pow_mul, Nat.mul_mod, Nat.pow_mod, h, Nat.one_pow, Nat.mod_eq_of_lt hp, Nat.one_mul, Nat.mod_mod]
/-- what Sign makes, Verify takes -/
theorem verify_sign (q p x n e : Nat) (hq : q = 1152921504606845789) (hp : p = 2305843009213691579) :
    4 ^ ((n + x * e % q) % q) % p = (4 ^ n % p) * ((4 ^ x % p) ^ e % p) % p := by
  have hg := gq q p hq hp
  have h1 : (4 ^ n % p) * ((4 ^ x % p) ^ e % p) % p = 4 ^ (n + x * e) % p := by
    rw [← Nat.pow_mod, ← Nat.mul_mod, ← Nat.pow_mul, ← Nat.pow_add]
  rw [h1, Nat.add_mod_mod]
  have h2 := Nat.div_add_mod (n + x * e) q
  have h3 := pow_order (by omega) hg ((n + x * e) % q) ((n + x * e) / q)
  rw [h2] at h3
  exact h3.symm
/-- public keys are members -/
theorem pow_member (q p x : Nat) (hq : q = 1152921504606845789) (hp : p = 2305843009213691579) :
    1 ≤ 4 ^ x % p ∧ 4 ^ x % p ≤ 2305843009213691578 ∧ (4 ^ x % p) ^ q % p = 1 := by
  have hg := gq q p hq hp
  have h1 : (4 ^ x % p) ^ q % p = 1 := by
    rw [← Nat.pow_mod, ← Nat.pow_mul, Nat.mul_comm, Nat.pow_mul, Nat.pow_mod, hg, Nat.one_pow, Nat.mod_eq_of_lt (by omega)]
  refine ⟨?_, ?_, h1⟩
  · refine Nat.pos_of_ne_zero fun h0 => ?_
    rw [h0, Nat.zero_pow (by omega), Nat.zero_mod] at h1
    omega
  · have := Nat.mod_lt (4 ^ x) (show 0 < p by omega)
    omega
end Go.Proofs.YtpblfpnldbdncaaGreatDoor.Sg
namespace Go.Proofs.YtpblfpnldbdncaaGreatDoor.Sg
set_option linter.unusedVariables false
/-- the 8 bytes of a number -/
def b8 (n : Nat) : List UInt8 := (List.range 8).map fun i => UInt8.ofNat (n / 2 ^ (8 * (7 - i)))
variable (sc : List UInt8 → Nat)
def chal (r y : Nat) (t : List UInt8) : Nat := sc (99 :: (b8 r ++ b8 y ++ t))
def nonce (x : Nat) (t : List UInt8) : Nat := max (sc (110 :: (b8 x ++ t))) 1
/-- the two numbers of a signature -/
def sigR (p x : Nat) (t : List UInt8) : Nat := 4 ^ nonce sc x t % p
def sigS (q p x : Nat) (t : List UInt8) : Nat := (nonce sc x t + x * chal sc (sigR sc p x t) (4 ^ x % p) t % q) % q
def mem (q p : Nat) (a : Int) : Bool := decide (1 ≤ a ∧ a ≤ 2305843009213691578) && (a.toNat ^ q % p == 1)
/-- what Verify answers -/
def ver (q p : Nat) (y : Int) (t : List UInt8) (r s : Int) : Bool :=
  mem q p y && mem q p r && decide (0 ≤ s) && decide (s < (q : Int)) && (4 ^ s.toNat % p == r.toNat * (y.toNat ^ chal sc r.toNat y.toNat t % p) % p)
theorem mem_pow (q p x : Nat) (hq : q = 1152921504606845789) (hp : p = 2305843009213691579) : mem q p ((4 ^ x % p : Nat) : Int) = true := by
  obtain ⟨h1, h2, h3⟩ := pow_member q p x hq hp
  unfold mem
  rw [Int.toNat_natCast, h3]
  generalize 4 ^ x % p = y at *
  simp
  omega
/-- what Sign makes verifies -/
theorem ver_sign (q p x : Nat) (t : List UInt8) (hq : q = 1152921504606845789) (hp : p = 2305843009213691579) :
    ver sc q p ((4 ^ x % p : Nat) : Int) t ((sigR sc p x t : Nat) : Int) ((sigS sc q p x t : Nat) : Int) = true := by
  have h1 := mem_pow q p x hq hp
  have h2 : mem q p ((sigR sc p x t : Nat) : Int) = true := mem_pow q p _ hq hp
  have h3 : sigS sc q p x t < q := Nat.mod_lt _ (by omega)
  have h4 := verify_sign q p x (nonce sc x t) (chal sc (sigR sc p x t) (4 ^ x % p) t) hq hp
  unfold ver
  rw [h1, h2, Int.toNat_natCast, Int.toNat_natCast, Int.toNat_natCast]
  have h5 : 4 ^ sigS sc q p x t % p = sigR sc p x t * ((4 ^ x % p) ^ chal sc (sigR sc p x t) (4 ^ x % p) t % p) % p := h4
  rw [h5]
  generalize sigS sc q p x t = s at *
  simp
  omega
/-- a receipt -/
structure Rc where
  kiosk : Int
  serial : Int
  draw : List UInt8
  seen : Int
  output : List UInt8
  hash : List UInt8
  prev : List UInt8
  r : Int
  s : Int
deriving DecidableEq
def hexDigit (n : Nat) : UInt8 := if n < 10 then UInt8.ofNat (48 + n) else UInt8.ofNat (87 + n)
def hex (h : List UInt8) : List UInt8 := h.flatMap fun x => [hexDigit (x.toNat / 16), hexDigit (x.toNat % 16)]
/-- "receipt", and the words of its body -/
def Rc.body (c : Rc) : List UInt8 :=
  [114, 101, 99, 101, 105, 112, 116, 32] ++ Lib.itoa c.kiosk ++ [32] ++ Lib.itoa c.serial ++ [32] ++ Lib.itoa c.seen ++ [32] ++ hex c.output ++ [32] ++ hex c.hash ++ [32] ++ hex c.prev ++ [32] ++ c.draw
def Rc.text (c : Rc) : List UInt8 := Lib.itoa c.r ++ [46] ++ Lib.itoa c.s ++ [32] ++ c.body
/-- signed with a secret -/
def Rc.signed (q p x : Nat) (c : Rc) : Rc := { c with r := (sigR sc p x c.body : Nat), s := (sigS sc q p x c.body : Nat) }
theorem Rc.body_signed (q p x : Nat) (c : Rc) : (c.signed sc q p x).body = c.body := rfl
theorem Rc.verified (q p x : Nat) (c : Rc) (hq : q = 1152921504606845789) (hp : p = 2305843009213691579) :
    ver sc q p ((4 ^ x % p : Nat) : Int) (c.signed sc q p x).body (c.signed sc q p x).r (c.signed sc q p x).s = true := ver_sign sc q p x c.body hq hp
end Go.Proofs.YtpblfpnldbdncaaGreatDoor.Sg
namespace Go.Proofs.YtpblfpnldbdncaaGreatDoor.Mg
open Sg
set_option linter.unusedVariables false
abbrev H := List UInt8
def zeroH : H := List.replicate 32 0
/-- a receipt that is kept, with its hash -/
structure Pap where
  rc : Rc
  h : H
structure Jd where
  rc : Rc
  h : H
  sound : Bool
  back : Bool
  counts : Bool
def soundOf (last : Option Jd) (p : Pap) : Bool :=
  if p.rc.serial = 1 then decide (p.rc.prev = zeroH) else
  match last with
  | none => false
  | some b => b.sound && decide (b.rc.serial = p.rc.serial - 1) && decide (b.h = p.rc.prev)
def backOf (last : Option Jd) (most : Int) (p : Pap) : Bool := last.isSome && decide (p.rc.seen < most)
def step (fits : Rc → Bool) (last : Option Jd) (most : Int) (p : Pap) : Jd :=
  ⟨p.rc, p.h, soundOf last p, backOf last most p, soundOf last p && fits p.rc && !backOf last most p⟩
def most' (last : Option Jd) (most : Int) (p : Pap) : Int := if last.isNone || decide (most < p.rc.seen) then p.rc.seen else most
/-- the receipts of a kiosk by Serial, judged -/
def judge (fits : Rc → Bool) : Option Jd → Int → List Pap → List Jd
  | _, _, [] => []
  | last, most, p :: l => step fits last most p :: judge fits (some (step fits last most p)) (most' last most p) l
theorem judge_length (fits : Rc → Bool) (last : Option Jd) (most : Int) (l : List Pap) : (judge fits last most l).length = l.length := by
  induction l generalizing last most with
  | nil => rfl
  | cons p l ih => simp [judge, ih]
/-- judged one more -/
def lastOf (last : Option Jd) (l : List Jd) : Option Jd := (l.getLast?).or last
def mostOf (fits : Rc → Bool) : Option Jd → Int → List Pap → Int
  | _, most, [] => most
  | last, most, p :: l => mostOf fits (some (step fits last most p)) (most' last most p) l
theorem judge_append (fits : Rc → Bool) (last : Option Jd) (most : Int) (l m : List Pap) :
    judge fits last most (l ++ m) = judge fits last most l ++ judge fits (lastOf last (judge fits last most l)) (mostOf fits last most l) m := by
  induction l generalizing last most with
  | nil => simp [judge, lastOf, mostOf]
  | cons p l ih =>
    simp only [List.cons_append, judge, mostOf]
    rw [ih]
    congr 2
    have e : lastOf (some (step fits last most p)) (judge fits (some (step fits last most p)) (most' last most p) l) = lastOf last (step fits last most p :: judge fits (some (step fits last most p)) (most' last most p) l) := by
      unfold lastOf
      rw [List.getLast?_cons]
      cases (judge fits (some (step fits last most p)) (most' last most p) l).getLast? <;> simp
    rw [e]
/-- a chain from a serial on, behind a hash, with nothing seen less than before -/
def Linked (hs : Rc → H) : Int → H → Int → List Rc → Prop
  | _, _, _, [] => True
  | s, pv, sn, r :: l => r.serial = s ∧ r.prev = pv ∧ sn ≤ r.seen ∧ Linked hs (s + 1) (hs r) r.seen l
def paps (hs : Rc → H) (l : List Rc) : List Pap := l.map fun r => ⟨r, hs r⟩
/-- a chain whose first part was judged sound is sound -/
theorem judge_linked (hs : Rc → H) (fits : Rc → Bool) (l : List Rc) : ∀ (b : Jd) (most : Int), b.sound = true → most = b.rc.seen → b.h = hs b.rc → 0 < b.rc.serial → Linked hs (b.rc.serial + 1) (hs b.rc) b.rc.seen l →
    judge fits (some b) most (paps hs l) = l.map fun r => ⟨r, hs r, true, false, fits r⟩ := by
  induction l with
  | nil => intros; rfl
  | cons r l ih =>
    intro b most hb hm hh hp hl
    obtain ⟨h1, h2, h3, h4⟩ := hl
    have e1 : soundOf (some b) ⟨r, hs r⟩ = true := by
      unfold soundOf
      rw [if_neg (show ¬ r.serial = 1 by omega)]
      simp only [hb, Bool.true_and, Bool.and_eq_true, decide_eq_true_eq]
      exact ⟨by omega, by rw [hh, h2]⟩
    have e2 : backOf (some b) most ⟨r, hs r⟩ = false := by
      simp [backOf, hm]; omega
    have e3 : step fits (some b) most ⟨r, hs r⟩ = ⟨r, hs r, true, false, fits r⟩ := by simp [step, e1, e2]
    have e4 : most' (some b) most ⟨r, hs r⟩ = r.seen := by
      unfold most'
      simp only [Option.isNone_some, Bool.false_or, decide_eq_true_eq]
      split <;> simp_all <;> omega
    show step fits (some b) most ⟨r, hs r⟩ :: judge fits (some (step fits (some b) most ⟨r, hs r⟩)) (most' (some b) most ⟨r, hs r⟩) (paps hs l) = _
    rw [e3, e4, ih ⟨r, hs r, true, false, fits r⟩ r.seen rfl rfl rfl (by show 0 < r.serial; omega) (by show Linked hs (r.serial + 1) _ _ _; rw [h1]; exact h4)]
    rfl
theorem judge_chain (hs : Rc → H) (fits : Rc → Bool) (l : List Rc) (hl : Linked hs 1 zeroH 0 l) : judge fits none 0 (paps hs l) = l.map fun r => ⟨r, hs r, true, false, fits r⟩ := by
  cases l with
  | nil => rfl
  | cons r l =>
    obtain ⟨h1, h2, h3, h4⟩ := hl
    have e1 : soundOf none ⟨r, hs r⟩ = true := by
      unfold soundOf
      rw [if_pos h1]
      simp [h2]
    have e3 : step fits none 0 ⟨r, hs r⟩ = ⟨r, hs r, true, false, fits r⟩ := by simp [step, e1, backOf]
    show step fits none 0 ⟨r, hs r⟩ :: judge fits (some (step fits none 0 ⟨r, hs r⟩)) (most' none 0 ⟨r, hs r⟩) (paps hs l) = _
    have e4 : most' none 0 ⟨r, hs r⟩ = r.seen := by simp [most']
    rw [e3, e4, judge_linked hs fits l ⟨r, hs r, true, false, fits r⟩ r.seen rfl rfl rfl (by show 0 < r.serial; omega) (by show Linked hs (r.serial + 1) _ _ _; rw [h1]; exact h4)]
    rfl
/-- behind an unsound receipt nothing is sound -/
theorem judge_unsound (fits : Rc → Bool) (l : List Pap) : ∀ (b : Jd) (most : Int), b.sound = false → (∀ p ∈ l, p.rc.serial ≠ 1) → ∀ j ∈ judge fits (some b) most l, j.sound = false ∧ j.counts = false := by
  induction l with
  | nil => intro b most _ _ j hj; cases hj
  | cons p l ih =>
    intro b most hb hp j hj
    have e1 : soundOf (some b) p = false := by
      unfold soundOf
      rw [if_neg (hp p (by simp))]
      simp [hb]
    rcases List.mem_cons.1 hj with rfl | hj
    · simp [step, e1]
    · exact ih _ _ (by simp [step, e1]) (fun x hx => hp x (by simp [hx])) j hj
/-- a receipt that does not fit to the one before it is unsound -/
theorem sound_gap (b : Jd) (p : Pap) (h1 : p.rc.serial ≠ 1) (h : b.rc.serial ≠ p.rc.serial - 1 ∨ b.h ≠ p.rc.prev) : soundOf (some b) p = false := by
  unfold soundOf
  rw [if_neg h1]
  rcases h with h | h <;> simp [h]
end Go.Proofs.YtpblfpnldbdncaaGreatDoor.Mg
namespace Go.Proofs.YtpblfpnldbdncaaGreatDoor.Mg
open Sg
set_option linter.unusedVariables false
/-- a sale by numbers -/
structure Sale where
  kiosk : Nat
  draw : Nat
  seen : Nat
  stamp : Nat
  wrong : Nat
/-- of a kiosk: the last Serial, the last hash, what was seen last -/
structure Pos where
  serial : Int
  prev : H
  seen : Int
/-- what stands outside: hashes of texts, the names of draws, the secrets -/
structure Out where
  hs : List UInt8 → H
  outH : Int → H
  sealH : Nat → H
  name : Nat → List UInt8
  sign : Nat → Rc → Rc
  sign_eq : ∀ n c, (sign n c).kiosk = c.kiosk ∧ (sign n c).serial = c.serial ∧ (sign n c).seen = c.seen ∧ (sign n c).prev = c.prev ∧ (sign n c).output = c.output ∧ (sign n c).draw = c.draw ∧ (sign n c).hash = c.hash
variable (X : Out)
def rh (r : Rc) : H := X.hs r.text
def outOf (s : Int) : H := if s = 0 then zeroH else X.outH s
def mk (x : Sale) (p : Pos) : Rc :=
  X.sign (x.kiosk % 4) ⟨((x.kiosk % 4 : Nat) : Int), p.serial + 1, X.name x.draw, p.seen + ((x.seen % 3 : Nat) : Int), outOf X (p.seen + ((x.seen % 3 : Nat) : Int)), X.sealH x.stamp, p.prev, 0, 0⟩
def put (st : Nat → Pos) (n : Nat) (p : Pos) : Nat → Pos := fun k => if k = n then p else st k
def sales : (Nat → Pos) → List Sale → List Rc
  | _, [] => []
  | st, x :: l => mk X x (st (x.kiosk % 4)) :: sales (put st (x.kiosk % 4) ⟨(mk X x (st (x.kiosk % 4))).serial, rh X (mk X x (st (x.kiosk % 4))), (mk X x (st (x.kiosk % 4))).seen⟩) l
def own (n : Nat) (l : List Rc) : List Rc := l.filter fun r => decide (r.kiosk = (n : Int))
theorem mk_parts (x : Sale) (p : Pos) : (mk X x p).kiosk = ((x.kiosk % 4 : Nat) : Int) ∧ (mk X x p).serial = p.serial + 1 ∧ (mk X x p).seen = p.seen + ((x.seen % 3 : Nat) : Int) ∧ (mk X x p).prev = p.prev ∧ (mk X x p).output = outOf X (mk X x p).seen := by
  obtain ⟨h1, h2, h3, h4, h5, _⟩ := X.sign_eq (x.kiosk % 4) ⟨((x.kiosk % 4 : Nat) : Int), p.serial + 1, X.name x.draw, p.seen + ((x.seen % 3 : Nat) : Int), outOf X (p.seen + ((x.seen % 3 : Nat) : Int)), X.sealH x.stamp, p.prev, 0, 0⟩
  refine ⟨h1, h2, h3, h4, ?_⟩
  show (X.sign _ _).output = _
  rw [h5]
  show _ = outOf X (X.sign _ _).seen
  rw [h3]
/-- each kiosk's receipts are a chain -/
theorem sales_linked (n : Nat) (l : List Sale) : ∀ st : Nat → Pos, Linked (rh X) ((st n).serial + 1) (st n).prev (st n).seen (own n (sales X st l)) := by
  induction l with
  | nil => intro st; trivial
  | cons x l ih =>
    intro st
    obtain ⟨h1, h2, h3, h4, _⟩ := mk_parts X x (st (x.kiosk % 4))
    have hi := ih (put st (x.kiosk % 4) ⟨(mk X x (st (x.kiosk % 4))).serial, rh X (mk X x (st (x.kiosk % 4))), (mk X x (st (x.kiosk % 4))).seen⟩)
    unfold own at hi ⊢
    simp only [sales, List.filter_cons]
    by_cases hk : x.kiosk % 4 = n
    · subst hk
      rw [if_pos (by rw [h1]; simp)]
      refine ⟨h2, h4, by rw [h3]; omega, ?_⟩
      rw [put, if_pos rfl] at hi
      exact Eq.mp (congrArg (fun s => Linked (rh X) (s + 1) _ _ _) h2) hi
    · rw [if_neg (by rw [h1]; simp; omega)]
      rw [put, if_neg (Ne.symm hk)] at hi
      exact hi
/-- what each of them says about a round is right, and what was seen has bounds -/
theorem sales_out (l : List Sale) : ∀ (st : Nat → Pos) (M : Int), (∀ n, 0 ≤ (st n).serial ∧ 0 ≤ (st n).seen ∧ (st n).seen ≤ M) →
    ∀ r ∈ sales X st l, r.output = outOf X r.seen ∧ 0 ≤ r.seen ∧ r.seen ≤ M + 2 * (l.length : Int) ∧ 1 ≤ r.serial ∧ ∃ n < 4, r.kiosk = ((n : Nat) : Int) := by
  induction l with
  | nil => intro st M _ r hr; cases hr
  | cons x l ih =>
    intro st M hst r hr
    obtain ⟨h1, h2, h3, h4, h5⟩ := mk_parts X x (st (x.kiosk % 4))
    obtain ⟨b0, b1, b2⟩ := hst (x.kiosk % 4)
    have hx : x.seen % 3 ≤ 2 := by omega
    rcases List.mem_cons.1 hr with rfl | hr
    · refine ⟨h5, by rw [h3]; omega, by rw [h3, List.length_cons]; omega, by rw [h2]; omega, x.kiosk % 4, Nat.mod_lt _ (by omega), h1⟩
    · obtain ⟨g1, g2, g3, g4, g5⟩ := ih _ (M + 2) (fun n => by
        unfold put
        split
        · refine ⟨?_, ?_, ?_⟩
          · show 0 ≤ (mk X x (st (x.kiosk % 4))).serial
            rw [h2]; omega
          · show 0 ≤ (mk X x (st (x.kiosk % 4))).seen
            rw [h3]; omega
          · show (mk X x (st (x.kiosk % 4))).seen ≤ M + 2
            rw [h3]; omega
        · obtain ⟨c0, c1, c2⟩ := hst n
          exact ⟨c0, c1, by omega⟩) r hr
      exact ⟨g1, g2, by rw [List.length_cons]; omega, g4, g5⟩
/-- the chains of an honest list, from the beginning -/
theorem honest_chain (n : Nat) (l : List Sale) (fits : Rc → Bool) : judge fits none 0 (paps (rh X) (own n (sales X (fun _ => ⟨0, zeroH, 0⟩) l))) = (own n (sales X (fun _ => ⟨0, zeroH, 0⟩) l)).map fun r => ⟨r, rh X r, true, false, fits r⟩ :=
  judge_chain (rh X) fits _ (sales_linked X n l fun _ => ⟨0, zeroH, 0⟩)
end Go.Proofs.YtpblfpnldbdncaaGreatDoor.Mg
namespace Go.Proofs.YtpblfpnldbdncaaGreatDoor.Mg
open Sg
set_option linter.unusedVariables false
def good (hs : Rc → H) (fits : Rc → Bool) (r : Rc) : Jd := ⟨r, hs r, true, false, fits r⟩
theorem linked_serial (hs : Rc → H) (l : List Rc) : ∀ (s : Int) (pv : H) (sn : Int), Linked hs s pv sn l → ∀ (i : Nat) (r : Rc), l[i]? = some r → r.serial = s + i := by
  induction l with
  | nil => intro s pv sn _ i r h; simp at h
  | cons x l ih =>
    intro s pv sn h i r hi
    obtain ⟨h1, h2, h3, h4⟩ := h
    cases i with
    | zero =>
      simp only [List.getElem?_cons_zero, Option.some.injEq] at hi
      subst hi
      simp [h1]
    | succ i =>
      have := ih _ _ _ h4 i r (by simpa using hi)
      rw [this]
      omega
theorem linked_take (hs : Rc → H) (l : List Rc) : ∀ (k : Nat) (s : Int) (pv : H) (sn : Int), Linked hs s pv sn l → Linked hs s pv sn (l.take k) := by
  induction l with
  | nil => intro k s pv sn h; rw [List.take_nil]; exact h
  | cons x l ih =>
    intro k s pv sn h
    obtain ⟨h1, h2, h3, h4⟩ := h
    cases k with
    | zero => exact trivial
    | succ k => exact ⟨h1, h2, h3, ih k _ _ _ h4⟩
/-- the last one of a chain may be exchanged for another with the same place -/
theorem linked_snoc (hs : Rc → H) (l : List Rc) : ∀ (s : Int) (pv : H) (sn : Int) (a b : Rc), Linked hs s pv sn (l ++ [a]) → b.serial = a.serial → b.prev = a.prev → b.seen = a.seen → Linked hs s pv sn (l ++ [b]) := by
  induction l with
  | nil =>
    intro s pv sn a b h e1 e2 e3
    obtain ⟨h1, h2, h3, _⟩ := h
    exact ⟨by rw [e1]; exact h1, by rw [e2]; exact h2, by rw [e3]; exact h3, trivial⟩
  | cons x l ih =>
    intro s pv sn a b h e1 e2 e3
    obtain ⟨h1, h2, h3, h4⟩ := h
    exact ⟨h1, h2, h3, ih _ _ _ a b h4 e1 e2 e3⟩
theorem linked_prev (hs : Rc → H) (l : List Rc) : ∀ (s : Int) (pv : H) (sn : Int), Linked hs s pv sn l → ∀ (i : Nat) (a b : Rc), l[i]? = some a → l[i + 1]? = some b → b.prev = hs a := by
  induction l with
  | nil => intro s pv sn _ i a b h; simp at h
  | cons x l ih =>
    intro s pv sn h i a b ha hb
    obtain ⟨h1, h2, h3, h4⟩ := h
    cases i with
    | zero =>
      simp only [List.getElem?_cons_zero, Option.some.injEq] at ha
      subst ha
      cases l with
      | nil => simp at hb
      | cons y l =>
        simp only [Nat.zero_add, List.getElem?_cons_succ, List.getElem?_cons_zero, Option.some.injEq] at hb
        subst hb
        exact h4.2.1
    | succ i => exact ih _ _ _ h4 i a b (by simpa using ha) (by simpa using hb)
/-- in a chain what was seen never shrinks -/
theorem linked_seen (hs : Rc → H) (l : List Rc) : ∀ (s : Int) (pv : H) (sn : Int), Linked hs s pv sn l → (∀ r ∈ l, sn ≤ r.seen) ∧ l.Pairwise (fun a b => a.seen ≤ b.seen) := by
  induction l with
  | nil => intro s pv sn _; exact ⟨fun r hr => (by cases hr), List.Pairwise.nil⟩
  | cons x l ih =>
    intro s pv sn h
    obtain ⟨h1, h2, h3, h4⟩ := h
    obtain ⟨g1, g2⟩ := ih _ _ _ h4
    refine ⟨fun r hr => ?_, List.pairwise_cons.2 ⟨g1, g2⟩⟩
    rcases List.mem_cons.1 hr with rfl | hr
    · exact h3
    · have := g1 r hr
      omega
/-- nothing is dated back where nothing shrinks, sound or not -/
theorem judge_noback (fits : Rc → Bool) (l : List Pap) : ∀ (last : Option Jd) (most : Int), (∀ p ∈ l, last.isSome = true → most ≤ p.rc.seen) → l.Pairwise (fun a b => a.rc.seen ≤ b.rc.seen) → ∀ j ∈ judge fits last most l, j.back = false := by
  induction l with
  | nil => intro last most _ _ j hj; cases hj
  | cons p l ih =>
    intro last most h1 h2 j hj
    obtain ⟨h3, h4⟩ := List.pairwise_cons.1 h2
    have e : backOf last most p = false := by
      unfold backOf
      cases hl : last.isSome with
      | false => rfl
      | true =>
        have := h1 p (by simp) hl
        simp
        omega
    rcases List.mem_cons.1 hj with rfl | hj
    · exact e
    · refine ih _ _ (fun x hx _ => ?_) h4 j hj
      have h5 := h3 x hx
      unfold most'
      split
      · exact h5
      · rename_i hn
        simp only [Bool.or_eq_true, decide_eq_true_eq, not_or] at hn
        cases hl : last with
        | none => rw [hl] at hn; simp at hn
        | some b =>
          have := h1 x (by simp [hx]) (by rw [hl]; rfl)
          exact this
/-- a chain, and behind it one that does not fit to it: from there on nothing counts -/
theorem judge_cut (hs : Rc → H) (fits : Rc → Bool) (A : List Rc) (b : Rc) (B : List Rc) (hA : Linked hs 1 zeroH 0 A) (hb : soundOf ((A.map (good hs fits)).getLast?) ⟨b, hs b⟩ = false) (hB : ∀ r ∈ B, r.serial ≠ 1) :
    ∃ T, judge fits none 0 (paps hs (A ++ b :: B)) = A.map (good hs fits) ++ T ∧ T.length = B.length + 1 ∧ ∀ j ∈ T, j.sound = false ∧ j.counts = false := by
  have e : paps hs (A ++ b :: B) = paps hs A ++ (⟨b, hs b⟩ :: paps hs B) := by simp [paps]
  rw [e, judge_append]
  have h1 : judge fits none 0 (paps hs A) = A.map (good hs fits) := judge_chain hs fits A hA
  rw [h1]
  have h2 : lastOf none (A.map (good hs fits)) = (A.map (good hs fits)).getLast? := by
    unfold lastOf
    cases (A.map (good hs fits)).getLast? <;> rfl
  rw [h2]
  generalize (A.map (good hs fits)).getLast? = last at *
  refine ⟨_, rfl, by rw [judge_length]; simp [paps], ?_⟩
  intro j hj
  rw [judge] at hj
  rcases List.mem_cons.1 hj with rfl | hj
  · simp [step, hb]
  · refine judge_unsound fits (paps hs B) _ _ (by simp [step, hb]) ?_ j hj
    intro p hp
    obtain ⟨r, hr, rfl⟩ := List.mem_map.1 hp
    exact hB r hr
end Go.Proofs.YtpblfpnldbdncaaGreatDoor.Mg
namespace Go.Proofs.YtpblfpnldbdncaaGreatDoor.Mg
open Sg
set_option linter.unusedVariables false
structure Mst where
  pub : Int → Option Int
  outs : Int → Option H
  kept : Int → Int → Option Rc
  clones : Int → Option (Rc × Rc)
/-- what Learn does: the state, and 0 fine, 1 no round, 2 known, 3 another hash -/
def Mst.learn (m : Mst) (rd : Int) (h : H) : Mst × Nat :=
  if rd < 1 then (m, 1) else
  match m.outs rd with
  | some x => (m, if x = h then 2 else 3)
  | none => ({ m with outs := fun k => if k = rd then some h else m.outs k }, 0)
/-- what keep does: the state, and whether it was right -/
def Mst.keep (m : Mst) (r : Rc) : Mst × Bool :=
  match m.kept r.kiosk r.serial with
  | none => ({ m with kept := fun k s => if k = r.kiosk ∧ s = r.serial then some r else m.kept k s }, true)
  | some o =>
    if o = r then (m, true) else
    match m.clones r.kiosk with
    | none => ({ m with clones := fun k => if k = r.kiosk then some (o, r) else m.clones k }, false)
    | some _ => (m, false)
/-- all receipts of a batch: the state, and whether one was a clone -/
def Mst.keeps : Mst → List Rc → Mst × Bool
  | m, [] => (m, false)
  | m, r :: l => let (m1, ok) := m.keep r; let (m2, c) := m1.keeps l; (m2, !ok || c)
/-- the receipts that are kept -/
def Mst.KeptIs (m : Mst) (S : Rc → Prop) : Prop := ∀ k s r, m.kept k s = some r ↔ S r ∧ r.kiosk = k ∧ r.serial = s
/-- no two in one place -/
def Sole (S : Rc → Prop) : Prop := ∀ a b, S a → S b → a.kiosk = b.kiosk → a.serial = b.serial → a = b
theorem keep_ok {m : Mst} {S : Rc → Prop} (r : Rc) (h : m.KeptIs S) (hs : Sole fun x => S x ∨ x = r) :
    (m.keep r).1.KeptIs (fun x => S x ∨ x = r) ∧ (m.keep r).2 = true ∧ (m.keep r).1.pub = m.pub ∧ (m.keep r).1.outs = m.outs ∧ (m.keep r).1.clones = m.clones := by
  unfold Mst.keep
  cases hk : m.kept r.kiosk r.serial with
  | none =>
    refine ⟨fun k s x => ?_, rfl, rfl, rfl, rfl⟩
    show (if k = r.kiosk ∧ s = r.serial then some r else m.kept k s) = some x ↔ _
    by_cases e : k = r.kiosk ∧ s = r.serial
    · rw [if_pos e]
      obtain ⟨rfl, rfl⟩ := e
      constructor
      · intro h1
        injection h1 with h1
        subst h1
        exact ⟨.inr rfl, rfl, rfl⟩
      · rintro ⟨h1, h2, h3⟩
        rw [hs x r h1 (.inr rfl) h2 h3]
    · rw [if_neg e, h k s x]
      constructor
      · rintro ⟨h1, h2, h3⟩
        exact ⟨.inl h1, h2, h3⟩
      · rintro ⟨h1, h2, h3⟩
        rcases h1 with h1 | rfl
        · exact ⟨h1, h2, h3⟩
        · exact absurd ⟨h2.symm, h3.symm⟩ e
  | some o =>
    obtain ⟨h1, h2, h3⟩ := (h _ _ _).1 hk
    have eo : o = r := hs o r (.inl h1) (.inr rfl) h2 h3
    subst eo
    simp only [if_true]
    refine ⟨fun k s x => ?_, trivial, trivial, trivial, trivial⟩
    rw [h k s x]
    constructor
    · rintro ⟨g1, g2, g3⟩
      exact ⟨.inl g1, g2, g3⟩
    · rintro ⟨g1, g2, g3⟩
      rcases g1 with g1 | rfl
      · exact ⟨g1, g2, g3⟩
      · exact ⟨h1, g2, g3⟩
theorem Sole.sub {S T : Rc → Prop} (h : Sole S) (hs : ∀ x, T x → S x) : Sole T := fun a b ha hb => h a b (hs a ha) (hs b hb)
theorem KeptIs.congr {m : Mst} {S T : Rc → Prop} (h : m.KeptIs S) (e : ∀ x, S x ↔ T x) : m.KeptIs T := fun k s r => by rw [h k s r, e r]
theorem keeps_ok (l : List Rc) : ∀ (m : Mst) (S : Rc → Prop), m.KeptIs S → (Sole fun x => S x ∨ x ∈ l) →
    (m.keeps l).1.KeptIs (fun x => S x ∨ x ∈ l) ∧ (m.keeps l).2 = false ∧ (m.keeps l).1.pub = m.pub ∧ (m.keeps l).1.outs = m.outs ∧ (m.keeps l).1.clones = m.clones := by
  induction l with
  | nil => intro m S h _; exact ⟨KeptIs.congr h (fun x => by simp), rfl, rfl, rfl, rfl⟩
  | cons r l ih =>
    intro m S h hs
    obtain ⟨h1, h2, h3, h4, h5⟩ := keep_ok r h (hs.sub fun x hx => by
      rcases hx with hx | rfl
      · exact .inl hx
      · exact .inr (by simp))
    obtain ⟨g1, g2, g3, g4, g5⟩ := ih (m.keep r).1 _ h1 (hs.sub fun x hx => by
      rcases hx with (hx | rfl) | hx
      · exact .inl hx
      · exact .inr (by simp)
      · exact .inr (by simp [hx]))
    have e : m.keeps (r :: l) = (((m.keep r).1.keeps l).1, !(m.keep r).2 || ((m.keep r).1.keeps l).2) := rfl
    rw [e]
    refine ⟨KeptIs.congr g1 (fun x => by simp [or_assoc]), by simp [h2, g2], g3.trans h3, g4.trans h4, g5.trans h5⟩
/-- the receipts of a kiosk by Serial -/
def Own (m : Mst) (k : Int) (l : List Rc) : Prop := l.Pairwise (fun a b => a.serial < b.serial) ∧ ∀ r, r ∈ l ↔ m.kept k r.serial = some r ∧ r.kiosk = k
theorem pairwise_unique : ∀ (l l' : List Rc), l.Pairwise (fun a b => a.serial < b.serial) → l'.Pairwise (fun a b => a.serial < b.serial) → (∀ r, r ∈ l ↔ r ∈ l') → l = l'
  | [], [], _, _, _ => rfl
  | [], x :: l', _, _, h => absurd ((h x).2 (by simp)) (by simp)
  | x :: l, [], _, _, h => absurd ((h x).1 (by simp)) (by simp)
  | x :: l, y :: l', h1, h2, h => by
    obtain ⟨a1, a2⟩ := List.pairwise_cons.1 h1
    obtain ⟨b1, b2⟩ := List.pairwise_cons.1 h2
    have e : x = y := by
      rcases List.mem_cons.1 ((h x).1 (by simp)) with e | e
      · exact e
      · rcases List.mem_cons.1 ((h y).2 (by simp)) with e' | e'
        · exact e'.symm
        · have := b1 x e
          have := a1 y e'
          omega
    subst e
    congr 1
    refine pairwise_unique l l' a2 b2 fun r => ?_
    constructor
    · intro hr
      rcases List.mem_cons.1 ((h r).1 (by simp [hr])) with rfl | h3
      · have := a1 _ hr
        omega
      · exact h3
    · intro hr
      rcases List.mem_cons.1 ((h r).2 (by simp [hr])) with rfl | h3
      · have := b1 _ hr
        omega
      · exact h3
theorem own_unique {m : Mst} {k : Int} {l l' : List Rc} (h : Own m k l) (h' : Own m k l') : l = l' :=
  pairwise_unique l l' h.1 h'.1 fun r => by rw [h.2 r, h'.2 r]
theorem linked_sorted (hs : Rc → H) (l : List Rc) : ∀ (s : Int) (pv : H) (sn : Int), Linked hs s pv sn l → (∀ r ∈ l, s ≤ r.serial) ∧ l.Pairwise (fun a b => a.serial < b.serial) := by
  induction l with
  | nil => intro s pv sn _; exact ⟨fun r hr => (by cases hr), List.Pairwise.nil⟩
  | cons x l ih =>
    intro s pv sn h
    obtain ⟨h1, h2, h3, h4⟩ := h
    obtain ⟨g1, g2⟩ := ih _ _ _ h4
    refine ⟨fun r hr => ?_, List.pairwise_cons.2 ⟨fun r hr => by have := g1 r hr; omega, g2⟩⟩
    rcases List.mem_cons.1 hr with rfl | hr
    · omega
    · have := g1 r hr
      omega
end Go.Proofs.YtpblfpnldbdncaaGreatDoor.Mg
namespace Go.Proofs.YtpblfpnldbdncaaGreatDoor.Mg
open Sg
set_option linter.unusedVariables false
/-- the rounds that are known are those of K, with the hashes f -/
def Mst.OutsAre (m : Mst) (f : Int → H) (K : Int → Prop) : Prop := ∀ k x, m.outs k = some x ↔ K k ∧ x = f k
def Mst.learns (m : Mst) (f : Int → H) : List Int → Mst
  | [] => m
  | k :: l => ((m.learn k (f k)).1).learns f l
theorem learn_ok {m : Mst} {f : Int → H} {K : Int → Prop} (h : m.OutsAre f K) (rd : Int) :
    (m.learn rd (f rd)).1.OutsAre f (fun k => K k ∨ (k = rd ∧ 1 ≤ rd)) ∧ (m.learn rd (f rd)).1.pub = m.pub ∧ (m.learn rd (f rd)).1.kept = m.kept ∧ (m.learn rd (f rd)).1.clones = m.clones := by
  unfold Mst.learn
  by_cases h0 : rd < 1
  · rw [if_pos h0]
    refine ⟨fun k x => ?_, rfl, rfl, rfl⟩
    rw [h k x]
    constructor
    · rintro ⟨a, b⟩; exact ⟨.inl a, b⟩
    · rintro ⟨a | ⟨_, a⟩, b⟩
      · exact ⟨a, b⟩
      · omega
  · rw [if_neg h0]
    cases hk : m.outs rd with
    | some x =>
      refine ⟨fun k y => ?_, rfl, rfl, rfl⟩
      have h1 := (h rd x).1 hk
      show m.outs k = some y ↔ _
      rw [h k y]
      constructor
      · rintro ⟨a, b⟩; exact ⟨.inl a, b⟩
      · rintro ⟨a | ⟨rfl, _⟩, b⟩
        · exact ⟨a, b⟩
        · exact ⟨h1.1, b⟩
    | none =>
      refine ⟨fun k y => ?_, rfl, rfl, rfl⟩
      show (if k = rd then some (f rd) else m.outs k) = some y ↔ _
      by_cases e : k = rd
      · subst e
        rw [if_pos rfl]
        constructor
        · intro h2
          injection h2 with h2
          exact ⟨.inr ⟨rfl, by omega⟩, h2.symm⟩
        · rintro ⟨_, rfl⟩
          rfl
      · rw [if_neg e, h k y]
        constructor
        · rintro ⟨a, b⟩; exact ⟨.inl a, b⟩
        · rintro ⟨a | ⟨a, _⟩, b⟩
          · exact ⟨a, b⟩
          · exact absurd a e
theorem outs_congr {m : Mst} {f : Int → H} {K L : Int → Prop} (h : m.OutsAre f K) (e : ∀ k, K k ↔ L k) : m.OutsAre f L := fun k x => by rw [h k x, e k]
theorem learns_ok (f : Int → H) (l : List Int) : ∀ (m : Mst) (K : Int → Prop), m.OutsAre f K →
    (m.learns f l).OutsAre f (fun k => K k ∨ (k ∈ l ∧ 1 ≤ k)) ∧ (m.learns f l).pub = m.pub ∧ (m.learns f l).kept = m.kept ∧ (m.learns f l).clones = m.clones := by
  induction l with
  | nil => intro m K h; exact ⟨outs_congr h (fun k => by simp), rfl, rfl, rfl⟩
  | cons r l ih =>
    intro m K h
    obtain ⟨h1, h2, h3, h4⟩ := learn_ok h r
    obtain ⟨g1, g2, g3, g4⟩ := ih _ _ h1
    refine ⟨outs_congr g1 (fun k => ?_), g2.trans h2, g3.trans h3, g4.trans h4⟩
    constructor
    · rintro ((a | ⟨rfl, a⟩) | ⟨a, b⟩)
      · exact .inl a
      · exact .inr ⟨by simp, a⟩
      · exact .inr ⟨by simp [a], b⟩
    · rintro (a | ⟨a, b⟩)
      · exact .inl (.inl a)
      · rcases List.mem_cons.1 a with rfl | a
        · exact .inl (.inr ⟨rfl, b⟩)
        · exact .inr ⟨a, b⟩
/-- states with the same receipts, outputs, kiosks and clones are equal -/
theorem state_eq {m n : Mst} {S : Rc → Prop} {f : Int → H} {K : Int → Prop} (h1 : m.KeptIs S) (h2 : n.KeptIs S) (h3 : m.OutsAre f K) (h4 : n.OutsAre f K) (h5 : m.pub = n.pub) (h6 : m.clones = n.clones) : m = n := by
  have e1 : m.kept = n.kept := by
    funext k s
    apply Option.ext
    intro r
    rw [h1 k s r, h2 k s r]
  have e2 : m.outs = n.outs := by
    funext k
    apply Option.ext
    intro x
    rw [h3 k x, h4 k x]
  cases m
  cases n
  simp only at e1 e2 h5 h6
  subst e1 e2 h5 h6
  rfl
/-- whether what a receipt says about a round is what is known -/
def Mst.fits (m : Mst) (r : Rc) : Bool := if r.seen = 0 then decide (r.output = zeroH) else
  match m.outs r.seen with
  | some x => decide (x = r.output)
  | none => false
theorem fits_ok {m : Mst} {f : Int → H} {K : Int → Prop} (h : m.OutsAre f K) (r : Rc) (ho : r.output = if r.seen = 0 then zeroH else f r.seen) (hk : r.seen = 0 ∨ K r.seen) : m.fits r = true := by
  unfold Mst.fits
  by_cases e : r.seen = 0
  · rw [if_pos e, ho, if_pos e]
    simp
  · rw [if_neg e]
    rcases hk with hk | hk
    · exact absurd hk e
    · rw [(h r.seen (f r.seen)).2 ⟨hk, rfl⟩, ho, if_neg e]
      simp
/-- the own receipts of a kiosk, out of a set of kept ones -/
theorem own_of {m : Mst} {S : Rc → Prop} (h : m.KeptIs S) (k : Int) (l : List Rc) (hl : l.Pairwise (fun a b => a.serial < b.serial)) (hm : ∀ r, r ∈ l ↔ S r ∧ r.kiosk = k) : Own m k l :=
  ⟨hl, fun r => by
    rw [hm r]
    constructor
    · rintro ⟨a, b⟩
      exact ⟨(h _ _ _).2 ⟨a, b, rfl⟩, b⟩
    · rintro ⟨a, b⟩
      exact ⟨((h _ _ _).1 a).1, b⟩⟩
end Go.Proofs.YtpblfpnldbdncaaGreatDoor.Mg
namespace Go.Proofs.YtpblfpnldbdncaaGreatDoor.Mg
open Sg
set_option linter.unusedVariables false
/-- the receipts of a kiosk by Serial -/
noncomputable def Mst.own (m : Mst) (k : Int) : List Rc := open Classical in if h : ∃ l, Own m k l then h.choose else []
theorem own_eq {m : Mst} {k : Int} {l : List Rc} (h : Own m k l) : m.own k = l := by
  have hx : ∃ l, Own m k l := ⟨l, h⟩
  unfold Mst.own
  rw [dif_pos hx]
  exact own_unique hx.choose_spec h
noncomputable def Mst.judged (m : Mst) (hs : Rc → H) (k : Int) : List Jd := judge m.fits none 0 (paps hs (m.own k))
/-- what Take does: the state, and its answer -/
noncomputable def Mst.take (m : Mst) (ver : Int → Rc → Bool) (hs : Rc → H) (k : Int) (l : List Rc) : Mst × Int :=
  match m.pub k with
  | none => (m, 34)
  | some y =>
    if l.any (fun r => decide (r.kiosk ≠ k) || decide (r.serial < 1)) then (m, 11) else
    if l.any (fun r => !ver y r) then (m, 21) else
    if (m.keeps l).2 then ((m.keeps l).1, 51) else
    if ((m.keeps l).1.judged hs k).any (fun j => !j.sound) then ((m.keeps l).1, 36) else ((m.keeps l).1, 0)
/-- receipts that count and pass a test -/
noncomputable def Mst.pick (m : Mst) (hs : Rc → H) (test : Rc → Bool) (k : Int) : List Rc := ((m.judged hs k).filter fun j => j.counts && test j.rc).map fun j => j.rc
theorem take_none {m : Mst} {ver : Int → Rc → Bool} {hs : Rc → H} {k : Int} {l : List Rc} (h : m.pub k = none) : m.take ver hs k l = (m, 34) := by
  unfold Mst.take
  rw [h]
/-- a batch that is right, without clones -/
theorem take_fine {m : Mst} {ver : Int → Rc → Bool} {hs : Rc → H} {k y : Int} {l : List Rc} {S : Rc → Prop} (hp : m.pub k = some y) (hk : ∀ r ∈ l, r.kiosk = k ∧ 1 ≤ r.serial ∧ ver y r = true) (h : m.KeptIs S) (hs' : Sole fun x => S x ∨ x ∈ l) :
    (m.take ver hs k l).1 = (m.keeps l).1 ∧ (m.take ver hs k l).2 = if ((m.keeps l).1.judged hs k).any (fun j => !j.sound) then 36 else 0 := by
  have h1 : l.any (fun r => decide (r.kiosk ≠ k) || decide (r.serial < 1)) = false := by
    rw [List.any_eq_false]
    intro r hr
    obtain ⟨a, b, _⟩ := hk r hr
    simp [a]
    omega
  have h2 : l.any (fun r => !ver y r) = false := by
    rw [List.any_eq_false]
    intro r hr
    simp [(hk r hr).2.2]
  have h3 := (keeps_ok l m S h hs').2.1
  unfold Mst.take
  rw [hp]
  simp only [h1, h2, h3, Bool.false_eq_true, if_false]
  split <;> exact ⟨rfl, rfl⟩
/-- a kiosk whose kept receipts are a chain: all are sound, and those that fit count -/
theorem judged_chain {m : Mst} {hs : Rc → H} {k : Int} {l : List Rc} (h : Own m k l) (hl : Linked hs 1 zeroH 0 l) : m.judged hs k = l.map (good hs m.fits) := by
  unfold Mst.judged
  rw [own_eq h]
  exact judge_chain hs m.fits l hl
theorem chain_sound {m : Mst} {hs : Rc → H} {k : Int} {l : List Rc} (h : Own m k l) (hl : Linked hs 1 zeroH 0 l) : (m.judged hs k).any (fun j => !j.sound) = false := by
  rw [judged_chain h hl, List.any_eq_false]
  intro j hj
  obtain ⟨r, _, rfl⟩ := List.mem_map.1 hj
  simp [good]
theorem pick_chain {m : Mst} {hs : Rc → H} {k : Int} {l : List Rc} (h : Own m k l) (hl : Linked hs 1 zeroH 0 l) (hf : ∀ r ∈ l, m.fits r = true) (test : Rc → Bool) : m.pick hs test k = l.filter test := by
  unfold Mst.pick
  rw [judged_chain h hl, List.filter_map, List.map_map]
  have e : ((fun j : Jd => j.rc) ∘ good hs m.fits) = id := rfl
  rw [e, List.map_id]
  refine List.filter_congr fun r hr => ?_
  simp [good, hf r hr]
theorem chain_noback {m : Mst} {hs : Rc → H} {k : Int} {l : List Rc} (h : Own m k l) (hl : Linked hs 1 zeroH 0 l) : ∀ j ∈ m.judged hs k, j.back = false := by
  rw [judged_chain h hl]
  intro j hj
  obtain ⟨r, _, rfl⟩ := List.mem_map.1 hj
  rfl
/-- each receipt of a chain is among those before a round, or among those from it on -/
theorem pick_parts {m : Mst} {hs : Rc → H} {k : Int} {l : List Rc} (h : Own m k l) (hl : Linked hs 1 zeroH 0 l) (hf : ∀ r ∈ l, m.fits r = true) (round : Int) (names : List (List UInt8)) (hn : names.Nodup) (hd : ∀ r ∈ l, r.draw ∈ names) :
    ((names.map fun d => (m.pick hs (fun r => decide (r.draw = d) && decide (r.seen < round)) k).length + (m.pick hs (fun r => decide (r.draw = d) && decide (round ≤ r.seen)) k).length).sum) = l.length := by
  have e : ∀ d, (m.pick hs (fun r => decide (r.draw = d) && decide (r.seen < round)) k).length + (m.pick hs (fun r => decide (r.draw = d) && decide (round ≤ r.seen)) k).length = (l.filter fun r => decide (r.draw = d)).length := by
    intro d
    rw [pick_chain h hl hf, pick_chain h hl hf]
    clear hf hd h hl
    induction l with
    | nil => rfl
    | cons r l ih =>
      simp only [List.filter_cons]
      by_cases h1 : r.draw = d
      · by_cases h2 : r.seen < round
        · have h3 : ¬ round ≤ r.seen := by omega
          simp [h1, h2, h3]
          omega
        · have h3 : round ≤ r.seen := by omega
          simp [h1, h2, h3]
          omega
      · simp [h1]
        exact ih
  simp only [e]
  clear e hf h hl
  induction l with
  | nil =>
    clear hn hd
    induction names with
    | nil => rfl
    | cons d names ih => simpa using ih
  | cons r l ih =>
    have h1 := ih fun x hx => hd x (by simp [hx])
    have h2 : (names.map fun d => ((r :: l).filter fun r => decide (r.draw = d)).length).sum = (names.map fun d => (l.filter fun r => decide (r.draw = d)).length).sum + (names.filter fun d => decide (r.draw = d)).length := by
      clear h1 ih hd hn
      induction names with
      | nil => rfl
      | cons d names ih2 =>
        simp only [List.map_cons, List.sum_cons, List.filter_cons] at ih2 ⊢
        rw [ih2]
        by_cases h : r.draw = d <;> simp [h] <;> omega
    rw [h2, h1, List.length_cons]
    congr 1
    have h3 := hd r (by simp)
    clear h1 h2 ih hd
    induction names with
    | nil => simp at h3
    | cons d names ih2 =>
      obtain ⟨n1, n2⟩ := List.nodup_cons.1 hn
      rw [List.filter_cons]
      by_cases h : r.draw = d
      · rw [if_pos (by simp [h])]
        have : names.filter (fun d => decide (r.draw = d)) = [] := by
          rw [List.filter_eq_nil_iff]
          intro x hx
          simp only [decide_eq_true_eq]
          rintro rfl
          exact n1 (h ▸ hx)
        rw [this]
        rfl
      · rw [if_neg (by simp [h])]
        rcases List.mem_cons.1 h3 with h4 | h4
        · exact absurd h4 h
        · exact ih2 n2 h4
end Go.Proofs.YtpblfpnldbdncaaGreatDoor.Mg
namespace Go.Proofs.YtpblfpnldbdncaaGreatDoor.Mg
open Sg
set_option linter.unusedVariables false
theorem last_good (hs : Rc → H) (fits : Rc → Bool) (A : List Rc) : (A.map (good hs fits)).getLast? = A.getLast?.map (good hs fits) := by
  rw [List.getLast?_map]
/-- where the judgement is a chain's and then nothing that counts -/
theorem pick_cut {m : Mst} {hs : Rc → H} {k : Int} {A : List Rc} {T : List Jd} (h : m.judged hs k = A.map (good hs m.fits) ++ T) (hT : ∀ j ∈ T, j.sound = false ∧ j.counts = false) (hf : ∀ r ∈ A, m.fits r = true) (test : Rc → Bool) : m.pick hs test k = A.filter test := by
  unfold Mst.pick
  rw [h, List.filter_append, List.map_append]
  have e1 : (T.filter fun j => j.counts && test j.rc) = [] := by
    rw [List.filter_eq_nil_iff]
    intro j hj
    simp [(hT j hj).2]
  rw [e1, List.map_nil, List.append_nil, List.filter_map, List.map_map]
  have e : ((fun j : Jd => j.rc) ∘ good hs m.fits) = id := rfl
  rw [e, List.map_id]
  refine List.filter_congr fun r hr => ?_
  simp [good, hf r hr]
theorem cut_unsound {m : Mst} {hs : Rc → H} {k : Int} {A : List Rc} {T : List Jd} (h : m.judged hs k = A.map (good hs m.fits) ++ T) (hT : ∀ j ∈ T, j.sound = false ∧ j.counts = false) (hl : 0 < T.length) : (m.judged hs k).any (fun j => !j.sound) = true := by
  rw [h, List.any_append]
  cases T with
  | nil => simp at hl
  | cons j T => simp [(hT j (by simp)).1]
theorem drop_serial {hs : Rc → H} {l : List Rc} (hl : Linked hs 1 zeroH 0 l) (k : Nat) : ∀ r ∈ l.drop (k + 1), r.serial ≠ 1 := by
  intro r hr
  obtain ⟨i, hi⟩ := List.mem_iff_getElem?.1 hr
  rw [List.getElem?_drop] at hi
  have := linked_serial hs l 1 zeroH 0 hl _ r hi
  omega
theorem take_last {l : List Rc} {k : Nat} (hk : k < l.length) : (l.take (k + 1)).getLast? = l[k]? := by
  rw [List.getLast?_eq_getElem?, List.length_take, Nat.min_eq_left (by omega), List.getElem?_take, if_pos (by omega)]
  rfl
/-- one is missing, and there is one behind it -/
theorem gap_unsound {hs : Rc → H} (fits : Rc → Bool) {l : List Rc} (hl : Linked hs 1 zeroH 0 l) {k : Nat} {b : Rc} (hb : l[k + 1]? = some b) : soundOf (((l.take k).map (good hs fits)).getLast?) ⟨b, hs b⟩ = false := by
  have h1 := linked_serial hs l 1 zeroH 0 hl _ b hb
  have h2 : b.serial ≠ 1 := by omega
  rw [last_good]
  cases k with
  | zero =>
    unfold soundOf
    rw [if_neg h2]
    rfl
  | succ k =>
    have hk : k + 1 + 1 < l.length := (List.getElem?_eq_some_iff.1 hb).1
    rw [take_last (by omega)]
    cases ha : l[k]? with
    | none => rw [List.getElem?_eq_none_iff] at ha; omega
    | some a =>
      have h3 := linked_serial hs l 1 zeroH 0 hl _ a ha
      exact sound_gap _ _ h2 (.inl (by show a.serial ≠ b.serial - 1; omega))
theorem judged_missing {m : Mst} {hs : Rc → H} {kk : Int} {l : List Rc} (hl : Linked hs 1 zeroH 0 l) {k : Nat} (hk : k + 1 < l.length) (h : Own m kk (l.take k ++ l.drop (k + 1))) :
    ∃ T, m.judged hs kk = (l.take k).map (good hs m.fits) ++ T ∧ 0 < T.length ∧ ∀ j ∈ T, j.sound = false ∧ j.counts = false := by
  unfold Mst.judged
  rw [own_eq h, List.drop_eq_getElem_cons hk]
  obtain ⟨T, h1, h2, h3⟩ := judge_cut hs m.fits (l.take k) l[k + 1] (l.drop (k + 1 + 1)) (linked_take hs l k _ _ _ hl) (gap_unsound m.fits hl (List.getElem?_eq_getElem hk)) (drop_serial hl (k + 1))
  exact ⟨T, h1, by omega, h3⟩
/-- one names another before it -/
theorem judged_wrong {m : Mst} {hs : Rc → H} {kk : Int} {l : List Rc} (hl : Linked hs 1 zeroH 0 l) {k : Nat} {a b : Rc} (ha : l[k]? = some a) (h1 : b.serial = a.serial) (h2 : b.prev ≠ a.prev) (h : Own m kk (l.take k ++ b :: l.drop (k + 1))) :
    ∃ T, m.judged hs kk = (l.take k).map (good hs m.fits) ++ T ∧ 0 < T.length ∧ ∀ j ∈ T, j.sound = false ∧ j.counts = false := by
  unfold Mst.judged
  rw [own_eq h]
  have hk : k < l.length := (List.getElem?_eq_some_iff.1 ha).1
  have hsr := linked_serial hs l 1 zeroH 0 hl _ a ha
  have hb : soundOf (((l.take k).map (good hs m.fits)).getLast?) ⟨b, hs b⟩ = false := by
    rw [last_good]
    cases k with
    | zero =>
      unfold soundOf
      have e : b.serial = 1 := by rw [h1, hsr]; rfl
      rw [if_pos e]
      have ep : a.prev = zeroH := by
        cases l with
        | nil => simp at ha
        | cons x l =>
          simp only [List.getElem?_cons_zero, Option.some.injEq] at ha
          subst ha
          exact hl.2.1
      rw [ep] at h2
      simpa using h2
    | succ k =>
      rw [take_last (by omega)]
      cases hc : l[k]? with
      | none => rw [List.getElem?_eq_none_iff] at hc; omega
      | some c =>
        have ep := linked_prev hs l 1 zeroH 0 hl k c a hc ha
        refine sound_gap _ _ (by show b.serial ≠ 1; omega) (.inr ?_)
        show hs c ≠ b.prev
        rw [← ep]
        exact Ne.symm h2
  obtain ⟨T, g1, g2, g3⟩ := judge_cut hs m.fits (l.take k) b (l.drop (k + 1)) (linked_take hs l k _ _ _ hl) hb (drop_serial hl k)
  exact ⟨T, g1, by omega, g3⟩
/-- a clone stands in its place, and has another hash -/
theorem judged_clone {m : Mst} {hs : Rc → H} {kk : Int} {l : List Rc} (hl : Linked hs 1 zeroH 0 l) {k : Nat} {a c : Rc} (ha : l[k]? = some a) (h1 : c.serial = a.serial) (h2 : c.prev = a.prev) (h3 : c.seen = a.seen) (h4 : hs c ≠ hs a) (h : Own m kk (l.take k ++ c :: l.drop (k + 1))) :
    ∃ T, m.judged hs kk = (l.take k ++ [c]).map (good hs m.fits) ++ T ∧ T.length = l.length - (k + 1) ∧ ∀ j ∈ T, j.sound = false ∧ j.counts = false := by
  unfold Mst.judged
  rw [own_eq h]
  have hk : k < l.length := (List.getElem?_eq_some_iff.1 ha).1
  have hA : Linked hs 1 zeroH 0 (l.take k ++ [c]) := by
    refine linked_snoc hs (l.take k) 1 zeroH 0 a c ?_ h1 h2 h3
    have := linked_take hs l (k + 1) 1 zeroH 0 hl
    rw [List.take_add_one, ha] at this
    exact this
  rcases Nat.lt_or_ge (k + 1) l.length with hlt | hge
  · have hb := List.getElem?_eq_getElem hlt
    have hsr := linked_serial hs l 1 zeroH 0 hl _ _ hb
    have ep := linked_prev hs l 1 zeroH 0 hl k a _ ha hb
    have hu : soundOf (((l.take k ++ [c]).map (good hs m.fits)).getLast?) ⟨l[k + 1], hs l[k + 1]⟩ = false := by
      rw [last_good, List.getLast?_append]
      refine sound_gap _ _ (by show l[k + 1].serial ≠ 1; omega) (.inr ?_)
      show hs c ≠ l[k + 1].prev
      rw [ep]
      exact h4
    obtain ⟨T, g1, g2, g3⟩ := judge_cut hs m.fits (l.take k ++ [c]) l[k + 1] (l.drop (k + 1 + 1)) hA hu (drop_serial hl (k + 1))
    refine ⟨T, ?_, by rw [g2, List.length_drop]; omega, g3⟩
    rw [← g1, List.drop_eq_getElem_cons hlt]
    simp
  · refine ⟨[], ?_, by simp; omega, fun j hj => by cases hj⟩
    rw [List.drop_of_length_le hge, List.append_nil]
    exact judge_chain hs m.fits _ hA
end Go.Proofs.YtpblfpnldbdncaaGreatDoor.Mg
namespace Go.Proofs.YtpblfpnldbdncaaGreatDoor.Mg
open Sg
set_option linter.unusedVariables false
/-- one call: a batch of one receipt, or an output -/
noncomputable def Mst.op (m : Mst) (ver : Int → Rc → Bool) (hs : Rc → H) (f : Int → H) : Rc ⊕ Int → Mst
  | .inl r => (m.take ver hs r.kiosk [r]).1
  | .inr k => (m.learn k (f k)).1
noncomputable def Mst.run (ver : Int → Rc → Bool) (hs : Rc → H) (f : Int → H) : Mst → List (Rc ⊕ Int) → Mst
  | m, [] => m
  | m, o :: l => Mst.run ver hs f (m.op ver hs f o) l
/-- a receipt that is right for these kiosks, or of a kiosk that is not known -/
def Right (ver : Int → Rc → Bool) (pub : Int → Option Int) (r : Rc) : Prop := 1 ≤ r.serial ∧ (pub r.kiosk = none ∨ ∃ y, pub r.kiosk = some y ∧ ver y r = true)
theorem op_take {m : Mst} {ver : Int → Rc → Bool} {hs : Rc → H} {f : Int → H} {S : Rc → Prop} {r : Rc} (h : m.KeptIs S) (hr : Right ver m.pub r) (hs' : Sole fun x => S x ∨ (x = r ∧ (m.pub x.kiosk).isSome = true)) :
    (m.op ver hs f (.inl r)).KeptIs (fun x => S x ∨ (x = r ∧ (m.pub x.kiosk).isSome = true)) ∧ (m.op ver hs f (.inl r)).pub = m.pub ∧ (m.op ver hs f (.inl r)).outs = m.outs ∧ (m.op ver hs f (.inl r)).clones = m.clones := by
  obtain ⟨h1, h2⟩ := hr
  rcases h2 with h2 | ⟨y, h2, h3⟩
  · have e : m.op ver hs f (.inl r) = m := by
      show (m.take ver hs r.kiosk [r]).1 = m
      rw [take_none h2]
    rw [e]
    refine ⟨KeptIs.congr h fun x => ?_, rfl, rfl, rfl⟩
    constructor
    · exact .inl
    · rintro (a | ⟨rfl, a⟩)
      · exact a
      · rw [h2] at a; cases a
  · have hsole : Sole fun x => S x ∨ x ∈ [r] := hs'.sub fun x hx => by
      rcases hx with hx | hx
      · exact .inl hx
      · have : x = r := by simpa using hx
        subst this
        exact .inr ⟨rfl, by rw [h2]; rfl⟩
    have e : m.op ver hs f (.inl r) = (m.keeps [r]).1 := (take_fine (ver := ver) (hs := hs) (k := r.kiosk) (l := [r]) h2 (fun x hx => by
      have : x = r := by simpa using hx
      subst this
      exact ⟨rfl, h1, h3⟩) h hsole).1
    rw [e]
    obtain ⟨g1, _, g3, g4, g5⟩ := keeps_ok [r] m S h hsole
    refine ⟨KeptIs.congr g1 fun x => ?_, g3, g4, g5⟩
    constructor
    · rintro (a | a)
      · exact .inl a
      · have : x = r := by simpa using a
        subst this
        exact .inr ⟨rfl, by rw [h2]; rfl⟩
    · rintro (a | ⟨rfl, _⟩)
      · exact .inl a
      · exact .inr (by simp)
theorem run_ok (ver : Int → Rc → Bool) (hs : Rc → H) (f : Int → H) (l : List (Rc ⊕ Int)) : ∀ (m : Mst) (S : Rc → Prop) (K : Int → Prop), m.KeptIs S → m.OutsAre f K → (∀ r, .inl r ∈ l → Right ver m.pub r) → (Sole fun x => S x ∨ (.inl x ∈ l ∧ (m.pub x.kiosk).isSome = true)) →
    (m.run ver hs f l).KeptIs (fun x => S x ∨ (.inl x ∈ l ∧ (m.pub x.kiosk).isSome = true)) ∧ (m.run ver hs f l).OutsAre f (fun k => K k ∨ (.inr k ∈ l ∧ 1 ≤ k)) ∧ (m.run ver hs f l).pub = m.pub ∧ (m.run ver hs f l).clones = m.clones := by
  induction l with
  | nil =>
    intro m S K h h2 _ _
    exact ⟨KeptIs.congr h (fun x => by simp), outs_congr h2 (fun k => by simp), rfl, rfl⟩
  | cons o l ih =>
    intro m S K h h2 h3 h4
    cases o with
    | inl r =>
      obtain ⟨g1, g2, g3, g4⟩ := op_take (ver := ver) (hs := hs) (f := f) (r := r) h (h3 r (by simp)) (h4.sub fun x hx => by
        rcases hx with hx | ⟨rfl, hx⟩
        · exact .inl hx
        · exact .inr ⟨by simp, hx⟩)
      have i2 : (m.op ver hs f (.inl r)).OutsAre f K := fun k x => by rw [g3]; exact h2 k x
      obtain ⟨j1, j2, j3, j4⟩ := ih (m.op ver hs f (.inl r)) _ K g1 i2 (fun x hx => by rw [g2]; exact h3 x (by simp [hx])) (h4.sub fun x hx => by
        rw [g2] at hx
        rcases hx with (hx | ⟨rfl, hx⟩) | ⟨hx, hy⟩
        · exact .inl hx
        · exact .inr ⟨by simp, hx⟩
        · exact .inr ⟨by simp [hx], hy⟩)
      refine ⟨KeptIs.congr j1 fun x => ?_, outs_congr j2 fun k => by simp, j3.trans g2, j4.trans g4⟩
      rw [g2]
      constructor
      · rintro ((a | ⟨rfl, a⟩) | ⟨a, b⟩)
        · exact .inl a
        · exact .inr ⟨by simp, a⟩
        · exact .inr ⟨by simp [a], b⟩
      · rintro (a | ⟨a, b⟩)
        · exact .inl (.inl a)
        · rcases List.mem_cons.1 a with a | a
          · injection a with a
            exact .inl (.inr ⟨a, b⟩)
          · exact .inr ⟨a, b⟩
    | inr rd =>
      obtain ⟨g1, g2, g3, g4⟩ := learn_ok h2 rd
      have i1 : (m.op ver hs f (.inr rd)).KeptIs S := fun k s x => by
        show ((m.learn rd (f rd)).1).kept k s = some x ↔ _
        rw [g3]
        exact h k s x
      have ep : (m.op ver hs f (.inr rd)).pub = m.pub := g2
      obtain ⟨j1, j2, j3, j4⟩ := ih (m.op ver hs f (.inr rd)) S _ i1 g1 (fun x hx => by rw [ep]; exact h3 x (by simp [hx])) (h4.sub fun x hx => by
        rw [ep] at hx
        rcases hx with hx | ⟨hx, hy⟩
        · exact .inl hx
        · exact .inr ⟨by simp [hx], hy⟩)
      refine ⟨KeptIs.congr j1 fun x => ?_, outs_congr j2 fun k => ?_, j3.trans g2, j4.trans g4⟩
      · rw [ep]
        simp
      · constructor
        · rintro ((a | ⟨rfl, a⟩) | ⟨a, b⟩)
          · exact .inl a
          · exact .inr ⟨by simp, a⟩
          · exact .inr ⟨by simp [a], b⟩
        · rintro (a | ⟨a, b⟩)
          · exact .inl (.inl a)
          · rcases List.mem_cons.1 a with a | a
            · injection a with a
              exact .inl (.inr ⟨a, a ▸ b⟩)
            · exact .inr ⟨a, b⟩
/-- two runs over the same receipts and rounds end in one state -/
theorem run_same (ver : Int → Rc → Bool) (hs : Rc → H) (f : Int → H) (l l' : List (Rc ⊕ Int)) (m : Mst) (S : Rc → Prop) (K : Int → Prop) (h : m.KeptIs S) (h2 : m.OutsAre f K) (h3 : ∀ r, .inl r ∈ l → Right ver m.pub r) (h4 : Sole fun x => S x ∨ (.inl x ∈ l ∧ (m.pub x.kiosk).isSome = true))
    (e1 : ∀ r : Rc, .inl r ∈ l ↔ .inl r ∈ l') (e2 : ∀ k : Int, 1 ≤ k → (.inr k ∈ l ↔ .inr k ∈ l')) : m.run ver hs f l = m.run ver hs f l' := by
  obtain ⟨a1, a2, a3, a4⟩ := run_ok ver hs f l m S K h h2 h3 h4
  obtain ⟨b1, b2, b3, b4⟩ := run_ok ver hs f l' m S K h h2 (fun r hr => h3 r ((e1 r).2 hr)) (h4.sub fun x hx => by rw [e1 x]; exact hx)
  refine state_eq a1 (KeptIs.congr b1 fun x => by rw [e1 x]) a2 (outs_congr b2 fun k => ?_) (a3.trans b3.symm) (a4.trans b4.symm)
  constructor
  · rintro (a | ⟨a, b⟩)
    · exact .inl a
    · exact .inr ⟨(e2 k b).2 a, b⟩
  · rintro (a | ⟨a, b⟩)
    · exact .inl a
    · exact .inr ⟨(e2 k b).1 a, b⟩
/-- receipts by numbers whose serials only grow: no two in one place -/
def gen (g : Sale → Pos → Rc) (nx : Sale → Pos → Pos) : (Nat → Pos) → List Sale → List Rc
  | _, [] => []
  | st, x :: l => g x (st (x.kiosk % 4)) :: gen g nx (put st (x.kiosk % 4) (nx x (st (x.kiosk % 4)))) l
theorem gen_above {g : Sale → Pos → Rc} {nx : Sale → Pos → Pos} (h1 : ∀ x p, (g x p).kiosk = ((x.kiosk % 4 : Nat) : Int) ∧ (g x p).serial = p.serial + 1 ∧ (nx x p).serial = p.serial + 1) (l : List Sale) :
    ∀ st : Nat → Pos, (∀ r ∈ gen g nx st l, ∃ n < 4, r.kiosk = ((n : Nat) : Int) ∧ (st n).serial < r.serial) ∧ (gen g nx st l).Pairwise (fun a b => a.kiosk = b.kiosk → a.serial < b.serial) := by
  induction l with
  | nil => intro st; exact ⟨fun r hr => (by cases hr), List.Pairwise.nil⟩
  | cons x l ih =>
    intro st
    obtain ⟨a1, a2, a3⟩ := h1 x (st (x.kiosk % 4))
    obtain ⟨i1, i2⟩ := ih (put st (x.kiosk % 4) (nx x (st (x.kiosk % 4))))
    refine ⟨fun r hr => ?_, List.pairwise_cons.2 ⟨fun r hr he => ?_, i2⟩⟩
    · rcases List.mem_cons.1 hr with rfl | hr
      · exact ⟨x.kiosk % 4, Nat.mod_lt _ (by omega), a1, by omega⟩
      · obtain ⟨n, hn, b1, b2⟩ := i1 r hr
        refine ⟨n, hn, b1, ?_⟩
        unfold put at b2
        split at b2
        · rename_i e
          subst e
          omega
        · exact b2
    · obtain ⟨n, hn, b1, b2⟩ := i1 r hr
      have e : n = x.kiosk % 4 := by
        rw [a1, b1] at he
        omega
      subst e
      rw [put, if_pos rfl] at b2
      omega
theorem gen_sole {g : Sale → Pos → Rc} {nx : Sale → Pos → Pos} (h1 : ∀ x p, (g x p).kiosk = ((x.kiosk % 4 : Nat) : Int) ∧ (g x p).serial = p.serial + 1 ∧ (nx x p).serial = p.serial + 1) (l : List Sale) (st : Nat → Pos) : Sole fun r => r ∈ gen g nx st l := by
  have h := (gen_above h1 l st).2
  generalize gen g nx st l = L at h
  intro a b ha hb e1 e2
  induction L with
  | nil => cases ha
  | cons x L ih =>
    obtain ⟨p1, p2⟩ := List.pairwise_cons.1 h
    rcases List.mem_cons.1 ha with rfl | ha'
    · rcases List.mem_cons.1 hb with rfl | hb'
      · rfl
      · have := p1 b hb' e1
        omega
    · rcases List.mem_cons.1 hb with rfl | hb'
      · have := p1 a ha' e1.symm
        omega
      · exact ih p2 ha' hb'
end Go.Proofs.YtpblfpnldbdncaaGreatDoor.Mg
namespace Go.Proofs.YtpblfpnldbdncaaGreatDoor.Mg
open Sg
set_option linter.unusedVariables false
/-- the list has the outputs that the map has, in order -/
def OutsList (o : Int → Option H) (L : List (Int × H)) : Prop := L.Pairwise (fun a b => a.1 < b.1) ∧ ∀ k x, (k, x) ∈ L ↔ o k = some x
/-- what the reference's Learn does -/
def rlearn (L : List (Int × H)) (rd : Int) (h : H) : List (Int × H) × Nat :=
  if rd < 1 then (L, 1) else
  match L.find? (fun a => decide (a.1 = rd)) with
  | some a => (L, if a.2 = h then 2 else 3)
  | none => (L.filter (fun a => decide (a.1 < rd)) ++ (rd, h) :: L.filter (fun a => !decide (a.1 < rd)), 0)
theorem outs_nil : OutsList (fun _ => none) [] := ⟨List.Pairwise.nil, fun k x => by simp⟩
theorem learn_ref {m : Mst} {L : List (Int × H)} (hL : OutsList m.outs L) (rd : Int) (h : H) : (m.learn rd h).2 = (rlearn L rd h).2 ∧ OutsList (m.learn rd h).1.outs (rlearn L rd h).1 := by
  obtain ⟨h1, h2⟩ := hL
  unfold Mst.learn rlearn
  by_cases h0 : rd < 1
  · rw [if_pos h0, if_pos h0]
    exact ⟨rfl, h1, h2⟩
  · rw [if_neg h0, if_neg h0]
    cases hf : L.find? (fun a => decide (a.1 = rd)) with
    | some a =>
      have e1 : a.1 = rd := by simpa using List.find?_some hf
      have e2 := List.mem_of_find?_eq_some hf
      have e3 : m.outs rd = some a.2 := (h2 rd a.2).1 (by rw [← e1]; exact e2)
      rw [e3]
      exact ⟨rfl, h1, h2⟩
    | none =>
      have e1 : ∀ a ∈ L, a.1 ≠ rd := fun a ha => by
        have := List.find?_eq_none.1 hf a ha
        simpa using this
      have e2 : m.outs rd = none := by
        cases ho : m.outs rd with
        | none => rfl
        | some x => exact absurd rfl (e1 _ ((h2 rd x).2 ho))
      rw [e2]
      refine ⟨rfl, ?_, fun k x => ?_⟩
      · refine List.pairwise_append.2 ⟨h1.sublist List.filter_sublist, List.pairwise_cons.2 ⟨fun b hb => ?_, h1.sublist List.filter_sublist⟩, fun a ha b hb => ?_⟩
        · obtain ⟨b1, b2⟩ := List.mem_filter.1 hb
          have b3 : ¬ b.1 < rd := by simpa using b2
          have := e1 b b1
          show rd < b.1
          omega
        · obtain ⟨a1, a2⟩ := List.mem_filter.1 ha
          have a3 : a.1 < rd := by simpa using a2
          rcases List.mem_cons.1 hb with rfl | hb
          · exact a3
          · obtain ⟨b1, b2⟩ := List.mem_filter.1 hb
            have b3 : ¬ b.1 < rd := by simpa using b2
            omega
      · show _ ↔ (if k = rd then some h else m.outs k) = some x
        rw [List.mem_append, List.mem_cons, List.mem_filter, List.mem_filter]
        by_cases e : k = rd
        · subst e
          rw [if_pos rfl]
          constructor
          · rintro (⟨a, _⟩ | a | ⟨a, _⟩)
            · exact absurd rfl (e1 _ a)
            · injection a with _ a
              rw [a]
            · exact absurd rfl (e1 _ a)
          · intro a
            injection a with a
            exact .inr (.inl (by rw [a]))
        · rw [if_neg e, ← h2 k x]
          constructor
          · rintro (⟨a, _⟩ | a | ⟨a, _⟩)
            · exact a
            · injection a with a _
              exact absurd a e
            · exact a
          · intro a
            by_cases hlt : k < rd
            · exact .inl ⟨a, by simpa using hlt⟩
            · exact .inr (.inr ⟨a, by simpa using hlt⟩)
/-- the list is one alone -/
theorem outs_unique : ∀ {L M : List (Int × H)}, L.Pairwise (fun a b => a.1 < b.1) → M.Pairwise (fun a b => a.1 < b.1) → (∀ a, a ∈ L ↔ a ∈ M) → L = M
  | [], [], _, _, _ => rfl
  | [], x :: M, _, _, h => absurd ((h x).2 (by simp)) (by simp)
  | x :: L, [], _, _, h => absurd ((h x).1 (by simp)) (by simp)
  | x :: L, y :: M, h1, h2, h => by
    obtain ⟨a1, a2⟩ := List.pairwise_cons.1 h1
    obtain ⟨b1, b2⟩ := List.pairwise_cons.1 h2
    have e : x = y := by
      rcases List.mem_cons.1 ((h x).1 (by simp)) with e | e
      · exact e
      · rcases List.mem_cons.1 ((h y).2 (by simp)) with e' | e'
        · exact e'.symm
        · have := b1 x e
          have := a1 y e'
          omega
    subst e
    congr 1
    refine outs_unique a2 b2 fun r => ?_
    constructor
    · intro hr
      rcases List.mem_cons.1 ((h r).1 (by simp [hr])) with rfl | h3
      · have := a1 _ hr
        omega
      · exact h3
    · intro hr
      rcases List.mem_cons.1 ((h r).2 (by simp [hr])) with rfl | h3
      · have := b1 _ hr
        omega
      · exact h3
/-- the reference looks for the place behind the last smaller round: the two halves of an ordered list -/
theorem split_at (L : List (Int × H)) (h : L.Pairwise (fun a b => a.1 < b.1)) (rd : Int) : ∃ n ≤ L.length, L.take n = L.filter (fun a => decide (a.1 < rd)) ∧ L.drop n = L.filter (fun a => !decide (a.1 < rd)) := by
  induction L with
  | nil => exact ⟨0, Nat.le_refl _, rfl, rfl⟩
  | cons x L ih =>
    obtain ⟨a1, a2⟩ := List.pairwise_cons.1 h
    by_cases hx : x.1 < rd
    · obtain ⟨n, h1, h2, h3⟩ := ih a2
      refine ⟨n + 1, by rw [List.length_cons]; omega, ?_, ?_⟩
      · rw [List.take_succ_cons, List.filter_cons, if_pos (by simpa using hx), h2]
      · rw [List.drop_succ_cons, List.filter_cons, if_neg (by simpa using hx), h3]
    · refine ⟨0, Nat.zero_le _, ?_, ?_⟩
      · rw [List.take_zero, eq_comm, List.filter_eq_nil_iff]
        intro b hb
        rcases List.mem_cons.1 hb with rfl | hb
        · simpa using hx
        · have := a1 b hb
          simp
          omega
      · rw [List.drop_zero, eq_comm, List.filter_eq_self]
        intro b hb
        rcases List.mem_cons.1 hb with rfl | hb
        · simpa using hx
        · have := a1 b hb
          simp
          omega
end Go.Proofs.YtpblfpnldbdncaaGreatDoor.Mg
namespace Go.Proofs.YtpblfpnldbdncaaGreatDoor.Mg
open Sg
set_option linter.unusedVariables false
/-- the receipts of the three kiosks are all but those of kiosk 0 -/
theorem own_sum (l : List Rc) (h : ∀ r ∈ l, ∃ n < 4, r.kiosk = ((n : Nat) : Int)) : (own 1 l).length + (own 2 l).length + (own 3 l).length = (l.filter fun r => decide (r.kiosk ≠ 0)).length := by
  induction l with
  | nil => rfl
  | cons x l ih =>
    have h1 := ih fun r hr => h r (by simp [hr])
    obtain ⟨n, hn, e⟩ := h x (by simp)
    unfold own at h1 ⊢
    simp only [List.filter_cons]
    have hcases : n = 0 ∨ n = 1 ∨ n = 2 ∨ n = 3 := by omega
    rcases hcases with rfl | rfl | rfl | rfl <;> simp [e] <;> simp at h1 <;> omega
/-- a state in which all that the kiosks 1 to 3 printed has arrived -/
structure Full (X : Out) (m : Mst) (l : List Rc) : Prop where
  kept : m.KeptIs fun r => r ∈ l ∧ r.kiosk ≠ 0
  chain : ∀ n, n < 4 → Linked (rh X) 1 zeroH 0 (own n l)
  fit : ∀ r ∈ l, m.fits r = true
theorem Full.own {X : Out} {m : Mst} {l : List Rc} (h : Full X m l) (n : Nat) (h1 : 1 ≤ n) (h2 : n < 4) : Own m ((n : Nat) : Int) (Mg.own n l) := by
  refine own_of h.kept _ _ (linked_sorted (rh X) _ _ _ _ (h.chain n h2)).2 fun r => ?_
  unfold Mg.own
  rw [List.mem_filter]
  constructor
  · rintro ⟨a, b⟩
    have b' : r.kiosk = (n : Int) := by simpa using b
    exact ⟨⟨a, by omega⟩, b'⟩
  · rintro ⟨⟨a, _⟩, b⟩
    exact ⟨a, by simpa using b⟩
theorem Full.sound {X : Out} {m : Mst} {l : List Rc} (h : Full X m l) (n : Nat) (h1 : 1 ≤ n) (h2 : n < 4) : (m.judged (rh X) ((n : Nat) : Int)).any (fun j => !j.sound) = false :=
  chain_sound (h.own n h1 h2) (h.chain n h2)
theorem Full.noback {X : Out} {m : Mst} {l : List Rc} (h : Full X m l) (n : Nat) (h1 : 1 ≤ n) (h2 : n < 4) : ∀ j ∈ m.judged (rh X) ((n : Nat) : Int), j.back = false :=
  chain_noback (h.own n h1 h2) (h.chain n h2)
theorem Full.parts {X : Out} {m : Mst} {l : List Rc} (h : Full X m l) (n : Nat) (h1 : 1 ≤ n) (h2 : n < 4) (round : Int) (names : List (List UInt8)) (hn : names.Nodup) (hd : ∀ r ∈ l, r.draw ∈ names) :
    ((names.map fun d => (m.pick (rh X) (fun r => decide (r.draw = d) && decide (r.seen < round)) ((n : Nat) : Int)).length + (m.pick (rh X) (fun r => decide (r.draw = d) && decide (round ≤ r.seen)) ((n : Nat) : Int)).length).sum) = (Mg.own n l).length :=
  pick_parts (h.own n h1 h2) (h.chain n h2) (fun r hr => h.fit r (List.mem_filter.1 hr).1) round names hn (fun r hr => hd r (List.mem_filter.1 hr).1)
/-- what is picked is of the draw, and on its side of the round -/
theorem pick_test {m : Mst} {hs : Rc → H} {k : Int} {test : Rc → Bool} : ∀ r ∈ m.pick hs test k, test r = true := by
  intro r hr
  obtain ⟨j, hj, rfl⟩ := List.mem_map.1 hr
  have := (List.mem_filter.1 hj).2
  rw [Bool.and_eq_true] at this
  exact this.2
/-- all that honest kiosks printed, counted over draws, sides and kiosks -/
theorem Full.total {X : Out} {m : Mst} {l : List Rc} (h : Full X m l) (hk : ∀ r ∈ l, ∃ n < 4, r.kiosk = ((n : Nat) : Int)) (round : Int) (names : List (List UInt8)) (hn : names.Nodup) (hd : ∀ r ∈ l, r.draw ∈ names) :
    ((names.map fun d => (m.pick (rh X) (fun r => decide (r.draw = d) && decide (r.seen < round)) 1).length + (m.pick (rh X) (fun r => decide (r.draw = d) && decide (round ≤ r.seen)) 1).length).sum) +
    ((names.map fun d => (m.pick (rh X) (fun r => decide (r.draw = d) && decide (r.seen < round)) 2).length + (m.pick (rh X) (fun r => decide (r.draw = d) && decide (round ≤ r.seen)) 2).length).sum) +
    ((names.map fun d => (m.pick (rh X) (fun r => decide (r.draw = d) && decide (r.seen < round)) 3).length + (m.pick (rh X) (fun r => decide (r.draw = d) && decide (round ≤ r.seen)) 3).length).sum) = (l.filter fun r => decide (r.kiosk ≠ 0)).length := by
  have e1 := h.parts 1 (by omega) (by omega) round names hn hd
  have e2 := h.parts 2 (by omega) (by omega) round names hn hd
  have e3 := h.parts 3 (by omega) (by omega) round names hn hd
  rw [← own_sum l hk, ← e1, ← e2, ← e3]
  rfl
end Go.Proofs.YtpblfpnldbdncaaGreatDoor.Mg
