/- Plain arithmetic for package group: no program in sight. -/
import Derived.Lib.BitFns
import Derived.WalkSmall
import Derived.Laws.Bits128
namespace Go.Proofs.Ytfligfompdcddaa.Num
set_option linter.unusedVariables false

theorem tmod_neg (a m : Int) (hm : 1 ≤ m) (h : a.tmod m < 0) : a.tmod m + m = a % m := by
  have h1 := Int.tmod_eq_emod (a := a) (b := m)
  have h2 := Int.emod_nonneg a (show m ≠ 0 by omega)
  have h3 := Int.emod_lt_of_pos a (show 0 < m by omega)
  have h4 : (m.natAbs : Int) = m := by omega
  split at h1 <;> omega
theorem tmod_pos (a m : Int) (hm : 1 ≤ m) (h : 0 ≤ a.tmod m) : a.tmod m = a % m := by
  have h1 := Int.tmod_eq_emod (a := a) (b := m)
  have h2 := Int.emod_nonneg a (show m ≠ 0 by omega)
  have h3 := Int.emod_lt_of_pos a (show 0 < m by omega)
  have h4 : (m.natAbs : Int) = m := by omega
  split at h1 <;> omega
theorem tmod_lo (a m : Int) (hm : 1 ≤ m) : -m < a.tmod m ∧ a.tmod m < m := by
  have h1 := Int.tmod_eq_emod (a := a) (b := m)
  have h2 := Int.emod_nonneg a (show m ≠ 0 by omega)
  have h3 := Int.emod_lt_of_pos a (show 0 < m by omega)
  have h4 : (m.natAbs : Int) = m := by omega
  by_cases h0 : 0 ≤ a ∨ m ∣ a
  · rw [if_pos h0] at h1; omega
  · rw [if_neg h0] at h1
    have : a % m ≠ 0 := fun h => h0 (Or.inr (Int.dvd_of_emod_eq_zero h))
    omega

theorem plus_ge (x y m : Int) (hx : x < m) (hy : y < m) (h : m ≤ x + y) : x + y - m = (x + y) % m := by
  rw [← Int.emod_eq_of_lt (a := x + y - m) (b := m) (by omega) (by omega), Int.sub_emod_right]
theorem plus_lt (x y m : Int) (hx0 : 0 ≤ x) (hy0 : 0 ≤ y) (h : x + y < m) : x + y = (x + y) % m :=
  (Int.emod_eq_of_lt (by omega) h).symm

theorem lt_bitLen (y : Nat) (h : y < 2 ^ 64) : y < 2 ^ Lib.bitLen y := by
  have aux : ∀ (f y : Nat), y < 2 ^ f → y < 2 ^ Lib.bitLenAux f y := by
    intro f
    induction f with
    | zero => intro y h; simp [Lib.bitLenAux]; simpa using h
    | succ f ih =>
      intro y h
      simp only [Lib.bitLenAux]
      split
      · subst_vars; simp
      · have := ih (y / 2) (by rw [Nat.pow_succ] at h; omega)
        rw [Nat.add_comm, Nat.pow_succ]; omega
  exact aux 64 y h
theorem bitLen_le (y : Nat) : Lib.bitLen y ≤ 64 := by
  have aux : ∀ (f y : Nat), Lib.bitLenAux f y ≤ f := by
    intro f
    induction f with
    | zero => intro y; simp [Lib.bitLenAux]
    | succ f ih => intro y; simp only [Lib.bitLenAux]; split; omega; have := ih (y / 2); omega
  exact aux 64 y

/-- one round of 'double, and add': the bit is 1 -/
theorem round_one (x y m L i : Nat) (hi : i < L) (h : y / 2 ^ (L - 1 - i) % 2 = 1) :
    (((x * (y / 2 ^ (L - i))) % m + (x * (y / 2 ^ (L - i))) % m) % m + x) % m = (x * (y / 2 ^ (L - (i + 1)))) % m := by
  have e : L - i = (L - 1 - i) + 1 := by omega
  have e2 : L - (i + 1) = L - 1 - i := by omega
  rw [e, e2, Nat.pow_succ, ← Nat.div_div_eq_div_mul]
  generalize y / 2 ^ (L - 1 - i) = z at *
  have hz : z = z / 2 + z / 2 + 1 := by omega
  conv => rhs; rw [hz]
  simp only [Nat.mul_add, Nat.mul_one]
  rw [Nat.add_mod, Nat.mod_mod, ← Nat.add_mod, Nat.add_mod (x * (z / 2) % m + _) x, ← Nat.add_mod (x * (z / 2)), ← Nat.add_mod]
theorem round_zero (x y m L i : Nat) (hi : i < L) (h : ¬ y / 2 ^ (L - 1 - i) % 2 = 1) :
    ((x * (y / 2 ^ (L - i))) % m + (x * (y / 2 ^ (L - i))) % m) % m = (x * (y / 2 ^ (L - (i + 1)))) % m := by
  have e : L - i = (L - 1 - i) + 1 := by omega
  have e2 : L - (i + 1) = L - 1 - i := by omega
  rw [e, e2, Nat.pow_succ, ← Nat.div_div_eq_div_mul]
  generalize y / 2 ^ (L - 1 - i) = z at *
  have hz : z = z / 2 + z / 2 := by omega
  conv => rhs; rw [hz]
  rw [Nat.mul_add, ← Nat.add_mod]

/-- what 'double, and add' holds behind k of L rounds -/
def mulAt (x y m L k : Nat) : Nat := x * (y / 2 ^ (L - k)) % m
theorem mulAt_lt (x y m L k : Nat) (h : 0 < m) : mulAt x y m L k < m := Nat.mod_lt _ h
theorem mulAt_start (x y m L : Nat) (h : y < 2 ^ L) : mulAt x y m L 0 = 0 := by simp [mulAt, Nat.div_eq_of_lt h]
/-- the product modulo m -/
def mulN (x y m : Nat) : Nat := x * y % m
theorem mulAt_end (x y m L : Nat) : mulAt x y m L L = mulN x y m := by simp [mulAt, mulN]
theorem mulN_lt (x y m : Nat) (h : 0 < m) : mulN x y m < m := Nat.mod_lt _ h
theorem mulAt_one (x y m L i : Nat) (hi : i < L) (h : y / 2 ^ (L - 1 - i) % 2 = 1) : ((mulAt x y m L i + mulAt x y m L i) % m + x) % m = mulAt x y m L (i + 1) := round_one x y m L i hi h
theorem mulAt_zero (x y m L i : Nat) (hi : i < L) (h : ¬ y / 2 ^ (L - 1 - i) % 2 = 1) : (mulAt x y m L i + mulAt x y m L i) % m = mulAt x y m L (i + 1) := round_zero x y m L i hi h
theorem mul_final (a b : Int) (x y m : Nat) (ha : a % (m : Int) = x) (hb : b % (m : Int) = y) : ((mulN x y m : Nat) : Int) = a * b % m := by
  rw [mulN, Int.natCast_emod, Int.natCast_mul, ← ha, ← hb, ← Int.mul_emod]

theorem mulAt_one' (x y m L i : Nat) (hi : i < L) (h : y / 2 ^ (L - 1 - i) % 2 = 1) : ((mulAt x y m L i : Nat) + (mulAt x y m L i : Nat) + (x : Int)) % (m : Int) = (mulAt x y m L (i + 1) : Nat) := by
  rw [← mulAt_one x y m L i hi h]; simp
theorem mulAt_zero' (x y m L i : Nat) (hi : i < L) (h : ¬ y / 2 ^ (L - 1 - i) % 2 = 1) : ((mulAt x y m L i : Nat) + (mulAt x y m L i : Nat) : Int) % (m : Int) = (mulAt x y m L (i + 1) : Nat) := by
  rw [← mulAt_zero x y m L i hi h]; simp
theorem bit_cast (y k : Nat) : ((y : Int) / 2 ^ k) = ((y / 2 ^ k : Nat) : Int) := by simp

theorem bit_true (y k : Nat) (hy : y < 18446744073709551616) (h : y / 2 ^ k % 2 = 1) : (bits BinOp.and IntKind.u64 ((y : Int) / 2 ^ k) 1 == 1) = true := by
  have hd := Nat.div_le_self y (2 ^ k)
  rw [bit_cast]
  generalize y / 2 ^ k = z at *
  rw [and_one_u64 _ (by omega) (by omega)]
  simp; omega
theorem bit_false (y k : Nat) (hy : y < 18446744073709551616) (h : ¬ y / 2 ^ k % 2 = 1) : (bits BinOp.and IntKind.u64 ((y : Int) / 2 ^ k) 1 == 1) = false := by
  have hd := Nat.div_le_self y (2 ^ k)
  rw [bit_cast]
  generalize y / 2 ^ k = z at *
  rw [and_one_u64 _ (by omega) (by omega)]
  simp; omega

/-! what the functions of package group compute, for every argument -/
def addZ (a b m : Int) : Int := if m < 1 then 0 else (a + b) % m
def subZ (a b m : Int) : Int := if m < 1 then 0 else (a - b) % m
def mulZ (a b m : Int) : Int := if m < 1 then 0 else a * b % m
def powZ (a n m : Int) : Int := if m < 1 ∨ n < 0 then 0 else a ^ n.toNat % m
theorem natres (a m : Int) (h : 1 ≤ m) : ∃ x M : Nat, m = M ∧ a % (M : Int) = x ∧ x < M ∧ 1 ≤ M :=
  ⟨(a % m).toNat, m.toNat, by omega, by
    have e1 := Int.emod_nonneg a (show m ≠ 0 by omega)
    rw [Int.toNat_of_nonneg (by omega : 0 ≤ m)]; omega, by
    have e1 := Int.emod_nonneg a (show m ≠ 0 by omega)
    have e2 := Int.emod_lt_of_pos a (show 0 < m by omega)
    omega, by omega⟩
theorem natres2 (a b m : Int) (h : 1 ≤ m) : ∃ x y M : Nat, m = M ∧ a % (M : Int) = x ∧ b % (M : Int) = y ∧ x < M ∧ y < M ∧ 1 ≤ M := by
  obtain ⟨x, M, e, hx, hl, h1⟩ := natres a m h
  subst e
  obtain ⟨y, M', e', hy, hl', _⟩ := natres b M h
  obtain rfl : M = M' := by omega
  exact ⟨x, y, M, rfl, hx, hy, hl, hl', h1⟩

theorem pow_emod (x m : Int) (k : Nat) : (x % m) ^ k % m = x ^ k % m := by
  induction k with
  | zero => simp
  | succ k ih => rw [Int.pow_succ, Int.pow_succ, Int.mul_emod, ih, Int.emod_emod, ← Int.mul_emod]
theorem powL_odd (p a m : Int) (k : Nat) (h : k % 2 = 1) : (p * a % m) * (a * a % m) ^ (k / 2) % m = p * a ^ k % m := by
  have e : k = (k / 2 + k / 2) + 1 := by omega
  conv => rhs; rw [e, Int.pow_succ, Int.pow_add, ← Int.mul_pow]
  rw [Int.mul_emod, Int.emod_emod, pow_emod, ← Int.mul_emod, Int.mul_assoc, Int.mul_comm a]
theorem powL_even (p a m : Int) (k : Nat) (h : k % 2 = 0) : p * (a * a % m) ^ (k / 2) % m = p * a ^ k % m := by
  have e : k = (k / 2 + k / 2) := by omega
  conv => rhs; rw [e, Int.pow_add, ← Int.mul_pow]
  rw [Int.mul_emod, pow_emod, ← Int.mul_emod]

/-! 'double, and add' from the least bit on -/
theorem mulL_odd (o x y m : Nat) (h : y % 2 = 1) : ((o + x) % m + ((x + x) % m) * (y / 2)) % m = (o + x * y) % m := by
  have e : y = y / 2 + y / 2 + 1 := by omega
  conv => rhs; rw [e, Nat.mul_add, Nat.mul_add, Nat.mul_one]
  rw [Nat.add_mod, Nat.mod_mod, Nat.mod_mul_mod, ← Nat.add_mod, Nat.add_mul]
  congr 1; omega
theorem mulL_even (o x y m : Nat) (h : y % 2 = 0) : (o + ((x + x) % m) * (y / 2)) % m = (o + x * y) % m := by
  have e : y = y / 2 + y / 2 := by omega
  conv => rhs; rw [e, Nat.mul_add]
  rw [Nat.add_mod, Nat.mod_mul_mod, ← Nat.add_mod, Nat.add_mul]

/-! powers modulo m that the kernel can reckon -/
def powMod : Nat → Nat → Nat → Nat → Nat
  | 0, _, _, m => 1 % m
  | f + 1, b, e, m => if e = 0 then 1 % m else if e % 2 = 1 then powMod f (b * b % m) (e / 2) m * b % m else powMod f (b * b % m) (e / 2) m
theorem natpow_mod (x m k : Nat) : (x % m) ^ k % m = x ^ k % m := by rw [← Nat.pow_mod]
theorem powMod_eq (f : Nat) : ∀ b e m : Nat, e < 2 ^ f → powMod f b e m = b ^ e % m := by
  induction f with
  | zero => intro b e m h; obtain rfl : e = 0 := by simpa using h
            simp [powMod]
  | succ f ih =>
    intro b e m h
    unfold powMod
    by_cases h0 : e = 0
    · subst h0; simp
    · rw [if_neg h0, ih _ _ _ (by rw [Nat.pow_succ] at h; omega), natpow_mod]
      split
      · have e2 : e = e / 2 + e / 2 + 1 := by omega
        conv => rhs; rw [e2, Nat.pow_succ, Nat.pow_add, ← Nat.mul_pow]
        rw [Nat.mod_mul_mod]
      · have e2 : e = e / 2 + e / 2 := by omega
        conv => rhs; rw [e2, Nat.pow_add, ← Nat.mul_pow]
theorem powZ_eq (b e m : Nat) (h1 : 1 ≤ m) (h : e < 2 ^ 64) : powZ b e m = (powMod 64 b e m : Nat) := by
  rw [powZ, if_neg (by omega), powMod_eq 64 b e m h, Int.toNat_natCast]; simp

/-! masks of an int -/
theorem and1 (n : Int) : bits .and .i64 n 1 = n % 2 := by
  have h127 : (BitVec.ofInt 64 1).toNat = 2 ^ 1 - 1 := by decide
  have key : (BitVec.ofInt 64 n &&& BitVec.ofInt 64 1).toNat = (n % ((2 ^ 64 : Nat) : Int)).toNat % 2 ^ 1 := by
    rw [BitVec.toNat_and, BitVec.toNat_ofInt, h127, Nat.and_two_pow_sub_one_eq_mod]
  show IntKind.i64.wrap ((BitVec.ofInt 64 n &&& BitVec.ofInt 64 1).toNat : Nat) = n % 2
  rw [key, IntKind.wrap_i64]
  omega
theorem and6 (n : Int) : bits .and .i64 n 63 = n % 64 := by
  have h127 : (BitVec.ofInt 64 63).toNat = 2 ^ 6 - 1 := by decide
  have key : (BitVec.ofInt 64 n &&& BitVec.ofInt 64 63).toNat = (n % ((2 ^ 64 : Nat) : Int)).toNat % 2 ^ 6 := by
    rw [BitVec.toNat_and, BitVec.toNat_ofInt, h127, Nat.and_two_pow_sub_one_eq_mod]
  show IntKind.i64.wrap ((BitVec.ofInt 64 n &&& BitVec.ofInt 64 63).toNat : Nat) = n % 64
  rw [key, IntKind.wrap_i64]
  omega
theorem and10 (n : Int) : bits .and .i64 n 1023 = n % 1024 := by
  have h127 : (BitVec.ofInt 64 1023).toNat = 2 ^ 10 - 1 := by decide
  have key : (BitVec.ofInt 64 n &&& BitVec.ofInt 64 1023).toNat = (n % ((2 ^ 64 : Nat) : Int)).toNat % 2 ^ 10 := by
    rw [BitVec.toNat_and, BitVec.toNat_ofInt, h127, Nat.and_two_pow_sub_one_eq_mod]
  show IntKind.i64.wrap ((BitVec.ofInt 64 n &&& BitVec.ofInt 64 1023).toNat : Nat) = n % 1024
  rw [key, IntKind.wrap_i64]
  omega
theorem and20 (n : Int) : bits .and .i64 n 1048575 = n % 1048576 := by
  have h127 : (BitVec.ofInt 64 1048575).toNat = 2 ^ 20 - 1 := by decide
  have key : (BitVec.ofInt 64 n &&& BitVec.ofInt 64 1048575).toNat = (n % ((2 ^ 64 : Nat) : Int)).toNat % 2 ^ 20 := by
    rw [BitVec.toNat_and, BitVec.toNat_ofInt, h127, Nat.and_two_pow_sub_one_eq_mod]
  show IntKind.i64.wrap ((BitVec.ofInt 64 n &&& BitVec.ofInt 64 1048575).toNat : Nat) = n % 1048576
  rw [key, IntKind.wrap_i64]
  omega
theorem and60 (n : Int) : bits .and .i64 n 1152921504606846975 = n % 1152921504606846976 := by
  have h127 : (BitVec.ofInt 64 1152921504606846975).toNat = 2 ^ 60 - 1 := by decide
  have key : (BitVec.ofInt 64 n &&& BitVec.ofInt 64 1152921504606846975).toNat = (n % ((2 ^ 64 : Nat) : Int)).toNat % 2 ^ 60 := by
    rw [BitVec.toNat_and, BitVec.toNat_ofInt, h127, Nat.and_two_pow_sub_one_eq_mod]
  show IntKind.i64.wrap ((BitVec.ofInt 64 n &&& BitVec.ofInt 64 1152921504606846975).toNat : Nat) = n % 1152921504606846976
  rw [key, IntKind.wrap_i64]
  omega
theorem and61 (n : Int) : bits .and .i64 n 2305843009213693951 = n % 2305843009213693952 := by
  have h127 : (BitVec.ofInt 64 2305843009213693951).toNat = 2 ^ 61 - 1 := by decide
  have key : (BitVec.ofInt 64 n &&& BitVec.ofInt 64 2305843009213693951).toNat = (n % ((2 ^ 64 : Nat) : Int)).toNat % 2 ^ 61 := by
    rw [BitVec.toNat_and, BitVec.toNat_ofInt, h127, Nat.and_two_pow_sub_one_eq_mod]
  show IntKind.i64.wrap ((BitVec.ofInt 64 n &&& BitVec.ofInt 64 2305843009213693951).toNat : Nat) = n % 2305843009213693952
  rw [key, IntKind.wrap_i64]
  omega
theorem and62 (n : Int) : bits .and .i64 n 4611686018427387903 = n % 4611686018427387904 := by
  have h127 : (BitVec.ofInt 64 4611686018427387903).toNat = 2 ^ 62 - 1 := by decide
  have key : (BitVec.ofInt 64 n &&& BitVec.ofInt 64 4611686018427387903).toNat = (n % ((2 ^ 64 : Nat) : Int)).toNat % 2 ^ 62 := by
    rw [BitVec.toNat_and, BitVec.toNat_ofInt, h127, Nat.and_two_pow_sub_one_eq_mod]
  show IntKind.i64.wrap ((BitVec.ofInt 64 n &&& BitVec.ofInt 64 4611686018427387903).toNat : Nat) = n % 4611686018427387904
  rw [key, IntKind.wrap_i64]
  omega

/-! the extended algorithm of Euclid -/
/-- i is the inverse of a modulo m, if ok; else there is none. -/
def InvIs (a m i : Int) (ok : Bool) : Prop := (ok = true ∧ 2 ≤ m ∧ 0 ≤ i ∧ i < m ∧ a * i % m = 1) ∨ (ok = false ∧ i = 0 ∧ ∀ j, 2 ≤ m → a * j % m ≠ 1)
theorem InvIs.unique {a m i j : Int} {p q : Bool} (h : InvIs a m i p) (k : InvIs a m j q) : i = j ∧ p = q := by
  rcases h with ⟨rfl, h1, h2, h3, h4⟩ | ⟨rfl, rfl, h1⟩ <;> rcases k with ⟨rfl, k1, k2, k3, k4⟩ | ⟨rfl, rfl, k1⟩
  · refine ⟨?_, rfl⟩
    have e : a * i * j % m = a * j * i % m := by rw [Int.mul_assoc, Int.mul_comm i, ← Int.mul_assoc]
    rw [Int.mul_emod, h4, Int.mul_emod (a * j), k4, Int.one_mul, Int.one_mul, Int.emod_emod, Int.emod_emod, Int.emod_eq_of_lt k2 k3, Int.emod_eq_of_lt h2 h3] at e
    exact e.symm
  · exact absurd h4 (k1 i h1)
  · exact absurd k4 (h1 j k1)
  · exact ⟨rfl, rfl⟩

theorem inv_none (a : Int) (m r : Nat) (hr : a % (m : Int) = r) (hm : 2 ≤ m) (h : Nat.gcd m r ≠ 1) (j : Int) : a * j % (m : Int) ≠ 1 := by
  intro e
  have h1 : ((Nat.gcd m r : Nat) : Int) ∣ (m : Int) := Int.natCast_dvd_natCast.2 (Nat.gcd_dvd_left m r)
  have h2 : ((Nat.gcd m r : Nat) : Int) ∣ a := by
    have h3 : ((Nat.gcd m r : Nat) : Int) ∣ (r : Int) := Int.natCast_dvd_natCast.2 (Nat.gcd_dvd_right m r)
    rw [← hr] at h3
    have := Int.emod_add_mul_ediv a m
    rw [← this]
    exact Int.dvd_add h3 (Int.dvd_trans h1 (Int.dvd_mul_right _ _))
  have h4 : ((Nat.gcd m r : Nat) : Int) ∣ 1 := by
    rw [← e, Int.emod_def]
    exact Int.dvd_sub (Int.dvd_trans h2 (Int.dvd_mul_right _ _)) (Int.dvd_trans h1 (Int.dvd_mul_right _ _))
  have h5 : Nat.gcd m r ∣ 1 := by exact_mod_cast h4
  exact h (Nat.dvd_one.1 h5)

/-- the state of the extended algorithm: x, y: the rests; s, t: the coefficients. -/
def Eu (a : Int) (m x y : Nat) (s t : Int) : Prop :=
  1 ≤ x ∧ y < x ∧ (m : Int) ∣ s * a - x ∧ (m : Int) ∣ t * a - y ∧ ∃ u v : Nat, u * y + v * x = m ∧ ((s = -u ∧ t = v) ∨ (s = u ∧ t = -v))
theorem Eu.bounds {a : Int} {m x y : Nat} {s t : Int} (h : Eu a m x y s t) : -(m : Int) ≤ t ∧ t ≤ m ∧ (1 ≤ y → -(m : Int) ≤ s ∧ s ≤ m) := by
  obtain ⟨h1, h2, _, _, u, v, e, hs⟩ := h
  have hv : v ≤ m := by
    have : v * 1 ≤ v * x := Nat.mul_le_mul_left v h1
    omega
  have hu : 1 ≤ y → u ≤ m := fun hy => by
    have : u * 1 ≤ u * y := Nat.mul_le_mul_left u hy
    omega
  refine ⟨by omega, by omega, fun hy => ?_⟩
  have := hu hy
  omega
theorem Eu.step {a : Int} {m x y : Nat} {s t : Int} (h : Eu a m x y s t) (hy : 1 ≤ y) : Eu a m y (x % y) t (s - (x / y : Nat) * t) ∧ -(m : Int) ≤ (x / y : Nat) * t ∧ (x / y : Nat) * t ≤ m := by
  obtain ⟨h1, h2, h3, h4, u, v, e, hs⟩ := h
  have hd := Nat.div_add_mod x y
  have hsum : v * (x % y) + (u + x / y * v) * y = m := by
    rw [← e]
    conv => rhs; rw [← hd]
    rw [Nat.add_mul, Nat.mul_add, Nat.mul_assoc, Nat.mul_comm v y, ← Nat.mul_assoc, Nat.mul_comm (x / y) y, Nat.mul_comm (y * (x / y)) v]
    omega
  have hle : u + x / y * v ≤ m := by
    have : (u + x / y * v) * 1 ≤ (u + x / y * v) * y := Nat.mul_le_mul_left _ hy
    omega
  have hle' : x / y * v ≤ m := by omega
  have hdc : ((x % y : Nat) : Int) = x - (x / y : Nat) * y := by
    have : ((y * (x / y) + x % y : Nat) : Int) = x := by rw [hd]
    rw [Int.natCast_add, Int.natCast_mul] at this
    rw [Int.mul_comm]; omega
  have hpos : (((x / y : Nat) : Int) * v) = ((x / y * v : Nat) : Int) := by rw [Int.natCast_mul]
  refine ⟨⟨hy, Nat.mod_lt _ hy, h4, ?_, v, u + x / y * v, hsum, ?_⟩, ?_, ?_⟩
  · rw [hdc]
    have e2 : (s - (x / y : Nat) * t) * a - ((x : Int) - (x / y : Nat) * y) = (s * a - x) - (x / y : Nat) * (t * a - y) := by
      rw [Int.sub_mul, Int.mul_sub, Int.mul_assoc]; omega
    rw [e2]
    exact Int.dvd_sub h3 (Int.dvd_trans h4 (Int.dvd_mul_left _ _))
  · rcases hs with ⟨rfl, rfl⟩ | ⟨rfl, rfl⟩
    · right
      refine ⟨rfl, ?_⟩
      rw [hpos]; omega
    · left
      refine ⟨rfl, ?_⟩
      rw [Int.mul_neg, hpos]; omega
  · rcases hs with ⟨rfl, rfl⟩ | ⟨rfl, rfl⟩
    · rw [hpos]; omega
    · rw [Int.mul_neg, hpos]; omega
  · rcases hs with ⟨rfl, rfl⟩ | ⟨rfl, rfl⟩
    · rw [hpos]; omega
    · rw [Int.mul_neg, hpos]; omega
theorem Eu.step' {a : Int} {m x y : Nat} {s t : Int} (h : Eu a m x y s t) (hy : 1 ≤ y) : Eu a m y (x % y) t (s - (x : Int) / y * t) ∧ -(m : Int) ≤ (x : Int) / y * t ∧ (x : Int) / y * t ≤ m ∧ 0 ≤ (x : Int) / y ∧ (x : Int) / y ≤ x ∧ 0 ≤ (x : Int) % y ∧ (x : Int) % y < y := by
  have e : ((x : Int) / y) = ((x / y : Nat) : Int) := by simp
  rw [e]
  obtain ⟨h1, h2, h3⟩ := h.step hy
  have := Nat.div_le_self x y
  exact ⟨h1, h2, h3, Int.natCast_nonneg _, Int.ofNat_le.2 this, Int.emod_nonneg _ (by omega), Int.emod_lt_of_pos _ (by omega)⟩
theorem gcd_step (x y g : Nat) (h : Nat.gcd x y = g) : Nat.gcd y (x % y) = g := by
  rw [← h, Nat.gcd_comm y, ← Nat.gcd_rec, Nat.gcd_comm]
theorem Eu.start (a : Int) (m r : Nat) (hr : a % (m : Int) = r) (hm : 2 ≤ m) : Eu a m m r 0 1 := by
  refine ⟨by omega, ?_, ?_, ?_, 0, 1, by simp, Or.inl ⟨rfl, rfl⟩⟩
  · have := Int.emod_lt_of_pos a (show 0 < (m : Int) by omega); omega
  · simp
  · rw [Int.one_mul, ← hr, Int.emod_def]
    exact ⟨a / m, by omega⟩
theorem dvd_one_emod (a s m : Int) (hm : 2 ≤ m) (h : m ∣ s * a - 1) : a * (s % m) % m = 1 := by
  obtain ⟨k, hk⟩ := h
  rw [Int.mul_emod, Int.emod_emod, ← Int.mul_emod, Int.mul_comm, show s * a = 1 + m * k by omega, Int.add_mul_emod_self_left]
  exact Int.emod_eq_of_lt (by omega) (by omega)
theorem inv_yes (a s : Int) (m : Nat) (hm : 2 ≤ m) (h : (m : Int) ∣ s * a - (1 : Nat)) : InvIs a m (s % m) true :=
  Or.inl ⟨rfl, by omega, Int.emod_nonneg _ (by omega), Int.emod_lt_of_pos _ (by omega), dvd_one_emod a s m (by omega) h⟩
theorem inv_no (a : Int) (m r x : Nat) (hr : a % (m : Int) = r) (hm : 2 ≤ m) (hx : Nat.gcd x 0 = Nat.gcd m r) (h1 : x ≠ 1) : InvIs a m 0 false :=
  Or.inr ⟨rfl, rfl, fun j _ => inv_none a m r hr hm (by rw [← hx, Nat.gcd_zero_right]; exact h1) j⟩
theorem inv_small (a m : Int) (hm : m < 2) : InvIs a m 0 false := Or.inr ⟨rfl, rfl, fun _ h => by omega⟩

/-- the state of the reference's algorithm -/
def Ru (a : Int) (m x y : Nat) (s t : Int) : Prop := (m : Int) ∣ s * a - x ∧ (m : Int) ∣ t * a - y
theorem Ru.start (a : Int) (m r : Nat) (hr : a % (m : Int) = r) (hm : 2 ≤ m) : Ru a m m r 0 1 := by
  obtain ⟨_, _, h1, h2, _⟩ := Eu.start a m r hr hm
  exact ⟨h1, h2⟩
theorem quot_bd (x y : Nat) (hy : 0 < y) : 0 ≤ (x : Int) / y ∧ (x : Int) / y ≤ x ∧ 0 ≤ (x : Int) - (x : Int) / y * y ∧ (x : Int) - (x : Int) / y * y < y ∧ 0 ≤ (x : Int) / y * y ∧ (x : Int) / y * y ≤ x := by
  have e : ((x : Int) / y) = ((x / y : Nat) : Int) := by simp
  have h1 := Nat.div_le_self x y
  have h2 := Int.emod_nonneg (x : Int) (show (y : Int) ≠ 0 by omega)
  have h3 := Int.emod_lt_of_pos (x : Int) (show 0 < (y : Int) by omega)
  have h4 := Int.emod_def (x : Int) y
  rw [Int.mul_comm] at h4
  have h5 : 0 ≤ (x : Int) / y * y := by rw [e, ← Int.natCast_mul]; exact Int.natCast_nonneg _
  refine ⟨by rw [e]; exact Int.natCast_nonneg _, by rw [e]; exact Int.ofNat_le.2 h1, by omega, by omega, h5, by omega⟩
theorem rest_eq (x y : Nat) : (x : Int) - (x : Int) / y * y = ((x % y : Nat) : Int) := by
  rw [Int.natCast_emod, Int.emod_def, Int.mul_comm]
theorem Ru.step {a : Int} {m x y : Nat} {s t : Int} (hm : 1 ≤ (m : Int)) (h : Ru a m x y s t) : Ru a m y (x % y) t (subZ s (mulZ ((x : Int) / y) t m) m) := by
  refine ⟨h.2, ?_⟩
  rw [← rest_eq, subZ, if_neg (by omega), mulZ, if_neg (by omega)]
  have e : ∃ k, (s - (x : Int) / y * t % m) % m = s - (x : Int) / y * t + m * k := by
    rw [Int.emod_def (s - _), Int.emod_def ((x : Int) / y * t)]
    exact ⟨(x : Int) / y * t / m - (s - ((x : Int) / y * t - m * ((x : Int) / y * t / m))) / m, by rw [Int.mul_sub]; omega⟩
  obtain ⟨k, hk⟩ := e
  rw [hk]
  have e2 : (s - (x : Int) / y * t + m * k) * a - ((x : Int) - (x : Int) / y * y) = ((s * a - x) - (x : Int) / y * (t * a - y)) + m * (k * a) := by
    rw [Int.add_mul, Int.sub_mul, Int.mul_sub, Int.mul_assoc ((x : Int) / y) t a, Int.mul_assoc (m : Int)]; omega
  rw [e2]
  exact Int.dvd_add (Int.dvd_sub h.1 (Int.dvd_trans h.2 (Int.dvd_mul_left _ _))) (Int.dvd_mul_right _ _)
end Go.Proofs.Ytfligfompdcddaa.Num
