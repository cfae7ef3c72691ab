/- Plain number theory: the two primes of package api, and what follows for powers. No program in sight. -/
import Derived.Test.YtkebipklcpplaaaDoorNum
namespace Go.Proofs.YtkebipklcpplaaaDoor.Num
set_option linter.unusedVariables false

def Pr (p : Nat) : Prop := 2 ≤ p ∧ ∀ d, d ∣ p → d = 1 ∨ d = p

theorem Pr.coprime {p a : Nat} (h : Pr p) (ha : ¬ p ∣ a) : Nat.gcd p a = 1 := by
  rcases h.2 _ (Nat.gcd_dvd_left p a) with e | e
  · exact e
  · exact absurd (e ▸ Nat.gcd_dvd_right p a) ha
theorem Pr.dvd_mul {p a b : Nat} (h : Pr p) (hd : p ∣ a * b) : p ∣ a ∨ p ∣ b := by
  by_cases ha : p ∣ a
  · exact Or.inl ha
  · exact Or.inr (Nat.Coprime.dvd_of_dvd_mul_left (h.coprime ha) hd)

/-! trial division -/
def noDiv (p : Nat) : Nat → Bool
  | 0 => true
  | d + 1 => (decide (d < 2) || p % d != 0) && noDiv p d
theorem noDiv_spec (p : Nat) : ∀ k, noDiv p k = true → ∀ d, 2 ≤ d → d < k → ¬ d ∣ p := by
  intro k
  induction k with
  | zero => intro _ d _ h; omega
  | succ k ih =>
    intro h d h2 hd hdv
    simp only [noDiv, Bool.and_eq_true, Bool.or_eq_true, decide_eq_true_eq, bne_iff_ne] at h
    by_cases e : d = k
    · subst e
      rcases h.1 with h | h
      · omega
      · exact h (Nat.mod_eq_zero_of_dvd hdv)
    · exact ih h.2 d h2 (by omega) hdv
theorem trial (p k : Nat) (h2 : 2 ≤ p) (hk : p < k * k) (h : noDiv p k = true) : Pr p := by
  refine ⟨h2, fun d hd => ?_⟩
  obtain ⟨c, hc⟩ := hd
  have hd0 : d ≠ 0 := by rintro rfl; simp at hc; omega
  have hc0 : c ≠ 0 := by rintro rfl; simp at hc; omega
  by_cases h1 : d = 1
  · exact Or.inl h1
  · right
    by_cases hdk : d < k
    · exact absurd ⟨c, hc⟩ (noDiv_spec p k h d (by omega) hdk)
    · have hck : c < k := by
        rcases Nat.lt_or_ge c k with h | h
        · exact h
        · have := Nat.mul_le_mul (show k ≤ d by omega) h; omega
      by_cases hc1 : c = 1
      · subst hc1; omega
      · exact absurd ⟨d, by rw [Nat.mul_comm]; exact hc⟩ (noDiv_spec p k h c (by omega) hck)

/-! the pigeonhole principle -/
theorem pigeon : ∀ (n : Nat) (f : Nat → Nat), (∀ i, i < n → f i < n) → (∀ i j, i < n → j < n → f i = f j → i = j) → ∀ y, y < n → ∃ i, i < n ∧ f i = y := by
  intro n
  induction n with
  | zero => intro f _ _ y h; omega
  | succ n ih =>
    intro f hf hi y hy
    -- g: f without the value f n, the value n moved into its place
    let g : Nat → Nat := fun i => if f i = n then f n else f i
    have hg : ∀ i, i < n → g i < n := by
      intro i h
      have h1 := hf i (by omega)
      have h2 := hf n (by omega)
      have h3 : f i ≠ f n := fun e => by have := hi i n (by omega) (by omega) e; omega
      simp only [g]; split <;> omega
    have hgi : ∀ i j, i < n → j < n → g i = g j → i = j := by
      intro i j h1 h2 e
      have h3 : f i ≠ f n := fun e => by have := hi i n (by omega) (by omega) e; omega
      have h4 : f j ≠ f n := fun e => by have := hi j n (by omega) (by omega) e; omega
      simp only [g] at e
      split at e <;> split at e
      · exact hi i j (by omega) (by omega) (by omega)
      · exact absurd e.symm h4
      · exact absurd e h3
      · exact hi i j (by omega) (by omega) e
    by_cases e : y = f n
    · exact ⟨n, by omega, e.symm⟩
    · by_cases ey : y = n
      · obtain ⟨i, h1, h2⟩ := ih g hg hgi (f n) (by have := hf n (by omega); omega)
        have h3 : f i ≠ f n := fun e => by have := hi i n (by omega) (by omega) e; omega
        refine ⟨i, by omega, ?_⟩
        simp only [g] at h2
        split at h2
        · omega
        · exact absurd h2 h3
      · obtain ⟨i, h1, h2⟩ := ih g hg hgi y (by omega)
        refine ⟨i, by omega, ?_⟩
        simp only [g] at h2
        split at h2
        · exact absurd h2.symm e
        · exact h2

/-! Lucas: a number of order p - 1 modulo p -/
theorem pow_one_mod {g p n : Nat} (h : g ^ n % p = 1 % p) (k : Nat) : g ^ (n * k) % p = 1 % p := by
  rw [Nat.pow_mul, Nat.pow_mod, h, ← Nat.pow_mod, Nat.one_pow]
theorem pow_gcd {g p : Nat} : ∀ (a b : Nat), g ^ a % p = 1 % p → g ^ b % p = 1 % p → g ^ Nat.gcd a b % p = 1 % p := by
  intro a b
  induction a, b using Nat.gcd.induction with
  | H0 b => intro _ h; simpa using h
  | H1 a b _ ih =>
    intro ha hb
    rw [Nat.gcd_rec]
    refine ih ?_ ha
    have e : g ^ b % p = (g ^ (a * (b / a)) % p) * (g ^ (b % a) % p) % p := by
      rw [← Nat.mul_mod, ← Nat.pow_add, Nat.div_add_mod]
    rw [pow_one_mod ha, ← Nat.mul_mod, Nat.one_mul] at e
    rw [← e, hb]
theorem prime_of_list : ∀ (L : List Nat), (∀ q ∈ L, Pr q) → ∀ c, c ≠ 1 → c ∣ L.prod → ∃ q ∈ L, q ∣ c := by
  intro L
  induction L with
  | nil => intro _ c h1 h; simp at h; exact absurd h h1
  | cons q L ih =>
    intro hL c h1 h
    rw [List.prod_cons] at h
    by_cases hq : q ∣ c
    · exact ⟨q, by simp, hq⟩
    · have hcop := (hL q (by simp)).coprime hq
      have hc : c ∣ L.prod := Nat.Coprime.dvd_of_dvd_mul_left (show Nat.Coprime c q from (Nat.gcd_comm c q).trans hcop) h
      obtain ⟨r, h2, h3⟩ := ih (fun q hq => hL q (by simp [hq])) c h1 hc
      exact ⟨r, by simp [h2], h3⟩

theorem lucas (p g : Nat) (L : List Nat) (hp : 2 ≤ p) (hL : ∀ q ∈ L, Pr q) (hprod : L.prod = p - 1) (hg : g ^ (p - 1) % p = 1) (hq : ∀ q ∈ L, g ^ ((p - 1) / q) % p ≠ 1) :
    Pr p ∧ ∀ x, 0 < x → x < p → ∃ i, g ^ i % p = x := by
  have h1p : 1 % p = 1 := Nat.mod_eq_of_lt (by omega)
  have hord : ∀ d, 0 < d → d < p - 1 → g ^ d % p ≠ 1 := by
    intro d hd0 hd e
    have he := pow_gcd (p := p) (g := g) d (p - 1) (by rw [h1p]; exact e) (by rw [h1p]; exact hg)
    have hle : Nat.gcd d (p - 1) ≤ d := Nat.gcd_le_left _ hd0
    have hpos : 0 < Nat.gcd d (p - 1) := Nat.gcd_pos_of_pos_left _ hd0
    obtain ⟨c, hc⟩ := Nat.gcd_dvd_right d (p - 1)
    generalize Nat.gcd d (p - 1) = e' at *
    have hc1 : c ≠ 1 := by rintro rfl; omega
    obtain ⟨q, hqL, ⟨k, hk⟩⟩ := prime_of_list L hL c hc1 (by rw [hprod, hc]; exact Nat.dvd_mul_left _ _)
    apply hq q hqL
    have hq0 : 0 < q := by have := (hL q hqL).1; omega
    have e2 : (p - 1) / q = e' * k := by
      rw [hc, hk, show e' * (q * k) = q * (e' * k) by rw [← Nat.mul_assoc, Nat.mul_comm e' q, Nat.mul_assoc], Nat.mul_div_cancel_left _ hq0]
    rw [e2, pow_one_mod he, h1p]
  have hne : ∀ i, i ≤ p - 1 → g ^ i % p ≠ 0 := by
    intro i hi e
    have : g ^ (p - 1) % p = 0 := by
      rw [show p - 1 = i + (p - 1 - i) by omega, Nat.pow_add, Nat.mul_mod, e, Nat.zero_mul, Nat.zero_mod]
    omega
  have hinj : ∀ i j, i < j → j < p - 1 → g ^ i % p = g ^ j % p → False := by
    intro i j hij hj e
    apply hord (j - i) (by omega) (by omega)
    have e2 : g ^ (p - 1) % p = g ^ (p - 1 - i + j) % p := by
      conv => lhs; rw [show p - 1 = (p - 1 - i) + i by omega, Nat.pow_add, Nat.mul_mod, e, ← Nat.mul_mod, ← Nat.pow_add]
    rw [show p - 1 - i + j = (p - 1) + (j - i) by omega, Nat.pow_add, Nat.mul_mod, hg, Nat.one_mul, Nat.mod_mod] at e2
    exact e2.symm
  have hsurj : ∀ x, 0 < x → x < p → ∃ i, g ^ i % p = x := by
    intro x hx0 hx
    obtain ⟨i, hi, he⟩ := pigeon (p - 1) (fun i => g ^ i % p - 1) (fun i hi => by
        have h1 := hne i (by omega)
        have h2 := Nat.mod_lt (g ^ i) (show 0 < p by omega)
        show g ^ i % p - 1 < p - 1
        omega) (fun i j hi hj e => by
        have e : g ^ i % p - 1 = g ^ j % p - 1 := e
        have h1 := hne i (by omega)
        have h2 := hne j (by omega)
        have e3 : g ^ i % p = g ^ j % p := by omega
        rcases Nat.lt_trichotomy i j with h | h | h
        · exact (hinj i j h hj e3).elim
        · exact h
        · exact (hinj j i h hi e3.symm).elim) (x - 1) (by omega)
    have he : g ^ i % p - 1 = x - 1 := he
    have h1 := hne i (by omega)
    exact ⟨i, by omega⟩
  refine ⟨⟨hp, fun d hd => ?_⟩, hsurj⟩
  by_cases hdp : d = p
  · exact Or.inr hdp
  · left
    have hd0 : d ≠ 0 := by rintro rfl; simp at hd; omega
    have hle := Nat.le_of_dvd (by omega) hd
    obtain ⟨i, hi⟩ := hsurj d (by omega) (by omega)
    -- d times a power of g is 1 modulo p
    have e : d * g ^ ((p - 2) * i) % p = 1 := by
      rw [← hi, Nat.mod_mul_mod, ← Nat.pow_add, show i + (p - 2) * i = (p - 1) * i by rw [show p - 1 = (p - 2) + 1 by omega, Nat.add_mul]; omega, pow_one_mod (by rw [h1p]; exact hg), h1p]
    have h3 : d ∣ d * g ^ ((p - 2) * i) % p := (Nat.dvd_mod_iff hd).2 (Nat.dvd_mul_right _ _)
    rw [e] at h3
    exact Nat.dvd_one.1 h3

theorem fermat {p g : Nat} (hp : 2 ≤ p) (hg : g ^ (p - 1) % p = 1) (hs : ∀ x, 0 < x → x < p → ∃ i, g ^ i % p = x) (x : Nat) (h0 : 0 < x) (h : x < p) : x ^ (p - 1) % p = 1 := by
  have h1p : 1 % p = 1 := Nat.mod_eq_of_lt (by omega)
  obtain ⟨i, rfl⟩ := hs x h0 h
  rw [← Nat.pow_mod, ← Nat.pow_mul, Nat.mul_comm, pow_one_mod (by rw [h1p]; exact hg), h1p]

theorem lucas' (p g : Nat) (L : List Nat) (hp : 2 ≤ p) (hp' : p < 2 ^ 64) (hL : ∀ q ∈ L, Pr q) (hprod : L.prod = p - 1) (hg : powMod 64 g (p - 1) p = 1) (hq : L.all (fun q => powMod 64 g ((p - 1) / q) p != 1) = true) :
    Pr p ∧ ∀ x, 0 < x → x < p → ∃ i, g ^ i % p = x := by
  refine lucas p g L hp hL hprod ?_ ?_
  · rw [← powMod_eq 64 g (p - 1) p (by omega)]; exact hg
  · intro q hqL
    have h1 := Nat.div_le_self (p - 1) q
    rw [← powMod_eq 64 g ((p - 1) / q) p (by omega)]
    have := List.all_eq_true.1 hq q hqL
    simpa using this

theorem pr2 : Pr 2 := trial 2 2 (by omega) (by omega) (by decide +kernel)
theorem pr3 : Pr 3 := trial 3 2 (by omega) (by omega) (by decide +kernel)
theorem pr7 : Pr 7 := trial 7 3 (by omega) (by omega) (by decide +kernel)
theorem pr19 : Pr 19 := trial 19 5 (by omega) (by omega) (by decide +kernel)
theorem prA : Pr 95189 := trial 95189 309 (by omega) (by omega) (by decide +kernel)
theorem prB : Pr 8469779 := trial 8469779 2911 (by omega) (by omega) (by decide +kernel)
theorem prC : Pr 2835870689 := (lucas' 2835870689 6 [2, 2, 2, 2, 2, 7, 7, 19, 95189] (by omega) (by omega) (by simp [pr2, pr7, pr19, prA]) (by decide +kernel) (by decide +kernel) (by decide +kernel)).1
theorem prD : Pr 5671741379 := (lucas' 5671741379 2 [2, 2835870689] (by omega) (by omega) (by simp [pr2, prC]) (by decide +kernel) (by decide +kernel) (by decide +kernel)).1
theorem prE : Pr 288230376151711447 := (lucas' 288230376151711447 6 [2, 3, 8469779, 5671741379] (by omega) (by omega) (by simp [pr2, pr3, prB, prD]) (by decide +kernel) (by decide +kernel) (by decide +kernel)).1
theorem lucQ : Pr 1152921504606845789 ∧ ∀ x, 0 < x → x < 1152921504606845789 → ∃ i, 2 ^ i % 1152921504606845789 = x :=
  lucas' 1152921504606845789 2 [2, 2, 288230376151711447] (by omega) (by omega) (by simp [pr2, prE]) (by decide +kernel) (by decide +kernel) (by decide +kernel)
/-- Q is prime. -/
theorem prQ : Pr 1152921504606845789 := lucQ.1
theorem lucP : Pr 2305843009213691579 ∧ ∀ x, 0 < x → x < 2305843009213691579 → ∃ i, 2 ^ i % 2305843009213691579 = x :=
  lucas' 2305843009213691579 2 [2, 1152921504606845789] (by omega) (by omega) (by simp [pr2, prQ]) (by decide +kernel) (by decide +kernel) (by decide +kernel)
/-- P is prime. -/
theorem prP : Pr 2305843009213691579 := lucP.1
/-- Fermat, for P. -/
theorem fermatP (p n x : Nat) (hp : p = 2305843009213691579) (hn : n + 1 = p) (h0 : 0 < x) (h : x < p) : x ^ n % p = 1 := by
  obtain rfl : n = p - 1 := by omega
  have hl : ∀ x, 0 < x → x < p → ∃ i, 2 ^ i % p = x := by rw [hp]; exact lucP.2
  have hg : 2 ^ (p - 1) % p = 1 := by rw [← powMod_eq 64 2 (p - 1) p (by omega), hp]; decide +kernel
  exact fermat (by omega) hg hl x h0 h

theorem inv_exists {p g : Nat} (hp : 2 ≤ p) (hg : g ^ (p - 1) % p = 1) (hs : ∀ x, 0 < x → x < p → ∃ i, g ^ i % p = x) (x : Nat) (h0 : 0 < x) (h : x < p) : ∃ j : Nat, x * j % p = 1 := by
  have h1p : 1 % p = 1 := Nat.mod_eq_of_lt (by omega)
  obtain ⟨i, rfl⟩ := hs x h0 h
  refine ⟨g ^ ((p - 2) * i), ?_⟩
  rw [Nat.mod_mul_mod, ← Nat.pow_add, show i + (p - 2) * i = (p - 1) * i by rw [show p - 1 = (p - 2) + 1 by omega, Nat.add_mul]; omega, pow_one_mod (by rw [h1p]; exact hg), h1p]
theorem invP (x : Nat) (h0 : 0 < x) (h : x < 2305843009213691579) : ∃ j : Nat, x * j % 2305843009213691579 = 1 := by
  obtain ⟨p, hp⟩ : ∃ p : Nat, p = 2305843009213691579 := ⟨_, rfl⟩
  rw [← hp] at h ⊢
  have hl : ∀ x, 0 < x → x < p → ∃ i, 2 ^ i % p = x := by rw [hp]; exact lucP.2
  have hg : 2 ^ (p - 1) % p = 1 := by rw [← powMod_eq 64 2 (p - 1) p (by omega), hp]; decide +kernel
  exact inv_exists (by omega) hg hl x h0 h
theorem invQ (x : Nat) (h0 : 0 < x) (h : x < 1152921504606845789) : ∃ j : Nat, x * j % 1152921504606845789 = 1 := by
  obtain ⟨p, hp⟩ : ∃ p : Nat, p = 1152921504606845789 := ⟨_, rfl⟩
  rw [← hp] at h ⊢
  have hl : ∀ x, 0 < x → x < p → ∃ i, 2 ^ i % p = x := by rw [hp]; exact lucQ.2
  have hg : 2 ^ (p - 1) % p = 1 := by rw [← powMod_eq 64 2 (p - 1) p (by omega), hp]; decide +kernel
  exact inv_exists (by omega) hg hl x h0 h

theorem euler (p q x : Nat) (hpq : p = 2 * q + 1) (hp : Pr p) (hf : x ^ (2 * q) % p = 1) : x ^ q % p = 1 ∨ x ^ q % p = p - 1 := by
  have h2 := hp.1
  have hl := Nat.mod_lt (x ^ q) (show 0 < p by omega)
  have e : (x ^ q % p) * (x ^ q % p) % p = 1 := by rw [← Nat.mul_mod, ← Nat.pow_add, show q + q = 2 * q by omega, hf]
  generalize x ^ q % p = y at *
  have hy : y ≠ 0 := by rintro rfl; simp at e
  obtain ⟨z, rfl⟩ : ∃ z, y = z + 1 := ⟨y - 1, by omega⟩
  have hd : p ∣ z * (z + 2) := by
    refine ⟨(z + 1) * (z + 1) / p, ?_⟩
    have h3 := Nat.div_add_mod ((z + 1) * (z + 1)) p
    rw [e] at h3
    have h4 : (z + 1) * (z + 1) = z * (z + 2) + 1 := by rw [Nat.mul_add z z 2, Nat.add_mul, Nat.mul_add]; omega
    omega
  rcases hp.dvd_mul hd with h | h
  · left
    rcases Nat.eq_zero_or_pos z with h0 | h0
    · omega
    · have := Nat.le_of_dvd h0 h; omega
  · right
    have := Nat.le_of_dvd (by omega) h; omega

theorem neg_pow_odd (x : Int) (q : Nat) (hq : q % 2 = 1) : (-x) ^ q = -(x ^ q) := by
  have e : q = (q / 2 + q / 2) + 1 := by omega
  rw [e, Int.pow_succ, Int.pow_add, ← Int.mul_pow, Int.neg_mul_neg, Int.mul_pow, ← Int.pow_add, Int.mul_neg, ← Int.pow_succ]
theorem negpow (p q : Nat) (x : Int) (hq : q % 2 = 1) : ((p : Int) - x) ^ q % p = (-(x ^ q)) % p := by
  rw [← pow_emod, Int.sub_emod, Int.emod_self, Int.zero_sub, ← neg_pow_odd x q hq, ← pow_emod (-x)]
  congr 2
  rw [Int.neg_emod_eq_sub_emod, Int.neg_emod_eq_sub_emod, Int.sub_emod_emod]

/-- of a number and its negative exactly one has the power 1 -/
theorem one_of_two (p q x : Nat) (hpq : p = 2 * q + 1) (hq : q % 2 = 1) (hp : Pr p) (hp3 : 3 ≤ p) (hf : x ^ (2 * q) % p = 1) :
    ((x : Int) ^ q % p == 1) ≠ (((p : Int) - x) ^ q % p == 1) := by
  rw [negpow p q x hq]
  have ex : ((x : Int) ^ q % p) = ((x ^ q % p : Nat) : Int) := by simp
  have en : (-((x : Int) ^ q)) % p = (-(((x ^ q % p : Nat)) : Int)) % p := by
    rw [← ex, Int.neg_emod_eq_sub_emod, Int.neg_emod_eq_sub_emod, Int.sub_emod_emod]
  rw [en, ex]
  rcases euler p q x hpq hp hf with e | e
  · rw [e]
    have : (-((1 : Nat) : Int)) % p = p - 1 := by
      rw [← Int.add_emod_right]; exact (Int.emod_eq_of_lt (by omega) (by omega)).trans (by omega)
    rw [this]
    simp
    omega
  · rw [e]
    have : (-((p - 1 : Nat) : Int)) % p = 1 := by
      rw [← Int.add_emod_right]; exact (Int.emod_eq_of_lt (by omega) (by omega)).trans (by omega)
    rw [this]
    simp
    omega
end Go.Proofs.YtkebipklcpplaaaDoor.Num
