/- Plain: the function SHA-256 on natural numbers and lists of bytes. No program in sight. -/
import Derived.Laws.BitsAllLaws
import Derived.Laws.BitsLemmas
import Derived.WalkSmall
namespace Go.Proofs.YtkebipklcpplaaaDoor.Sha
set_option linter.unusedVariables false

def add (a b : Nat) : Nat := (a + b) % 4294967296
def rotr (x n : Nat) : Nat := (x / 2 ^ n) ||| (x * 2 ^ (32 - n) % 4294967296)
theorem add_lt (a b : Nat) : add a b < 4294967296 := Nat.mod_lt _ (by decide)
theorem rotr_lt (x n : Nat) (hx : x < 4294967296) : rotr x n < 4294967296 :=
  Nat.or_lt_two_pow (n := 32) (Nat.lt_of_le_of_lt (Nat.div_le_self _ _) hx) (Nat.mod_lt _ (by decide))
/-- the walk's own term -/
theorem rotr_walk (x n : Nat) (hx : x < 4294967296) : bits BinOp.or IntKind.u32 ((x : Int) / 2 ^ n) ((x : Int) * 2 ^ (32 - n) % 4294967296) = (rotr x n : Nat) := by
  have e1 : ((x : Int) / 2 ^ n) = ((x / 2 ^ n : Nat) : Int) := by simp
  have e2 : ((x : Int) * 2 ^ (32 - n) % 4294967296) = ((x * 2 ^ (32 - n) % 4294967296 : Nat) : Int) := by simp
  rw [e1, e2, u32_or_nat _ _ (Nat.lt_of_le_of_lt (Nat.div_le_self _ _) hx) (Nat.mod_lt _ (by decide))]
  rfl
theorem rotl_walk (x n c : Nat) (hx : x < 4294967296) (hc : 32 - c = n) (hc' : 32 - n = c) : bits BinOp.or IntKind.u32 ((x : Int) * 2 ^ c % 4294967296) ((x : Int) / 2 ^ (32 - c)) = (rotr x n : Nat) := by
  rw [hc]
  have e1 : ((x : Int) / 2 ^ n) = ((x / 2 ^ n : Nat) : Int) := by simp
  have e2 : ((x : Int) * 2 ^ c % 4294967296) = ((x * 2 ^ c % 4294967296 : Nat) : Int) := by simp
  rw [e1, e2, u32_or_nat _ _ (Nat.mod_lt _ (by decide)) (Nat.lt_of_le_of_lt (Nat.div_le_self _ _) hx), Nat.or_comm, rotr, hc']
theorem neg_mask (n c : Nat) (h1 : 1 ≤ n) (h2 : n ≤ 31) (hc : c + n = 32) : bits BinOp.and IntKind.u64 (IntKind.u64.wrap (-(n : Int))) 31 = (c : Int) := by
  have hw : IntKind.u64.wrap (-(n : Int)) = ((18446744073709551616 - n : Nat) : Int) := by
    simp [IntKind.wrap, IntKind.bits, IntKind.signed]; omega
  rw [hw, show (31 : Int) = ((31 : Nat) : Int) from rfl, u64_and_nat _ _ (by omega) (by omega), show (31 : Nat) = 2 ^ 5 - 1 from rfl, Nat.and_two_pow_sub_one_eq_mod]
  omega
def s0 (x : Nat) : Nat := rotr x 7 ^^^ rotr x 18 ^^^ x / 8
def s1 (x : Nat) : Nat := rotr x 17 ^^^ rotr x 19 ^^^ x / 1024
def S0 (a : Nat) : Nat := rotr a 2 ^^^ rotr a 13 ^^^ rotr a 22
def S1 (e : Nat) : Nat := rotr e 6 ^^^ rotr e 11 ^^^ rotr e 25
def ch (e f g : Nat) : Nat := (e &&& f) ^^^ ((4294967295 ^^^ e) &&& g)
def maj (a b c : Nat) : Nat := (a &&& b) ^^^ (a &&& c) ^^^ (b &&& c)
/-- a further word of the schedule -/
def more (w16 w15 w7 w2 : Nat) : Nat := add (add (add w16 (s0 w15)) w7) (s1 w2)
/-- a word out of four bytes -/
def word (b0 b1 b2 b3 : Nat) : Nat := b0 * 16777216 + b1 * 65536 + b2 * 256 + b3

/-- the constants of the rounds -/
def ks : List Nat := [
  0x428a2f98, 0x71374491, 0xb5c0fbcf, 0xe9b5dba5, 0x3956c25b, 0x59f111f1, 0x923f82a4, 0xab1c5ed5,
  0xd807aa98, 0x12835b01, 0x243185be, 0x550c7dc3, 0x72be5d74, 0x80deb1fe, 0x9bdc06a7, 0xc19bf174,
  0xe49b69c1, 0xefbe4786, 0x0fc19dc6, 0x240ca1cc, 0x2de92c6f, 0x4a7484aa, 0x5cb0a9dc, 0x76f988da,
  0x983e5152, 0xa831c66d, 0xb00327c8, 0xbf597fc7, 0xc6e00bf3, 0xd5a79147, 0x06ca6351, 0x14292967,
  0x27b70a85, 0x2e1b2138, 0x4d2c6dfc, 0x53380d13, 0x650a7354, 0x766a0abb, 0x81c2c92e, 0x92722c85,
  0xa2bfe8a1, 0xa81a664b, 0xc24b8b70, 0xc76c51a3, 0xd192e819, 0xd6990624, 0xf40e3585, 0x106aa070,
  0x19a4c116, 0x1e376c08, 0x2748774c, 0x34b0bcb5, 0x391c0cb3, 0x4ed8aa4a, 0x5b9cca4f, 0x682e6ff3,
  0x748f82ee, 0x78a5636f, 0x84c87814, 0x8cc70208, 0x90befffa, 0xa4506ceb, 0xbef9a3f7, 0xc67178f2]
theorem ks_lt (i : Nat) : ks.getD i 0 < 4294967296 := by
  by_cases h : i < 64
  · have : ks.all (fun k => k < 4294967296) = true := by decide
    rw [List.getD_eq_getElem?_getD, List.getElem?_eq_getElem (by simpa [ks] using h)]
    have := List.all_eq_true.1 this _ (List.getElem_mem (l := ks) (n := i) (by simpa [ks] using h))
    simpa using this
  · rw [List.getD_eq_getElem?_getD, List.getElem?_eq_none (by simp [ks]; omega)]; simp
/-- what the state begins with -/
structure St where
  a : Nat
  b : Nat
  c : Nat
  d : Nat
  e : Nat
  f : Nat
  g : Nat
  h : Nat
def iv : St := ⟨0x6a09e667, 0xbb67ae85, 0x3c6ef372, 0xa54ff53a, 0x510e527f, 0x9b05688c, 0x1f83d9ab, 0x5be0cd19⟩
/-- one round -/
def tOf (s : St) (k w : Nat) : Nat := add (add (add (add s.h (S1 s.e)) (ch s.e s.f s.g)) k) w
def uOf (s : St) : Nat := add (S0 s.a) (maj s.a s.b s.c)
def round (s : St) (k w : Nat) : St := ⟨add (tOf s k w) (uOf s), s.a, s.b, s.c, add s.d (tOf s k w), s.e, s.f, s.g⟩
/-- i rounds -/
def rounds (ws : List Nat) (s : St) : Nat → St
  | 0 => s
  | i + 1 => round (rounds ws s i) (ks.getD i 0) (ws.getD i 0)
def plus (s v : St) : St := ⟨add s.a v.a, add s.b v.b, add s.c v.c, add s.d v.d, add s.e v.e, add s.f v.f, add s.g v.g, add s.h v.h⟩
/-- the first 16 words of a block -/
def firstWords (b : List UInt8) (n : Nat) : List Nat := (List.range n).map fun i => word (b.getD (4 * i) 0).toNat (b.getD (4 * i + 1) 0).toNat (b.getD (4 * i + 2) 0).toNat (b.getD (4 * i + 3) 0).toNat
/-- the schedule: n words behind the first 16 -/
def sched (b : List UInt8) : Nat → List Nat
  | 0 => firstWords b 16
  | n + 1 => sched b n ++ [more ((sched b n).getD n 0) ((sched b n).getD (n + 1) 0) ((sched b n).getD (n + 9) 0) ((sched b n).getD (n + 14) 0)]
def mix (s : St) (b : List UInt8) : St := plus s (rounds (sched b 48) s 64)
theorem sched_length (b : List UInt8) (n : Nat) : (sched b n).length = n + 16 := by
  induction n with
  | zero => simp [sched, firstWords]
  | succ n ih => simp [sched, ih]
theorem word_lt (a b c d : Nat) (ha : a < 256) (hb : b < 256) (hc : c < 256) (hd : d < 256) : word a b c d < 4294967296 := by unfold word; omega
theorem sched_lt (b : List UInt8) (n j : Nat) : (sched b n).getD j 0 < 4294967296 := by
  induction n with
  | zero =>
    simp only [sched, firstWords, List.getD_eq_getElem?_getD, List.getElem?_map]
    by_cases h : j < 16
    · rw [List.getElem?_range h]
      exact word_lt _ _ _ _ (by simpa using UInt8.toNat_lt _) (by simpa using UInt8.toNat_lt _) (by simpa using UInt8.toNat_lt _) (by simpa using UInt8.toNat_lt _)
    · rw [List.getElem?_eq_none (by simp; omega)]; simp
  | succ n ih =>
    simp only [sched, List.getD_eq_getElem?_getD, List.getElem?_append] at ih ⊢
    split
    · exact ih
    · rename_i h
      by_cases h2 : j - (sched b n).length = 0
      · rw [h2]; exact add_lt _ _
      · rw [List.getElem?_eq_none (by simp; omega)]; simp
/-- a store of the next word -/
theorem sched_step (b : List UInt8) (n j : Nat) : (if j = n + 16 then more ((sched b n).getD n 0) ((sched b n).getD (n + 1) 0) ((sched b n).getD (n + 9) 0) ((sched b n).getD (n + 14) 0) else (sched b n).getD j 0) = (sched b (n + 1)).getD j 0 := by
  have hl := sched_length b n
  rw [sched]
  simp only [List.getD_eq_getElem?_getD, List.getElem?_append]
  by_cases h : j = n + 16
  · rw [if_pos h, if_neg (by omega), hl, h]; simp
  · rw [if_neg h]
    split
    · rfl
    · rw [List.getElem?_eq_none (show (sched b n).length ≤ j by omega), List.getElem?_eq_none (by simp; omega)]

theorem xor_lt (a b : Nat) (ha : a < 4294967296) (hb : b < 4294967296) : a ^^^ b < 4294967296 := Nat.xor_lt_two_pow (n := 32) ha hb
theorem and_lt (a b : Nat) (hb : b < 4294967296) : a &&& b < 4294967296 := Nat.and_lt_two_pow (n := 32) a hb
theorem add3 (a b c : Nat) : add (add a b) c = (a + b + c) % 4294967296 := by unfold add; omega
theorem add4 (a b c d : Nat) : add (add (add a b) c) d = (a + b + c + d) % 4294967296 := by unfold add; omega
theorem add5 (a b c d e : Nat) : add (add (add (add a b) c) d) e = (a + b + c + d + e) % 4294967296 := by unfold add; omega
theorem xor3_walk (p q r : Nat) (hp : p < 4294967296) (hq : q < 4294967296) (hr : r < 4294967296) : bits BinOp.xor IntKind.u32 (bits BinOp.xor IntKind.u32 (p : Int) (q : Int)) (r : Int) = ((p ^^^ q ^^^ r : Nat) : Int) := by
  rw [u32_xor_nat p q hp hq, u32_xor_nat _ r (xor_lt p q hp hq) hr]
/-- the walk's own term of a further word -/
theorem more_walk (x16 x15 x7 x2 : Nat) (h15 : x15 < 4294967296) (h2 : x2 < 4294967296) :
    ((x16 : Int) + bits BinOp.xor IntKind.u32 (bits BinOp.xor IntKind.u32 ↑(rotr x15 7) ↑(rotr x15 18)) ((x15 : Int) / 8) + (x7 : Int) +
      bits BinOp.xor IntKind.u32 (bits BinOp.xor IntKind.u32 ↑(rotr x2 17) ↑(rotr x2 19)) ((x2 : Int) / 1024)) % 4294967296 = ((more x16 x15 x7 x2 : Nat) : Int) := by
  have e1 : ((x15 : Int) / 8) = ((x15 / 8 : Nat) : Int) := by omega
  have e2 : ((x2 : Int) / 1024) = ((x2 / 1024 : Nat) : Int) := by omega
  rw [e1, e2, xor3_walk _ _ _ (rotr_lt _ _ h15) (rotr_lt _ _ h15) (by omega), xor3_walk _ _ _ (rotr_lt _ _ h2) (rotr_lt _ _ h2) (by omega), more, add4]
  unfold s0 s1
  omega

theorem S1_walk (e : Nat) (he : e < 4294967296) : bits BinOp.xor IntKind.u32 (bits BinOp.xor IntKind.u32 ↑(rotr e 6) ↑(rotr e 11)) ↑(rotr e 25) = ((S1 e : Nat) : Int) :=
  xor3_walk _ _ _ (rotr_lt _ _ he) (rotr_lt _ _ he) (rotr_lt _ _ he)
theorem S0_walk (a : Nat) (ha : a < 4294967296) : bits BinOp.xor IntKind.u32 (bits BinOp.xor IntKind.u32 ↑(rotr a 2) ↑(rotr a 13)) ↑(rotr a 22) = ((S0 a : Nat) : Int) :=
  xor3_walk _ _ _ (rotr_lt _ _ ha) (rotr_lt _ _ ha) (rotr_lt _ _ ha)
theorem maj_walk (a b c : Nat) (ha : a < 4294967296) (hb : b < 4294967296) (hc : c < 4294967296) :
    bits BinOp.xor IntKind.u32 (bits BinOp.xor IntKind.u32 (bits BinOp.and IntKind.u32 (a : Int) (b : Int)) (bits BinOp.and IntKind.u32 (a : Int) (c : Int))) (bits BinOp.and IntKind.u32 (b : Int) (c : Int)) = ((maj a b c : Nat) : Int) := by
  rw [u32_and_nat a b ha hb, u32_and_nat a c ha hc, u32_and_nat b c hb hc, xor3_walk _ _ _ (and_lt _ _ hb) (and_lt _ _ hc) (and_lt _ _ hc)]
  rfl

theorem not_walk : (if IntKind.u32.signed = true then -1 else IntKind.u32.max : Int) = 4294967295 := by decide
theorem ch_walk (e f g : Nat) (he : e < 4294967296) (hf : f < 4294967296) (hg : g < 4294967296) :
    bits BinOp.xor IntKind.u32 (bits BinOp.and IntKind.u32 (e : Int) (f : Int)) (bits BinOp.and IntKind.u32 (bits BinOp.xor IntKind.u32 4294967295 (e : Int)) (g : Int)) = ((ch e f g : Nat) : Int) := by
  rw [show (4294967295 : Int) = ((4294967295 : Nat) : Int) from rfl, u32_and_nat e f he hf, u32_xor_nat _ e (by omega) he, u32_and_nat _ g (xor_lt _ _ (by omega) he) hg, u32_xor_nat _ _ (and_lt _ _ hf) (and_lt _ _ hg)]
  rfl
/-- the walk's own terms of a round -/
theorem t_walk (A B C D E F G H kk wk : Nat) (lE : E < 4294967296) (lF : F < 4294967296) (lG : G < 4294967296) :
    (((H : Int) + bits BinOp.xor IntKind.u32 (bits BinOp.xor IntKind.u32 ↑(rotr E 6) ↑(rotr E 11)) ↑(rotr E 25) +
      bits BinOp.xor IntKind.u32 (bits BinOp.and IntKind.u32 (E : Int) (F : Int)) (bits BinOp.and IntKind.u32 (bits BinOp.xor IntKind.u32 4294967295 (E : Int)) (G : Int)) + (kk : Int)) % 4294967296 + (wk : Int)) % 4294967296
      = ((tOf ⟨A, B, C, D, E, F, G, H⟩ kk wk : Nat) : Int) := by
  rw [S1_walk E lE, ch_walk E F G lE lF lG]
  show _ = ((add (add (add (add H (S1 E)) (ch E F G)) kk) wk : Nat) : Int)
  rw [add5]
  omega
theorem u_walk (A B C D E F G H : Nat) (lA : A < 4294967296) (lB : B < 4294967296) (lC : C < 4294967296) :
    (bits BinOp.xor IntKind.u32 (bits BinOp.xor IntKind.u32 ↑(rotr A 2) ↑(rotr A 13)) ↑(rotr A 22) +
      bits BinOp.xor IntKind.u32 (bits BinOp.xor IntKind.u32 (bits BinOp.and IntKind.u32 (A : Int) (B : Int)) (bits BinOp.and IntKind.u32 (A : Int) (C : Int))) (bits BinOp.and IntKind.u32 (B : Int) (C : Int))) % 4294967296
      = ((uOf ⟨A, B, C, D, E, F, G, H⟩ : Nat) : Int) := by
  rw [S0_walk A lA, maj_walk A B C lA lB lC]
  show _ = ((add (S0 A) (maj A B C) : Nat) : Int)
  rw [add]
  omega

/-- the first k words of the schedule -/
def upTo (b : List UInt8) (k j : Nat) : Nat := if j < k then (sched b 48).getD j 0 else 0
theorem sched_more (b : List UInt8) (n m j : Nat) (h : j < n + 16) : (sched b (n + m)).getD j 0 = (sched b n).getD j 0 := by
  induction m with
  | zero => rfl
  | succ m ih =>
    rw [← ih, ← Nat.add_assoc, ← sched_step, if_neg (by omega)]
theorem upTo_lt (b : List UInt8) (k j : Nat) : upTo b k j < 4294967296 := by
  unfold upTo; split
  · exact sched_lt _ _ _
  · omega
theorem upTo_word (b : List UInt8) (k : Nat) (hk : k < 16) (j : Nat) : (if j = k then word (b.getD (4 * k) 0).toNat (b.getD (4 * k + 1) 0).toNat (b.getD (4 * k + 2) 0).toNat (b.getD (4 * k + 3) 0).toNat else upTo b k j) = upTo b (k + 1) j := by
  unfold upTo
  by_cases h : j = k
  · rw [if_pos h, if_pos (by omega), h, show (48 : Nat) = 0 + 48 from rfl, sched_more b 0 48 k (by omega), sched, firstWords]
    have e : ∀ F : Nat → Nat, ((List.range 16).map F).getD k 0 = F k := by
      intro F
      rw [List.getD_eq_getElem?_getD, List.getElem?_map, List.getElem?_range hk]; rfl
    rw [e]
  · rw [if_neg h]
    by_cases h2 : j < k
    · rw [if_pos h2, if_pos (by omega)]
    · rw [if_neg h2, if_neg (by omega)]
theorem upTo_more (b : List UInt8) (n : Nat) (hn : n < 48) (j : Nat) : (if j = n + 16 then more (upTo b (n + 16) n) (upTo b (n + 16) (n + 1)) (upTo b (n + 16) (n + 9)) (upTo b (n + 16) (n + 14)) else upTo b (n + 16) j) = upTo b (n + 16 + 1) j := by
  have e : ∀ i, i < n + 16 → upTo b (n + 16) i = (sched b n).getD i 0 := by
    intro i hi
    rw [upTo, if_pos hi, show (48 : Nat) = n + (48 - n) by omega, sched_more b n _ i hi]
  rw [e n (by omega), e (n + 1) (by omega), e (n + 9) (by omega), e (n + 14) (by omega)]
  by_cases h : j = n + 16
  · have h2 := sched_step b n j
    rw [if_pos h] at h2 ⊢
    rw [h2, upTo, if_pos (by omega), show (48 : Nat) = (n + 1) + (48 - (n + 1)) by omega, sched_more b (n + 1) _ j (by omega)]
  · rw [if_neg h]
    unfold upTo
    by_cases h2 : j < n + 16
    · rw [if_pos h2, if_pos (by omega)]
    · rw [if_neg h2, if_neg (by omega)]

/-! the first loop of digest.mix: a byte at a time -/
def arrAt (b : List UInt8) : Nat → Nat → Nat
  | 0, _ => 0
  | i + 1, j => if j = i / 4 then arrAt b i j * 256 + (b.getD i 0).toNat else arrAt b i j
theorem arrAt_form (b : List UInt8) : ∀ i j, arrAt b i j =
    if i ≤ 4 * j then 0 else if i = 4 * j + 1 then (b.getD (4 * j) 0).toNat else if i = 4 * j + 2 then (b.getD (4 * j) 0).toNat * 256 + (b.getD (4 * j + 1) 0).toNat
    else if i = 4 * j + 3 then ((b.getD (4 * j) 0).toNat * 256 + (b.getD (4 * j + 1) 0).toNat) * 256 + (b.getD (4 * j + 2) 0).toNat
    else word (b.getD (4 * j) 0).toNat (b.getD (4 * j + 1) 0).toNat (b.getD (4 * j + 2) 0).toNat (b.getD (4 * j + 3) 0).toNat := by
  intro i
  induction i with
  | zero => intro j; simp [arrAt]
  | succ i ih =>
    intro j
    rw [arrAt, ih j]
    by_cases h : j = i / 4
    · rw [if_pos h]
      have h4 : i = 4 * j ∨ i = 4 * j + 1 ∨ i = 4 * j + 2 ∨ i = 4 * j + 3 := by omega
      rcases h4 with h | h | h | h
      · subst h; rw [if_pos (by omega), if_neg (by omega), if_pos (by omega)]; omega
      · subst h; rw [if_neg (by omega), if_pos (by omega), if_neg (by omega), if_neg (by omega), if_pos (by omega)]
      · subst h; rw [if_neg (by omega), if_neg (by omega), if_pos (by omega), if_neg (by omega), if_neg (by omega), if_neg (by omega), if_pos (by omega)]
      · subst h; rw [if_neg (by omega), if_neg (by omega), if_neg (by omega), if_pos (by omega), if_neg (by omega), if_neg (by omega), if_neg (by omega), if_neg (by omega)]
        unfold word; omega
    · rw [if_neg h]
      by_cases h1 : i ≤ 4 * j
      · rw [if_pos h1, if_pos (by omega)]
      · have h5 : 4 * j + 4 ≤ i := by omega
        rw [if_neg h1, if_neg (by omega), if_neg (by omega), if_neg (by omega), if_neg (by omega), if_neg (by omega), if_neg (by omega), if_neg (by omega)]
theorem byte_lt (b : List UInt8) (i : Nat) : (b.getD i 0).toNat < 256 := (b.getD i 0).toNat_lt
theorem arrAt_lt (b : List UInt8) (i j : Nat) : arrAt b i j < 4294967296 := by
  rw [arrAt_form]
  have h0 := byte_lt b (4 * j)
  have h1 := byte_lt b (4 * j + 1)
  have h2 := byte_lt b (4 * j + 2)
  have h3 := byte_lt b (4 * j + 3)
  unfold word
  split
  · omega
  · split
    · omega
    · split
      · omega
      · split <;> omega
theorem arrAt_small (b : List UInt8) (i j : Nat) (h : i < 4 * j + 4) : arrAt b i j < 16777216 := by
  rw [arrAt_form]
  have h0 := byte_lt b (4 * j)
  have h1 := byte_lt b (4 * j + 1)
  have h2 := byte_lt b (4 * j + 2)
  split
  · omega
  · split
    · omega
    · split
      · omega
      · rw [if_pos (by omega)]; omega
theorem arrAt_end (b : List UInt8) (j : Nat) (h : j < 64) : arrAt b 64 j = (sched b 0).getD j 0 := by
  have e : ∀ F : Nat → Nat, ((List.range 16).map F).getD j 0 = if j < 16 then F j else 0 := by
    intro F
    rw [List.getD_eq_getElem?_getD, List.getElem?_map]
    by_cases h16 : j < 16
    · rw [List.getElem?_range h16, if_pos h16]; rfl
    · rw [List.getElem?_eq_none (by simp; omega), if_neg h16]; rfl
  rw [arrAt_form, sched, firstWords, e]
  by_cases h16 : j < 16
  · rw [if_pos h16, if_neg (by omega), if_neg (by omega), if_neg (by omega), if_neg (by omega)]
  · rw [if_neg h16, if_pos (by omega)]
theorem arrAt_step (b : List UInt8) (k j : Nat) : (if j = k / 4 then arrAt b k (k / 4) * 256 + (b.getD k 0).toNat else arrAt b k j) = arrAt b (k + 1) j := by
  rw [arrAt]
  by_cases h : j = k / 4
  · rw [if_pos h, if_pos h, h]
  · rw [if_neg h, if_neg h]
/-- the walk's own term -/
theorem arr_walk (x y : Nat) (hx : x < 16777216) (hy : y < 256) : bits BinOp.or IntKind.u32 ((x : Int) * 256 % 4294967296) ((y : Int) % 4294967296) = ((x * 256 + y : Nat) : Int) := by
  have e : ((x : Int) * 256 % 4294967296) = ((x * 256 : Nat) : Int) := by omega
  have e2 : ((y : Int) % 4294967296) = (y : Int) := by omega
  rw [e, e2, u32_or_nat _ _ (by omega) (by omega)]
  have h := Nat.two_pow_add_eq_or_of_lt (i := 8) (b := y) (by omega) x
  rw [show (2 : Nat) ^ 8 * x = x * 256 by omega] at h
  rw [← h]
theorem getD_byte (s : ByteArray) (k : Nat) (hk : k < s.size) : s.data.toList.getD k 0 = s[k] := by
  rw [List.getD_eq_getElem?_getD, List.getElem?_eq_getElem (by simpa using hk)]
  rfl
theorem arr_walk' (s : ByteArray) (k : Nat) (hk : k < s.size) : bits BinOp.or IntKind.u32 (↑(arrAt s.data.toList k (k / 4)) * 256 % 4294967296) (↑s[k].toNat % 4294967296) = ((arrAt s.data.toList k (k / 4) * 256 + (s.data.toList.getD k 0).toNat : Nat) : Int) := by
  rw [arr_walk _ _ (arrAt_small _ _ _ (by omega)) (UInt8.toNat_lt _), getD_byte s k hk]
/-- n blocks of a list -/
def fold : Nat → St → List UInt8 → St
  | 0, s, _ => s
  | n + 1, s, l => fold n (mix s (l.take 64)) (l.drop 64)
/-- the bytes of a number, the most significant first -/
def bytesOf (k n : Nat) : List UInt8 := (List.range k).map fun i => UInt8.ofNat (n / 2 ^ (8 * (k - 1 - i)))
/-- the message of a string -/
def padded (l : List UInt8) : List UInt8 := l ++ 128 :: List.replicate ((119 - l.length % 64) % 64) 0 ++ bytesOf 8 (l.length * 8)
def stList (s : St) : List Nat := [s.a, s.b, s.c, s.d, s.e, s.f, s.g, s.h]
def out (s : St) : List UInt8 := (List.range 32).map fun i => UInt8.ofNat ((stList s).getD (i / 4) 0 / 2 ^ (8 * (3 - i % 4)))
/-- the hash of a list of bytes -/
def sum (l : List UInt8) : List UInt8 := out (fold ((padded l).length / 64) iv (padded l))

def hexDigit (n : Nat) : UInt8 := if n < 10 then UInt8.ofNat (48 + n) else UInt8.ofNat (87 + n)
/-- the text of a hash -/
def text (h : List UInt8) : List UInt8 := h.flatMap fun x => [hexDigit (x.toNat / 16), hexDigit (x.toNat % 16)]
end Go.Proofs.YtkebipklcpplaaaDoor.Sha
