/- Plain: more on the words of the walk. -/
import Derived.Test.YtkebipklcpplaaaDoorSha
namespace Go.Proofs.YtkebipklcpplaaaDoor.Sha
set_option linter.unusedVariables false
theorem or_add (x y i : Nat) (hy : y < 2 ^ i) : 2 ^ i * x ||| y = 2 ^ i * x + y := (Nat.two_pow_add_eq_or_of_lt hy x).symm
theorem word_walk (s : ByteArray) (a b c d : Nat) (ha : a < s.size) (hb : b < s.size) (hc : c < s.size) (hd : d < s.size) :
    bits BinOp.or IntKind.u32 (bits BinOp.or IntKind.u32 (bits BinOp.or IntKind.u32 (↑s[a].toNat % 4294967296 * 16777216 % 4294967296) (↑s[b].toNat % 4294967296 * 65536 % 4294967296)) (↑s[c].toNat % 4294967296 * 256 % 4294967296)) (↑s[d].toNat % 4294967296)
      = ((word (s.data.toList.getD a 0).toNat (s.data.toList.getD b 0).toNat (s.data.toList.getD c 0).toNat (s.data.toList.getD d 0).toNat : Nat) : Int) := by
  rw [getD_byte s a ha, getD_byte s b hb, getD_byte s c hc, getD_byte s d hd]
  have h0 : s[a].toNat < 256 := UInt8.toNat_lt _
  have h1 : s[b].toNat < 256 := UInt8.toNat_lt _
  have h2 : s[c].toNat < 256 := UInt8.toNat_lt _
  have h3 : s[d].toNat < 256 := UInt8.toNat_lt _
  generalize s[a].toNat = p at *
  generalize s[b].toNat = q at *
  generalize s[c].toNat = r at *
  generalize s[d].toNat = t at *
  have e0 : ((p : Int) % 4294967296 * 16777216 % 4294967296) = ((2 ^ 24 * p : Nat) : Int) := by omega
  have e1 : ((q : Int) % 4294967296 * 65536 % 4294967296) = ((2 ^ 16 * q : Nat) : Int) := by omega
  have e2 : ((r : Int) % 4294967296 * 256 % 4294967296) = ((2 ^ 8 * r : Nat) : Int) := by omega
  have e3 : ((t : Int) % 4294967296) = ((t : Nat) : Int) := by omega
  rw [e0, e1, e2, e3, u32_or_nat _ _ (by omega) (by omega), or_add p (2 ^ 16 * q) 24 (by omega)]
  rw [u32_or_nat _ _ (by omega) (by omega), show 2 ^ 24 * p + 2 ^ 16 * q = 2 ^ 16 * (256 * p + q) by omega, or_add _ (2 ^ 8 * r) 16 (by omega)]
  rw [u32_or_nat _ _ (by omega) (by omega), show 2 ^ 16 * (256 * p + q) + 2 ^ 8 * r = 2 ^ 8 * (256 * (256 * p + q) + r) by omega, or_add _ t 8 (by omega)]
  unfold word
  omega
theorem wrap32 (n : Int) : IntKind.u32.wrap n = n % 4294967296 := by
  simp [IntKind.wrap, IntKind.bits, IntKind.signed]
theorem more_wrap (x16 x15 x7 x2 : Nat) (h15 : x15 < 4294967296) (h2 : x2 < 4294967296) :
    IntKind.u32.wrap (IntKind.u32.wrap (IntKind.u32.wrap ((x16 : Int) + bits BinOp.xor IntKind.u32 (bits BinOp.xor IntKind.u32 ↑(rotr x15 7) ↑(rotr x15 18)) ((x15 : Int) / 8)) + (x7 : Int)) +
      bits BinOp.xor IntKind.u32 (bits BinOp.xor IntKind.u32 ↑(rotr x2 17) ↑(rotr x2 19)) ((x2 : Int) / 1024)) = ((more x16 x15 x7 x2 : Nat) : Int) := by
  rw [← more_walk x16 x15 x7 x2 h15 h2, wrap32, wrap32, wrap32]
  omega
theorem upTo_more' (b : List UInt8) (k : Nat) (h1 : 16 ≤ k) (h2 : k < 64) (j : Nat) : (if j = k then more (upTo b k (k - 16)) (upTo b k (k - 15)) (upTo b k (k - 7)) (upTo b k (k - 2)) else upTo b k j) = upTo b (k + 1) j := by
  obtain ⟨n, rfl⟩ : ∃ n, k = n + 16 := ⟨k - 16, by omega⟩
  have := upTo_more b n (by omega) j
  rw [show n + 16 - 16 = n by omega, show n + 16 - 15 = n + 1 by omega, show n + 16 - 7 = n + 9 by omega, show n + 16 - 2 = n + 14 by omega]
  exact this
/-- the state behind j of its 8 sums -/
def halfWay (s v : St) (j i : Nat) : Nat := if i < j then add ((stList s).getD i 0) ((stList v).getD i 0) else (stList s).getD i 0
theorem halfWay_step (s v : St) (j i : Nat) : (if i = j then add (halfWay s v j j) ((stList v).getD j 0) else halfWay s v j i) = halfWay s v (j + 1) i := by
  unfold halfWay
  by_cases h : i = j
  · subst h; rw [if_pos rfl, if_neg (by omega), if_pos (by omega)]
  · rw [if_neg h]
    by_cases h2 : i < j
    · rw [if_pos h2, if_pos (by omega)]
    · rw [if_neg h2, if_neg (by omega)]
theorem halfWay_end (s v : St) (i : Nat) (h : i < 8) : halfWay s v 8 i = (stList (plus s v)).getD i 0 := by
  unfold halfWay
  rw [if_pos h]
  match i, h with
  | 0, _ => rfl
  | 1, _ => rfl
  | 2, _ => rfl
  | 3, _ => rfl
  | 4, _ => rfl
  | 5, _ => rfl
  | 6, _ => rfl
  | 7, _ => rfl
  | i + 8, h => omega
end Go.Proofs.YtkebipklcpplaaaDoor.Sha
