/- The walk of the law GroupMembers. -/
import Derived.Test.YteihhgnpkpamgaaSumsWalk
import Derived.Test.YteihhgnpkpamgaaPrime
namespace Go.Proofs.Yteihhgnpkpamgaa
open Go.RowKit
set_option linter.unusedVariables false

theorem member_nat (q p : Nat) (hq : q = 1152921504606845789) (hp : p = 2305843009213691579) (x : Int) (h : 1 ≤ x ∧ x ≤ 2305843009213691578) : Num.memberZ x = (x ^ q % p == 1) := by
  rw [Num.memberZ_in x h, Num.powZ, if_neg (by omega), show (1152921504606845789 : Int).toNat = q by omega, show (2305843009213691579 : Int) = p by omega]
/-- of a number from 1 to P - 1 and its negative, exactly one is a member -/
theorem member_neg (x : Int) (h1 : 1 ≤ x) (h2 : x ≤ 2305843009213691578) : (Num.memberZ x != Num.memberZ (2305843009213691579 - x)) = true := by
  obtain ⟨q, hq⟩ : ∃ q : Nat, q = 1152921504606845789 := ⟨_, rfl⟩
  obtain ⟨p, hp⟩ : ∃ p : Nat, p = 2305843009213691579 := ⟨_, rfl⟩
  obtain ⟨n, rfl⟩ := Int.eq_ofNat_of_zero_le (show 0 ≤ x by omega)
  rw [member_nat q p hq hp n (by omega), member_nat q p hq hp _ (by omega), show (2305843009213691579 : Int) = p by omega]
  have hpr : Num.Pr p := by rw [hp]; exact Num.prP
  have := Num.one_of_two p q n (by omega) (by omega) hpr (by omega) (Num.fermatP p (2 * q) n hp (by omega) (by omega) (by omega))
  simpa [bne_iff_ne] using this

/-- the numbers that the law tries -/
def memAt (a : Int) : Nat → Int
  | 0 => a
  | 1 => wrap64 (-a)
  | 2 => a % 2305843009213693952
  | 3 => 2305843009213691579
  | 4 => 2305843009213691578
  | _ => 0
theorem memAt_bd (m : Int) (h : -9223372036854775808 ≤ m) (h' : m ≤ 9223372036854775807) (k : Nat) : -9223372036854775808 ≤ memAt m k ∧ memAt m k ≤ 9223372036854775807 := by
  unfold memAt; split <;> (try unfold wrap64) <;> omega
theorem mem_cells (w1 : World) (T : TypeId) (m : Int) (k : Nat) (hk : k < 6) :
    (w1.alloc (.cells #[.int .i64 m, .int .i64 (wrap64 (-m)), .int .i64 (m % 2305843009213693952), .int .i64 2305843009213691579, .int .i64 2305843009213691578, .int .i64 0] T)).cell? ⟨w1.heap.size, k, none⟩ = some (.int .i64 (memAt m k)) := by
  match k, hk with
  | 0, _ => simp [memAt]
  | 1, _ => simp [memAt]
  | 2, _ => simp [memAt]
  | 3, _ => simp [memAt]
  | 4, _ => simp [memAt]
  | 5, _ => simp [memAt]
  | k + 6, h => omega

set_option maxHeartbeats 400000 in
theorem walk_GroupMembers (m : Int) (hm : (Lit.int .i64 m).wf = true) (w : World) :
    Calls Try.prog 7 #[.int .i64 m] w fun e w' => e = .returned (.bool true) ∧ Below w.heap.size w w' := by
  obtain ⟨hm1, hm2⟩ := wf_bd hm
  clear hm
  have hmask := Lib.hid (Num.and61 m)
  have hmask2 := Num.and60 m
  go_enter Try.func7, Try.ntmps7
  go_wp2_with fail
  refine (sanity_any _).mono ?_
  rintro e w1 ⟨rfl, hb1⟩
  go_wp2_with fail
  rw [hmask.out]
  have HC := Lib.hid (mem_cells w1 3 m)
  have hbw : Below w.heap.size w (w1.alloc (.cells #[.int .i64 m, .int .i64 (wrap64 (-m)), .int .i64 (m % 2305843009213693952), .int .i64 2305843009213691579, .int .i64 2305843009213691578, .int .i64 0] 3)) := hb1.alloc hb1.size _
  have hsz : w1.heap.size < (w1.alloc (.cells #[.int .i64 m, .int .i64 (wrap64 (-m)), .int .i64 (m % 2305843009213693952), .int .i64 2305843009213691579, .int .i64 2305843009213691578, .int .i64 0] 3)).heap.size := by simp
  generalize w1.alloc _ = W2 at *
  go_loopw [5, 15] (fun _ i wr => ∃ k : Nat, k ≤ 6 ∧ i = .int .i64 k ∧ Below W2.heap.size W2 wr) (fun _ i _ => 6 - (intOf i).toNat)
  case atStart => exact ⟨0, by omega, rfl, Below.refl _ _⟩
  case round =>
    obtain ⟨k, hk, rfl, hbr⟩ := hrel
    by_cases hlt : k < 6
    · have hc : wr.cell? ⟨w1.heap.size, k, none⟩ = some (.int .i64 (memAt m k)) := (hbr.cell (p := ⟨w1.heap.size, k, none⟩) hsz).trans (HC.out k hlt)
      obtain ⟨hn1, hn2⟩ := memAt_bd m hm1 hm2 k
      generalize memAt m k = n at *
      go_wp2_with fail
      refine (member_any _ _ (by omega) (by omega)).mono ?_
      rintro e w2 ⟨rfl, hb2⟩
      go_wp2_with fail
      refine (rmember_any _ _ (by omega) (by omega)).mono ?_
      rintro e w3 ⟨rfl, rfl⟩
      go_wp2_with fail
      go_roundw
      case rel => exact ⟨k + 1, by omega, by go_num, hbr.trans (hb2.mono hbr.size)⟩
      case measure => simp [intOf]; omega
    · have hx := Lib.hid (member_neg (1 + m % 1152921504606846976) (by omega) (by omega))
      go_wp2_with fail
      refine (member_any _ _ (by omega) (by omega)).mono ?_
      rintro e w2 ⟨rfl, hb2⟩
      go_wp2_with fail
      refine (member_any _ _ (by omega) (by omega)).mono ?_
      rintro e w3 ⟨rfl, hb3⟩
      go_wp2_with fail
      go_ret
      refine ⟨ret_bool ?_, ?_⟩
      · exact hx.out
      · exact hbw.trans ((hbr.mono hbw.size).trans ((hb2.mono (by have := hbw.size; have := hbr.size; omega)).trans (hb3.mono (by have := hbw.size; have := hbr.size; have := hb2.size; omega))))
end Go.Proofs.Yteihhgnpkpamgaa
