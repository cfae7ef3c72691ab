/- The walk of the law GroupRing. -/
import Derived.Test.YteihhgnpkpamgaaSumsWalk
import Derived.Test.YteihhgnpkpamgaaPrime
namespace Go.Proofs.Yteihhgnpkpamgaa
open Go.RowKit
set_option linter.unusedVariables false

namespace Num
theorem addZ_comm (a b n : Int) : addZ b a n = addZ a b n := by unfold addZ; rw [Int.add_comm]
theorem mulZ_comm (a b n : Int) : mulZ b a n = mulZ a b n := by unfold mulZ; rw [Int.mul_comm]
theorem mulZ_assoc (a b c n : Int) : mulZ a (mulZ b c n) n = mulZ (mulZ a b n) c n := by
  unfold mulZ; split
  · rfl
  · rw [Int.mul_emod, Int.emod_emod, ← Int.mul_emod, Int.mul_emod (a * b % n), Int.emod_emod, ← Int.mul_emod, Int.mul_assoc]
theorem mulZ_addZ (a b c n : Int) : mulZ a (addZ b c n) n = addZ (mulZ a b n) (mulZ a c n) n := by
  unfold mulZ addZ; split
  · rfl
  · rw [Int.mul_emod, Int.emod_emod, ← Int.mul_emod, ← Int.add_emod, Int.mul_add]
theorem subZ_addZ (a b n : Int) : subZ (addZ a b n) b n = addZ a 0 n := by
  unfold subZ addZ; split
  · rfl
  · rw [Int.sub_emod, Int.emod_emod, ← Int.sub_emod, Int.add_sub_cancel, Int.add_zero]
theorem addZ_bd (a b n : Int) (hn : n ≤ 9223372036854775807) : -9223372036854775808 ≤ addZ a b n ∧ addZ a b n ≤ 9223372036854775807 := by
  unfold addZ; split
  · omega
  · have := Int.emod_nonneg (a + b) (show n ≠ 0 by omega)
    have := Int.emod_lt_of_pos (a + b) (show 0 < n by omega)
    omega
theorem mulZ_bd' (a b n : Int) (hn : n ≤ 9223372036854775807) : -9223372036854775808 ≤ mulZ a b n ∧ mulZ a b n ≤ 9223372036854775807 := by
  unfold mulZ; split
  · omega
  · have := Int.emod_nonneg (a * b) (show n ≠ 0 by omega)
    have := Int.emod_lt_of_pos (a * b) (show 0 < n by omega)
    omega
theorem InvIs.yes {a n i : Int} (h : InvIs a n i true) : mulZ a i n = 1 ∧ 1 ≤ i ∧ i < n := by
  rcases h with ⟨_, h1, h2, h3, h4⟩ | ⟨h, _⟩
  · refine ⟨by rw [mulZ, if_neg (by omega), h4], ?_, h3⟩
    rcases Int.lt_or_le i 1 with h | h
    · obtain rfl : i = 0 := by omega
      simp at h4
    · exact h
  · cases h
theorem InvIs.no {a n i : Int} (h : InvIs a n i false) : i = 0 := by
  rcases h with ⟨h, _⟩ | ⟨_, h, _⟩
  · cases h
  · exact h
/-- modulo a prime: there is an inverse, unless the number is 0 -/
theorem InvIs.prime {a i : Int} {ok : Bool} (p : Nat) (hp : 2 ≤ p) (hinv : ∀ x, 0 < x → x < p → ∃ j : Nat, x * j % p = 1) (h : InvIs a p i ok) : ok = (addZ a 0 p != 0) := by
  rw [addZ, if_neg (by omega), Int.add_zero]
  rcases h with ⟨rfl, h1, h2, h3, h4⟩ | ⟨rfl, rfl, h1⟩
  · symm
    rw [bne_iff_ne]
    intro e
    rw [Int.mul_emod, e, Int.zero_mul, Int.zero_emod] at h4
    cases h4
  · symm
    rw [bne_eq_false_iff_eq]
    have e1 := Int.emod_nonneg a (show (p : Int) ≠ 0 by omega)
    have e2 := Int.emod_lt_of_pos a (show 0 < (p : Int) by omega)
    rcases Int.lt_or_le 0 (a % p) with h | h
    · exfalso
      obtain ⟨j, hj⟩ := hinv (a % p).toNat (by omega) (by omega)
      apply h1 j (by omega)
      have h5 : a * (j : Int) % p = a % p * j % p := by rw [Int.mul_emod a j, Int.mul_emod (a % p) j, Int.emod_emod a]
      rw [h5, ← Int.toNat_of_nonneg e1, ← Int.natCast_mul, ← Int.natCast_emod, hj]
      rfl
    · omega
end Num

theorem mul_is (a b m r : Int) (w : World) (ha : -9223372036854775808 ≤ a) (ha' : a ≤ 9223372036854775807) (hb : -9223372036854775808 ≤ b) (hb' : b ≤ 9223372036854775807) (h2 : m ≤ 9223372036854775807) (h : Num.mulZ a b m = r) :
    Calls Try.prog 14 #[.int .i64 a, .int .i64 b, .int .i64 m] w fun e w' => e = .returned (.int .i64 r) ∧ w = w' := by
  rw [← h]; exact mul_any a b m w ha ha' hb hb' h2
theorem add_is (a b m r : Int) (w : World) (ha : -9223372036854775808 ≤ a) (ha' : a ≤ 9223372036854775807) (hb : -9223372036854775808 ≤ b) (hb' : b ≤ 9223372036854775807) (h2 : m ≤ 9223372036854775807) (h : Num.addZ a b m = r) :
    Calls Try.prog 10 #[.int .i64 a, .int .i64 b, .int .i64 m] w fun e w' => e = .returned (.int .i64 r) ∧ w = w' := by
  rw [← h]; exact add_any a b m w ha ha' hb hb' h2
theorem sub_is (a b m r : Int) (w : World) (ha : -9223372036854775808 ≤ a) (ha' : a ≤ 9223372036854775807) (hb : -9223372036854775808 ≤ b) (hb' : b ≤ 9223372036854775807) (h2 : m ≤ 9223372036854775807) (h : Num.subZ a b m = r) :
    Calls Try.prog 12 #[.int .i64 a, .int .i64 b, .int .i64 m] w fun e w' => e = .returned (.int .i64 r) ∧ w = w' := by
  rw [← h]; exact sub_any a b m w ha ha' hb hb' h2

/-- the moduli that the law tries -/
def ringAt (m : Int) : Nat → Int
  | 0 => m
  | 1 => 2305843009213691579
  | 2 => 1152921504606845789
  | _ => m % 64
theorem ringAt_bd (m : Int) (h : -9223372036854775808 ≤ m) (h' : m ≤ 9223372036854775807) (k : Nat) : -9223372036854775808 ≤ ringAt m k ∧ ringAt m k ≤ 9223372036854775807 := by
  unfold ringAt; split <;> omega
theorem ring_cells (w1 : World) (T : TypeId) (m : Int) (k : Nat) (hk : k < 4) :
    (w1.alloc (.cells #[.int .i64 m, .int .i64 2305843009213691579, .int .i64 1152921504606845789, .int .i64 (m % 64)] T)).cell? ⟨w1.heap.size, k, none⟩ = some (.int .i64 (ringAt m k)) := by
  match k, hk with
  | 0, _ => simp [ringAt]
  | 1, _ => simp [ringAt]
  | 2, _ => simp [ringAt]
  | 3, _ => simp [ringAt]
  | k + 4, h => omega

set_option maxHeartbeats 1000000 in
set_option maxRecDepth 100000 in
theorem walk3_GroupRing (a b c m : Int) (ha : (Lit.int .i64 a).wf = true) (hb : (Lit.int .i64 b).wf = true) (hc : (Lit.int .i64 c).wf = true) (hm : (Lit.int .i64 m).wf = true) (w : World) :
    Calls Try.prog 6 #[.agg #[.int .i64 a, .int .i64 b, .int .i64 c], .int .i64 m] w fun e w' => e = .returned (.bool true) ∧ Below w.heap.size w w' := by
  obtain ⟨ha1, ha2⟩ := wf_bd ha
  obtain ⟨hb1, hb2⟩ := wf_bd hb
  obtain ⟨hc1, hc2⟩ := wf_bd hc
  obtain ⟨hm1, hm2⟩ := wf_bd hm
  clear ha hb hc hm
  have hmask := Num.and6 m
  go_enter Try.func6, Try.ntmps6
  go_wp2_with fail
  refine (sanity_any _).mono ?_
  rintro e w1 ⟨rfl, hbl⟩
  obtain ⟨hcc, hff⟩ := bcell hbl
  have hc0 : w1.cell? ⟨w.heap.size, 0, none⟩ = some (.int .i64 a) := by rw [hcc _ _ (by simp)]; simp
  have hc1 : w1.cell? ⟨w.heap.size, 1, none⟩ = some (.int .i64 b) := by rw [hcc _ _ (by simp)]; simp
  have hc2 : w1.cell? ⟨w.heap.size, 2, none⟩ = some (.int .i64 c) := by rw [hcc _ _ (by simp)]; simp
  clear hcc hff
  go_wp2_with fail
  go_quiet (fail)
  go_wp2_with fail
  have HC : Hid (∀ k, k < 4 → ((w1.drewN nq).alloc (.cells #[.int .i64 m, .int .i64 2305843009213691579, .int .i64 1152921504606845789, .int .i64 (m % 64)] 3)).cell? ⟨w1.heap.size, k, none⟩ = some (.int .i64 (ringAt m k))) := ring_cells (w1.drewN nq) 3 m
  have hbw : Below w.heap.size w ((w1.drewN nq).alloc (.cells #[.int .i64 m, .int .i64 2305843009213691579, .int .i64 1152921504606845789, .int .i64 (m % 64)] 3)) :=
    (below_drewN (((Below.refl _ _).alloc (Nat.le_refl _) _).trans (hbl.mono (by simp))) nq).alloc (by have := hbl.size; simp at this; simp; omega) _
  have hsz : w1.heap.size < ((w1.drewN nq).alloc (.cells #[.int .i64 m, .int .i64 2305843009213691579, .int .i64 1152921504606845789, .int .i64 (m % 64)] 3)).heap.size := by simp
  generalize (w1.drewN nq).alloc _ = W2 at *
  clear hc0 hc1 hc2
  go_loopw [10, 11, 12, 25] (fun _ _ _ i wr => ∃ k : Nat, k ≤ 4 ∧ i = .int .i64 k ∧ Below W2.heap.size W2 wr) (fun _ _ _ i _ => 4 - (intOf i).toNat)
  case atStart => exact ⟨0, by omega, rfl, Below.refl _ _⟩
  case round =>
    obtain ⟨k, hk, rfl, hbr⟩ := hrel
    by_cases hlt : k < 4
    · have hc : wr.cell? ⟨w1.heap.size, k, none⟩ = some (.int .i64 (ringAt m k)) := (hbr.cell (p := ⟨w1.heap.size, k, none⟩) hsz).trans (HC.out k hlt)
      obtain ⟨hn1, hn2⟩ := ringAt_bd m hm1 hm2 k
      generalize ringAt m k = n at *
      obtain ⟨ab, h1⟩ : ∃ v, Num.addZ a b n = v := ⟨_, rfl⟩
      obtain ⟨mab, h3⟩ : ∃ v, Num.mulZ a b n = v := ⟨_, rfl⟩
      obtain ⟨mabc, h5⟩ : ∃ v, Num.mulZ mab c n = v := ⟨_, rfl⟩
      obtain ⟨mbc, h6⟩ : ∃ v, Num.mulZ b c n = v := ⟨_, rfl⟩
      obtain ⟨sbc, h8⟩ : ∃ v, Num.addZ b c n = v := ⟨_, rfl⟩
      obtain ⟨d, h9⟩ : ∃ v, Num.mulZ a sbc n = v := ⟨_, rfl⟩
      obtain ⟨mac, h10⟩ : ∃ v, Num.mulZ a c n = v := ⟨_, rfl⟩
      obtain ⟨a0, h13⟩ : ∃ v, Num.addZ a 0 n = v := ⟨_, rfl⟩
      have H2 : Hid (Num.addZ b a n = ab) := (Num.addZ_comm a b n).trans h1
      have H4 : Hid (Num.mulZ b a n = mab) := (Num.mulZ_comm a b n).trans h3
      have H7 : Hid (Num.mulZ a mbc n = mabc) := by rw [← h6, Num.mulZ_assoc, h3]; exact h5
      have H11 : Hid (Num.addZ mab mac n = d) := by rw [← h3, ← h10, ← Num.mulZ_addZ, h8]; exact h9
      have H12 : Hid (Num.subZ ab b n = a0) := by rw [← h1, Num.subZ_addZ]; exact h13
      have b1 : -9223372036854775808 ≤ ab ∧ ab ≤ 9223372036854775807 := by rw [← h1]; exact Num.addZ_bd _ _ _ hn2
      have b2 : -9223372036854775808 ≤ mab ∧ mab ≤ 9223372036854775807 := by rw [← h3]; exact Num.mulZ_bd' _ _ _ hn2
      have b3 : -9223372036854775808 ≤ mbc ∧ mbc ≤ 9223372036854775807 := by rw [← h6]; exact Num.mulZ_bd' _ _ _ hn2
      have b4 : -9223372036854775808 ≤ sbc ∧ sbc ≤ 9223372036854775807 := by rw [← h8]; exact Num.addZ_bd _ _ _ hn2
      have b5 : -9223372036854775808 ≤ mac ∧ mac ≤ 9223372036854775807 := by rw [← h10]; exact Num.mulZ_bd' _ _ _ hn2
      have H1 := Lib.hid h1
      have H3 := Lib.hid h3
      have H5 := Lib.hid h5
      have H6 := Lib.hid h6
      have H8 := Lib.hid h8
      have H9 := Lib.hid h9
      have H10 := Lib.hid h10
      have H13 := Lib.hid h13
      clear h1 h3 h5 h6 h8 h9 h10 h13
      go_wp2_with fail
      refine (add_is a b n ab _ (by omega) (by omega) (by omega) (by omega) (by omega) H1.out).mono ?_
      rintro e w' ⟨rfl, rfl⟩
      go_wp2_with fail
      refine (add_is b a n ab _ (by omega) (by omega) (by omega) (by omega) (by omega) H2.out).mono ?_
      rintro e w' ⟨rfl, rfl⟩
      go_wp2_with fail
      refine (mul_is a b n mab _ (by omega) (by omega) (by omega) (by omega) (by omega) H3.out).mono ?_
      rintro e w' ⟨rfl, rfl⟩
      go_wp2_with fail
      refine (mul_is b a n mab _ (by omega) (by omega) (by omega) (by omega) (by omega) H4.out).mono ?_
      rintro e w' ⟨rfl, rfl⟩
      go_wp2_with fail
      refine (mul_is a b n mab _ (by omega) (by omega) (by omega) (by omega) (by omega) H3.out).mono ?_
      rintro e w' ⟨rfl, rfl⟩
      go_wp2_with fail
      refine (mul_is mab c n mabc _ (by omega) (by omega) (by omega) (by omega) (by omega) H5.out).mono ?_
      rintro e w' ⟨rfl, rfl⟩
      go_wp2_with fail
      refine (mul_is b c n mbc _ (by omega) (by omega) (by omega) (by omega) (by omega) H6.out).mono ?_
      rintro e w' ⟨rfl, rfl⟩
      go_wp2_with fail
      refine (mul_is a mbc n mabc _ (by omega) (by omega) (by omega) (by omega) (by omega) H7.out).mono ?_
      rintro e w' ⟨rfl, rfl⟩
      go_wp2_with fail
      refine (add_is b c n sbc _ (by omega) (by omega) (by omega) (by omega) (by omega) H8.out).mono ?_
      rintro e w' ⟨rfl, rfl⟩
      go_wp2_with fail
      refine (mul_is a sbc n d _ (by omega) (by omega) (by omega) (by omega) (by omega) H9.out).mono ?_
      rintro e w' ⟨rfl, rfl⟩
      go_wp2_with fail
      refine (mul_is a b n mab _ (by omega) (by omega) (by omega) (by omega) (by omega) H3.out).mono ?_
      rintro e w' ⟨rfl, rfl⟩
      go_wp2_with fail
      refine (mul_is a c n mac _ (by omega) (by omega) (by omega) (by omega) (by omega) H10.out).mono ?_
      rintro e w' ⟨rfl, rfl⟩
      go_wp2_with fail
      refine (add_is mab mac n d _ (by omega) (by omega) (by omega) (by omega) (by omega) H11.out).mono ?_
      rintro e w' ⟨rfl, rfl⟩
      go_wp2_with fail
      refine (add_is a b n ab _ (by omega) (by omega) (by omega) (by omega) (by omega) H1.out).mono ?_
      rintro e w' ⟨rfl, rfl⟩
      go_wp2_with fail
      refine (sub_is ab b n a0 _ (by omega) (by omega) (by omega) (by omega) (by omega) H12.out).mono ?_
      rintro e w' ⟨rfl, rfl⟩
      go_wp2_with fail
      refine (add_is a 0 n a0 _ (by omega) (by omega) (by omega) (by omega) (by omega) H13.out).mono ?_
      rintro e w' ⟨rfl, rfl⟩
      go_wp2_with fail
      refine (inv_any _ _ _ (by omega) (by omega) (by omega)).mono ?_
      rintro e w2 ⟨⟨i, ok, rfl, hi⟩, hb2⟩
      have HI := Lib.hid hi
      clear hi
      have hPQ : (((n == 2305843009213691579) = true ∧ ok = (a0 != 0)) ∨ ((n == 2305843009213691579) = false ∧ (n == 1152921504606845789) = true ∧ ok = (a0 != 0)) ∨ ((n == 2305843009213691579) = false ∧ (n == 1152921504606845789) = false)) := by
        by_cases e1 : n = 2305843009213691579
        · left
          refine ⟨by simpa using e1, ?_⟩
          rw [← H13.out]; subst e1; exact Num.InvIs.prime 2305843009213691579 (by omega) Num.invP HI.out
        · right
          by_cases e2 : n = 1152921504606845789
          · left
            refine ⟨by simpa using e1, by simpa using e2, ?_⟩
            rw [← H13.out]; subst e2; exact Num.InvIs.prime 1152921504606845789 (by omega) Num.invQ HI.out
          · right
            exact ⟨by simpa using e1, by simpa using e2⟩
      clear H1 H2 H3 H4 H5 H6 H7 H8 H9 H10 H11 H12
      cases ok
      · obtain rfl := HI.out.no
        rcases hPQ with ⟨g1, g2⟩ | ⟨g1, g2, g3⟩ | ⟨g1, g2⟩
        · have g2' : (a0 != 0) = false := g2.symm
          clear g2
          go_wp2_with fail
          refine (add_is a 0 n a0 _ (by omega) (by omega) (by omega) (by omega) (by omega) H13.out).mono ?_
          rintro e w' ⟨rfl, rfl⟩
          go_wp2_with fail
          go_roundw
          case rel => exact ⟨k + 1, by omega, by go_num, hbr.trans (hb2.mono hbr.size)⟩
          case measure => simp [intOf]; omega
        · have g2' : (a0 != 0) = false := g3.symm
          clear g3
          go_wp2_with fail
          refine (add_is a 0 n a0 _ (by omega) (by omega) (by omega) (by omega) (by omega) H13.out).mono ?_
          rintro e w' ⟨rfl, rfl⟩
          go_wp2_with fail
          go_roundw
          case rel => exact ⟨k + 1, by omega, by go_num, hbr.trans (hb2.mono hbr.size)⟩
          case measure => simp [intOf]; omega
        · go_wp2_with fail
          go_roundw
          case rel => exact ⟨k + 1, by omega, by go_num, hbr.trans (hb2.mono hbr.size)⟩
          case measure => simp [intOf]; omega
      · obtain ⟨i1, i2, i3⟩ := HI.out.yes
        have I1 := Lib.hid i1
        clear i1
        have d1 : decide (i < 1) = false := by simp; omega
        have d2 : decide (n ≤ i) = false := by simp; omega
        rcases hPQ with ⟨g1, g2⟩ | ⟨g1, g2, g3⟩ | ⟨g1, g2⟩
        · have g2' : (a0 != 0) = true := g2.symm
          clear g2
          go_wp2_with fail
          refine (mul_is a i n 1 _ (by omega) (by omega) (by omega) (by omega) (by omega) I1.out).mono ?_
          rintro e w' ⟨rfl, rfl⟩
          go_wp2_with fail
          refine (add_is a 0 n a0 _ (by omega) (by omega) (by omega) (by omega) (by omega) H13.out).mono ?_
          rintro e w' ⟨rfl, rfl⟩
          go_wp2_with fail
          go_roundw
          case rel => exact ⟨k + 1, by omega, by go_num, hbr.trans (hb2.mono hbr.size)⟩
          case measure => simp [intOf]; omega
        · have g2' : (a0 != 0) = true := g3.symm
          clear g3
          go_wp2_with fail
          refine (mul_is a i n 1 _ (by omega) (by omega) (by omega) (by omega) (by omega) I1.out).mono ?_
          rintro e w' ⟨rfl, rfl⟩
          go_wp2_with fail
          refine (add_is a 0 n a0 _ (by omega) (by omega) (by omega) (by omega) (by omega) H13.out).mono ?_
          rintro e w' ⟨rfl, rfl⟩
          go_wp2_with fail
          go_roundw
          case rel => exact ⟨k + 1, by omega, by go_num, hbr.trans (hb2.mono hbr.size)⟩
          case measure => simp [intOf]; omega
        · go_wp2_with fail
          refine (mul_is a i n 1 _ (by omega) (by omega) (by omega) (by omega) (by omega) I1.out).mono ?_
          rintro e w' ⟨rfl, rfl⟩
          go_wp2_with fail
          go_roundw
          case rel => exact ⟨k + 1, by omega, by go_num, hbr.trans (hb2.mono hbr.size)⟩
          case measure => simp [intOf]; omega
    · go_wp2_with fail
      go_ret
      exact ⟨rfl, hbw.trans (hbr.mono hbw.size)⟩

theorem walk_GroupRing (zs : List Int) (hl : zs.length = 3) (m : Int) (hz : ∀ z ∈ zs, (Lit.int .i64 z).wf = true) (hm : (Lit.int .i64 m).wf = true) (w : World) :
    Calls Try.prog 6 #[.agg (zs.map (Value.int .i64)).toArray, .int .i64 m] w fun e w' => e = .returned (.bool true) ∧ Below w.heap.size w w' := by
  match zs, hl with
  | [a, b, c], _ => exact walk3_GroupRing a b c m (hz a (by simp)) (hz b (by simp)) (hz c (by simp)) hm w
end Go.Proofs.Yteihhgnpkpamgaa
