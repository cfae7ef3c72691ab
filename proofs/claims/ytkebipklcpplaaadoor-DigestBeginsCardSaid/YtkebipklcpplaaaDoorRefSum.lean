/- The contract of sortesref03.Sum. -/
import Derived.Test.YtkebipklcpplaaaDoorPadded
import Derived.Test.YtkebipklcpplaaaDoorBlock
import Derived.Test.YtkebipklcpplaaaDoorSumKit
namespace Go.Proofs.YtkebipklcpplaaaDoor
open Go.RowKit
set_option linter.unusedVariables false

theorem block_is (a b c d e f g h : Nat) (s : ByteArray) (M : Sha.St) (w : World) (hs : s.size = 64)
    (ha : a < 4294967296) (hb : b < 4294967296) (hc : c < 4294967296) (hd : d < 4294967296) (he : e < 4294967296) (hf : f < 4294967296) (hg : g < 4294967296) (hh : h < 4294967296) (hM : Sha.mix ⟨a, b, c, d, e, f, g, h⟩ s.data.toList = M) :
    Calls Tryd.prog 41 #[.agg #[.int .u32 a, .int .u32 b, .int .u32 c, .int .u32 d, .int .u32 e, .int .u32 f, .int .u32 g, .int .u32 h], .string s] w fun e' w' => e' = .returned (.agg #[.int .u32 (M.a : Int), .int .u32 (M.b : Int), .int .u32 (M.c : Int), .int .u32 (M.d : Int), .int .u32 (M.e : Int), .int .u32 (M.f : Int), .int .u32 (M.g : Int), .int .u32 (M.h : Int)]) ∧ Below w.heap.size w w' := by
  have := block_any a b c d e f g h s w hs ha hb hc hd he hf hg hh
  rw [hM] at this
  exact this


set_option maxHeartbeats 1000000 in
set_option maxRecDepth 100000 in
theorem rsum_any (s : ByteArray) (w : World) (hs : s.size ≤ 140737488355000) :
    Calls Tryd.prog 17 #[.string s] w fun e w' => e = .returned (.agg (hashArr (Sha.sum s.data.toList))) ∧ Below w.heap.size w w' := by
  go_enter Tryd.func17, Tryd.ntmps17
  go_wp2_with fail
  have hS0 := sum_start w #[.int .u8 0, .int .u8 0, .int .u8 0, .int .u8 0, .int .u8 0, .int .u8 0, .int .u8 0, .int .u8 0, .int .u8 0, .int .u8 0, .int .u8 0, .int .u8 0, .int .u8 0, .int .u8 0, .int .u8 0, .int .u8 0, .int .u8 0, .int .u8 0, .int .u8 0, .int .u8 0, .int .u8 0, .int .u8 0, .int .u8 0, .int .u8 0, .int .u8 0, .int .u8 0, .int .u8 0, .int .u8 0, .int .u8 0, .int .u8 0, .int .u8 0, .int .u8 0] rfl
  generalize (w.alloc (.cells #[.int .u8 0, .int .u8 0, .int .u8 0, .int .u8 0, .int .u8 0, .int .u8 0, .int .u8 0, .int .u8 0, .int .u8 0, .int .u8 0, .int .u8 0, .int .u8 0, .int .u8 0, .int .u8 0, .int .u8 0, .int .u8 0, .int .u8 0, .int .u8 0, .int .u8 0, .int .u8 0, .int .u8 0, .int .u8 0, .int .u8 0, .int .u8 0, .int .u8 0, .int .u8 0, .int .u8 0, .int .u8 0, .int .u8 0, .int .u8 0, .int .u8 0, .int .u8 0] 24)).alloc _ = W0 at *
  refine (padded_any s _ (by omega)).mono ?_
  rintro e w1 ⟨rfl, hb1⟩
  have hS1 := hS0.below hb1
  obtain ⟨hp1, hp2, hp3⟩ := Sha.padded_length s.data.toList
  have hll : s.data.toList.length = s.size := by simp
  rw [hll] at hp3
  obtain ⟨t, ht⟩ : ∃ t : ByteArray, (⟨(Sha.padded s.data.toList).toArray⟩ : ByteArray) = t := ⟨_, rfl⟩
  have htd : t.data.toList = Sha.padded s.data.toList := by rw [← ht]
  have htsz : t.size = (Sha.padded s.data.toList).length := by rw [← htd]; simp
  obtain ⟨nb, hnb⟩ : ∃ nb, t.size = 64 * nb := ⟨t.size / 64, by omega⟩
  have HSUM : Hid (Sha.sum s.data.toList = Sha.out (Sha.fold nb Sha.iv t.data.toList)) := by
    show Sha.sum s.data.toList = _
    rw [Sha.sum, htd, ← htsz, hnb, Nat.mul_div_cancel_left _ (by omega)]
  rw [ht]
  have ht1 : t.size ≤ 64 * nb := by omega
  have ht2 : 64 * nb ≤ t.size := by omega
  have ht3 : t.size ≤ s.size + 73 := by omega
  clear ht htd htsz hnb hp1 hp2 hp3 hll hS0 hb1
  go_wp2_with fail
  go_loopw [5] (fun i wr => ∃ k A B C D E F G H : Nat, k ≤ nb ∧ i = .int .i64 (64 * (k : Int)) ∧ A < 4294967296 ∧ B < 4294967296 ∧ C < 4294967296 ∧ D < 4294967296 ∧ E < 4294967296 ∧ F < 4294967296 ∧ G < 4294967296 ∧ H < 4294967296 ∧ Hid ((⟨A, B, C, D, E, F, G, H⟩ : Sha.St) = Sha.fold k Sha.iv t.data.toList) ∧ SumMem w wr ⟨A, B, C, D, E, F, G, H⟩) (fun i _ => t.size - (intOf i).toNat)
  case atStart => exact ⟨0, _, _, _, _, _, _, _, _, by omega, rfl, Sha.iv_ok.1, Sha.iv_ok.2.1, Sha.iv_ok.2.2.1, Sha.iv_ok.2.2.2.1, Sha.iv_ok.2.2.2.2.1, Sha.iv_ok.2.2.2.2.2.1, Sha.iv_ok.2.2.2.2.2.2.1, Sha.iv_ok.2.2.2.2.2.2.2, rfl, hS1⟩
  case round =>
    obtain ⟨k, A, B, C, D, E, F, G, H, hk, rfl, lA, lB, lC, lD, lE, lF, lG, lH, HF, hM⟩ := hrel
    by_cases hlt : k < nb
    · have hx : (t.extract (64 * k) (64 * k + 64)).size = 64 := by simp; omega
      have v0 : wr.cell? ⟨w.heap.size + 1, 0, none⟩ = some (.int .u32 (A : Int)) := hM.2.1.cell (i := 0) (by omega)
      have f0 : wr.frozen? ⟨w.heap.size + 1, 0, none⟩ = false := hM.2.1.frozen 0
      have v1 : wr.cell? ⟨w.heap.size + 1, 1, none⟩ = some (.int .u32 (B : Int)) := hM.2.1.cell (i := 1) (by omega)
      have f1 : wr.frozen? ⟨w.heap.size + 1, 1, none⟩ = false := hM.2.1.frozen 1
      have v2 : wr.cell? ⟨w.heap.size + 1, 2, none⟩ = some (.int .u32 (C : Int)) := hM.2.1.cell (i := 2) (by omega)
      have f2 : wr.frozen? ⟨w.heap.size + 1, 2, none⟩ = false := hM.2.1.frozen 2
      have v3 : wr.cell? ⟨w.heap.size + 1, 3, none⟩ = some (.int .u32 (D : Int)) := hM.2.1.cell (i := 3) (by omega)
      have f3 : wr.frozen? ⟨w.heap.size + 1, 3, none⟩ = false := hM.2.1.frozen 3
      have v4 : wr.cell? ⟨w.heap.size + 1, 4, none⟩ = some (.int .u32 (E : Int)) := hM.2.1.cell (i := 4) (by omega)
      have f4 : wr.frozen? ⟨w.heap.size + 1, 4, none⟩ = false := hM.2.1.frozen 4
      have v5 : wr.cell? ⟨w.heap.size + 1, 5, none⟩ = some (.int .u32 (F : Int)) := hM.2.1.cell (i := 5) (by omega)
      have f5 : wr.frozen? ⟨w.heap.size + 1, 5, none⟩ = false := hM.2.1.frozen 5
      have v6 : wr.cell? ⟨w.heap.size + 1, 6, none⟩ = some (.int .u32 (G : Int)) := hM.2.1.cell (i := 6) (by omega)
      have f6 : wr.frozen? ⟨w.heap.size + 1, 6, none⟩ = false := hM.2.1.frozen 6
      have v7 : wr.cell? ⟨w.heap.size + 1, 7, none⟩ = some (.int .u32 (H : Int)) := hM.2.1.cell (i := 7) (by omega)
      have f7 : wr.frozen? ⟨w.heap.size + 1, 7, none⟩ = false := hM.2.1.frozen 7
      have q1 : 0 ≤ 64 * (k : Int) := by omega
      have q2 : 64 * (k : Int) ≤ 64 * (k : Int) + 64 := by omega
      have q3 : 64 * (k : Int) + 64 ≤ (t.size : Int) := by omega
      have HX := Lib.hid hx
      clear hx
      have e1 : IntKind.i64.wrap (64 * (k : Int) + 64) = 64 * (k : Int) + 64 := IntWalk.i64_in _ (by omega)
      have e2 : (64 * (k : Int)).toNat = 64 * k := by omega
      have e3 : (64 * (k : Int) + 64).toNat = 64 * k + 64 := by omega
      have n3 : 64 * k + 64 ≤ t.size := by omega
      go_wp2_with fail
      obtain ⟨M, eM⟩ : ∃ M, Sha.mix ⟨A, B, C, D, E, F, G, H⟩ (t.extract (64 * k) (64 * k + 64)).data.toList = M := ⟨_, rfl⟩
      have EM := Lib.hid eM
      clear eM
      have hsz : w.heap.size + 1 < wr.heap.size := hM.2.1.lt
      go_region_with (go_at_call 41; refine (block_is A B C D E F G H _ M _ HX.out lA lB lC lD lE lF lG lH EM.out).mono ?_; rintro e' w2 ⟨rfl, hb2⟩; have hM2 := hM.drew.below hb2; obtain ⟨g0, k0, g1, k1, g2, k2, g3, k3, g4, k4, g5, k5, g6, k6, g7, k7⟩ := hM2.cells)
      go_wp2_with fail
      go_roundw
      case rel =>
        have hok : M.ok := by rw [← EM.out]; exact Sha.mix_ok _ _
        refine ⟨k + 1, M.a, M.b, M.c, M.d, M.e, M.f, M.g, M.h, by omega, by first | go_num | (congr 1; omega), hok.1, hok.2.1, hok.2.2.1, hok.2.2.2.1, hok.2.2.2.2.1, hok.2.2.2.2.2.1, hok.2.2.2.2.2.2.1, hok.2.2.2.2.2.2.2, ?_, hM2.store M⟩
        show M = _
        rw [Sha.fold_succ, ← HF.out, ← EM.out]
        congr 1
        exact extract_block t k
      case measure => simp [intOf]; omega
    · have hd64 : decide (64 * (k : Int) < (t.size : Int)) = false := by simp; omega
      obtain ⟨st, est⟩ : ∃ st : Sha.St, (⟨A, B, C, D, E, F, G, H⟩ : Sha.St) = st := ⟨_, rfl⟩
      rw [est] at hM HF
      have HS : Hid (Sha.sum s.data.toList = Sha.out st) := by
        show _ = _
        obtain rfl : k = nb := by omega
        rw [HSUM.out, HF.out]
      have hsok : ∀ i, (Sha.stList st).getD i 0 < 4294967296 := by
        rw [← est]
        exact stList_lt _ ⟨lA, lB, lC, lD, lE, lF, lG, lH⟩
      have HOK := Lib.hid hsok
      clear est HF hS1 hlt hsok lA lB lC lD lE lF lG lH
      have hsz : w.heap.size + 1 < wr.heap.size := hM.2.1.lt
      go_wp2_with fail
      refine sum_out w wr st (Code.wp _ _ _ _) _ hM rfl ?_
      intro W2 hM2 hO2
      obtain ⟨O, hO⟩ : ∃ O, wr.heap.size = O := ⟨_, rfl⟩
      rw [hO] at hO2 hsz ⊢
      clear hO
      go_loopw [7] (fun i wr => ∃ j : Nat, j ≤ 32 ∧ i = .int .i64 j ∧ SumMem w wr st ∧ wr.rowIs O 24 32 (fun i => .int .u8 (Sha.outAt st j i : Nat))) (fun i _ => 32 - (intOf i).toNat)
      case atStart => exact ⟨0, by omega, rfl, hM2, hO2⟩
      case round =>
        obtain ⟨j, hj, rfl, hM, hO⟩ := hrel
        by_cases hlt : j < 32
        · obtain ⟨p, ep⟩ : ∃ v, (Sha.stList st).getD (j / 4) 0 = v := ⟨_, rfl⟩
          have lp : p < 4294967296 := by rw [← ep]; exact HOK.out _
          have cp : wr.cell? ⟨w.heap.size + 1, j / 4, none⟩ = some (.int .u32 (p : Int)) := by rw [← ep]; exact hM.2.1.cell (i := j / 4) (by omega)
          have c0 := hO.cell (i := j) hlt
          have f0 := hO.frozen j
          have EP := Lib.hid ep
          clear ep
          go_wp2_with fail
          go_roundw
          case rel =>
            refine ⟨j + 1, by omega, by go_num, ⟨hM.1.setOther (by simp; omega) _, hM.2.1.setOther (by simp; omega) _, hM.2.2.setCell (by simp; omega) _⟩, (hO.set j _).congr fun i _ => ?_⟩
            rw [← Sha.outAt_step]
            by_cases e : i = j
            · rw [if_pos e, if_pos e, EP.out, shr_cast]; congr 1
            · rw [if_neg e, if_neg e]
          case measure => simp [intOf]; omega
        · have hd32 : decide ((j : Int) < 32) = false := by simp; omega
          have hO' : wr.heap[O]? = some (.cells (hashArr (Sha.out st)) 24 (0, 0)) := by
            obtain rfl : j = 32 := by omega
            exact hash_row _ hO
          obtain ⟨c0, hR', hR1, _⟩ := hM.1
          have hH := HS.out
          go_wp2_with (first | (refine wpList_load_row rfl 24 (.tmp 6) rfl O rfl 24 (hashArr (Sha.out st)) (0, 0) _ hO' Tryd.underlying24 rfl (hash_info _ (Sha.out_length _)) ?_) | (refine wpList_store_row rfl 24 (.tmp 2) (.tmp 40) rfl w.heap.size (hashArr (Sha.out st)) rfl rfl 24 c0 hR' (hash_info _ (Sha.out_length _)) (by rw [hR1, hashArr_size, Sha.out_length]) (hashArr_one _) ?_))
          refine bodyPost_ret (v := .agg (hashArr (Sha.out st))) (results_cell_row Tryd.results17 _ _ w.heap.size 24 (hashArr (Sha.out st)) (0, 0) _ rfl (setRow_heap _ _ _ _ _ _ hR') Tryd.underlying24 rfl (hash_info _ (Sha.out_length _))) rfl ⟨rfl, ?_⟩
          exact below_setRow hM.2.2 (Nat.le_refl _) _
end Go.Proofs.YtkebipklcpplaaaDoor
