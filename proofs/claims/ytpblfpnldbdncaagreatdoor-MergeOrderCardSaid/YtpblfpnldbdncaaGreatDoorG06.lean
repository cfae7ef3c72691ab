/- The contract of digest.Sum. The contract of sortesref03.Sum. Hashes that lie in memory; the contracts of the two sums. Hashes compared and indexed; the contract of digest.Text. The contract of sortesref03.Text. -/
import Derived.Test.YtpblfpnldbdncaaGreatDoorG03
import Derived.Test.YtpblfpnldbdncaaGreatDoorG05
import Derived.Test.YtpblfpnldbdncaaGreatDoorShelf
import Derived.Test.YtpblfpnldbdncaaGreatDoorG02
import Derived.Stop.BytesEq
import Derived.Deep.OwnRows
namespace Go.Proofs.YtpblfpnldbdncaaGreatDoor
open Go.RowKit
set_option linter.unusedVariables false

theorem Tabs.below {w w' : World} (h : Tabs w) (hb : Below w.heap.size w w') : Tabs w' := by
  obtain ⟨h1, h2, h3, h4⟩ := h
  exact ⟨fun i hi => (hb.cell (p := ⟨0, i, none⟩) h3).trans (h1 i hi), fun i hi => (hb.cell (p := ⟨1, i, none⟩) h4).trans (h2 i hi), by have := hb.size; omega, by have := hb.size; omega⟩
theorem mix_is (a b c d e f g h : Nat) (s : ByteArray) (M : Sha.St) (w : World) (hs : s.size = 64) (hT : Tabs w)
    (ha : a < 4294967296) (hb : b < 4294967296) (hc : c < 4294967296) (hd : d < 4294967296) (he : e < 4294967296) (hf : f < 4294967296) (hg : g < 4294967296) (hh : h < 4294967296) (hM : Sha.mix ⟨a, b, c, d, e, f, g, h⟩ s.data.toList = M) :
    Calls Tryz.prog 116 #[.agg #[.int .u32 a, .int .u32 b, .int .u32 c, .int .u32 d, .int .u32 e, .int .u32 f, .int .u32 g, .int .u32 h], .string s] w fun e' w' => e' = .returned (.agg #[.int .u32 (M.a : Int), .int .u32 (M.b : Int), .int .u32 (M.c : Int), .int .u32 (M.d : Int), .int .u32 (M.e : Int), .int .u32 (M.f : Int), .int .u32 (M.g : Int), .int .u32 (M.h : Int)]) ∧ Below w.heap.size w w' := by
  have := mix_any a b c d e f g h s w hs hT ha hb hc hd he hf hg hh
  rw [hM] at this
  exact this
/-- the rest of the message, as the code joins it -/
theorem rest_str (s rz : ByteArray) (z : Nat) (hz : (119 - s.size % 64) % 64 = z) (hrz : (⟨(Lib.repeatL [0] z).toArray⟩ : ByteArray) = rz) : (s.extract (s.size / 64 * 64) s.size ++ (⟨#[128]⟩ : ByteArray)) ++ (rz ++ ⟨(Sha.bytesOf 8 (s.size * 8)).toArray⟩) = ⟨(Sha.rest s.data.toList).toArray⟩ := by
  have e1 : s.extract (s.size / 64 * 64) s.size = ⟨(s.data.toList.drop (64 * (s.size / 64))).toArray⟩ := by
    rw [Nat.mul_comm]
    apply ByteArray.ext
    apply Array.toList_inj.1
    simp [ByteArray.data_extract, List.extract_eq_take_drop]
    rw [List.take_of_length_le (by simp)]
  rw [← hrz, e1, show (⟨#[128]⟩ : ByteArray) = ⟨([128] : List UInt8).toArray⟩ from rfl, ba_append, ba_append, ba_append, Sha.repeatL_zero, Sha.rest]
  have hl : s.data.toList.length = s.size := by simp
  rw [hl, hz]
  simp

set_option maxHeartbeats 2000000 in
set_option maxRecDepth 100000 in
theorem sum_any (s : ByteArray) (w : World) (hs : s.size ≤ 140737488355000) (hT : Tabs w) :
    Calls Tryz.prog 91 #[.string s] w fun e w' => e = .returned (.agg (hashArr (Sha.sum s.data.toList))) ∧ Below w.heap.size w w' := by
  have t0 : w.cell? ⟨0, 0, none⟩ = some (.int .u32 1779033703) := hT.1 0 (by omega)
  have t1 : w.cell? ⟨0, 1, none⟩ = some (.int .u32 3144134277) := hT.1 1 (by omega)
  have t2 : w.cell? ⟨0, 2, none⟩ = some (.int .u32 1013904242) := hT.1 2 (by omega)
  have t3 : w.cell? ⟨0, 3, none⟩ = some (.int .u32 2773480762) := hT.1 3 (by omega)
  have t4 : w.cell? ⟨0, 4, none⟩ = some (.int .u32 1359893119) := hT.1 4 (by omega)
  have t5 : w.cell? ⟨0, 5, none⟩ = some (.int .u32 2600822924) := hT.1 5 (by omega)
  have t6 : w.cell? ⟨0, 6, none⟩ = some (.int .u32 528734635) := hT.1 6 (by omega)
  have t7 : w.cell? ⟨0, 7, none⟩ = some (.int .u32 1541459225) := hT.1 7 (by omega)
  have hlt0 := hT.2.2.1
  have HT := Lib.hid hT
  clear hT
  have hll : s.data.toList.length = s.size := by simp
  have HLL := Lib.hid hll
  clear hll
  go_enter Tryz.func91, Tryz.ntmps91
  go_wp2_with fail
  have hS0 := sum_start w #[.int .u8 0, .int .u8 0, .int .u8 0, .int .u8 0, .int .u8 0, .int .u8 0, .int .u8 0, .int .u8 0, .int .u8 0, .int .u8 0, .int .u8 0, .int .u8 0, .int .u8 0, .int .u8 0, .int .u8 0, .int .u8 0, .int .u8 0, .int .u8 0, .int .u8 0, .int .u8 0, .int .u8 0, .int .u8 0, .int .u8 0, .int .u8 0, .int .u8 0, .int .u8 0, .int .u8 0, .int .u8 0, .int .u8 0, .int .u8 0, .int .u8 0, .int .u8 0] rfl
  generalize (w.alloc (.cells #[.int .u8 0, .int .u8 0, .int .u8 0, .int .u8 0, .int .u8 0, .int .u8 0, .int .u8 0, .int .u8 0, .int .u8 0, .int .u8 0, .int .u8 0, .int .u8 0, .int .u8 0, .int .u8 0, .int .u8 0, .int .u8 0, .int .u8 0, .int .u8 0, .int .u8 0, .int .u8 0, .int .u8 0, .int .u8 0, .int .u8 0, .int .u8 0, .int .u8 0, .int .u8 0, .int .u8 0, .int .u8 0, .int .u8 0, .int .u8 0, .int .u8 0, .int .u8 0] 27)).alloc _ = W0 at *
  clear t0 t1 t2 t3 t4 t5 t6 t7
  go_loopw [5] (fun i wr => ∃ k A B C D E F G H : Nat, k ≤ s.size / 64 ∧ i = .int .i64 (64 * (k : Int)) ∧ A < 4294967296 ∧ B < 4294967296 ∧ C < 4294967296 ∧ D < 4294967296 ∧ E < 4294967296 ∧ F < 4294967296 ∧ G < 4294967296 ∧ H < 4294967296 ∧ Hid ((⟨A, B, C, D, E, F, G, H⟩ : Sha.St) = Sha.fold k Sha.iv s.data.toList) ∧ SumMem w wr ⟨A, B, C, D, E, F, G, H⟩) (fun i _ => s.size - (intOf i).toNat)
  case atStart => exact ⟨0, _, _, _, _, _, _, _, _, by omega, rfl, Sha.iv_ok.1, Sha.iv_ok.2.1, Sha.iv_ok.2.2.1, Sha.iv_ok.2.2.2.1, Sha.iv_ok.2.2.2.2.1, Sha.iv_ok.2.2.2.2.2.1, Sha.iv_ok.2.2.2.2.2.2.1, Sha.iv_ok.2.2.2.2.2.2.2, rfl, hS0⟩
  case round =>
    obtain ⟨k, A, B, C, D, E, F, G, H, hk, rfl, lA, lB, lC, lD, lE, lF, lG, lH, HF, hM⟩ := hrel
    by_cases hlt : k < s.size / 64
    · have hx : (s.extract (64 * k) (64 * k + 64)).size = 64 := by simp; omega
      have v0 : wr.cell? ⟨w.heap.size + 1, 0, none⟩ = some (.int .u32 (A : Int)) := hM.2.1.cell (i := 0) (by omega)
      have f0 : wr.frozen? ⟨w.heap.size + 1, 0, none⟩ = false := hM.2.1.frozen 0
      have v1 : wr.cell? ⟨w.heap.size + 1, 1, none⟩ = some (.int .u32 (B : Int)) := hM.2.1.cell (i := 1) (by omega)
      have f1 : wr.frozen? ⟨w.heap.size + 1, 1, none⟩ = false := hM.2.1.frozen 1
      have v2 : wr.cell? ⟨w.heap.size + 1, 2, none⟩ = some (.int .u32 (C : Int)) := hM.2.1.cell (i := 2) (by omega)
      have f2 : wr.frozen? ⟨w.heap.size + 1, 2, none⟩ = false := hM.2.1.frozen 2
      have v3 : wr.cell? ⟨w.heap.size + 1, 3, none⟩ = some (.int .u32 (D : Int)) := hM.2.1.cell (i := 3) (by omega)
      have f3 : wr.frozen? ⟨w.heap.size + 1, 3, none⟩ = false := hM.2.1.frozen 3
      have v4 : wr.cell? ⟨w.heap.size + 1, 4, none⟩ = some (.int .u32 (E : Int)) := hM.2.1.cell (i := 4) (by omega)
      have f4 : wr.frozen? ⟨w.heap.size + 1, 4, none⟩ = false := hM.2.1.frozen 4
      have v5 : wr.cell? ⟨w.heap.size + 1, 5, none⟩ = some (.int .u32 (F : Int)) := hM.2.1.cell (i := 5) (by omega)
      have f5 : wr.frozen? ⟨w.heap.size + 1, 5, none⟩ = false := hM.2.1.frozen 5
      have v6 : wr.cell? ⟨w.heap.size + 1, 6, none⟩ = some (.int .u32 (G : Int)) := hM.2.1.cell (i := 6) (by omega)
      have f6 : wr.frozen? ⟨w.heap.size + 1, 6, none⟩ = false := hM.2.1.frozen 6
      have v7 : wr.cell? ⟨w.heap.size + 1, 7, none⟩ = some (.int .u32 (H : Int)) := hM.2.1.cell (i := 7) (by omega)
      have f7 : wr.frozen? ⟨w.heap.size + 1, 7, none⟩ = false := hM.2.1.frozen 7
      have q1 : 0 ≤ 64 * (k : Int) := by omega
      have q2 : 64 * (k : Int) ≤ 64 * (k : Int) + 64 := by omega
      have q3 : 64 * (k : Int) + 64 ≤ (s.size : Int) := by omega
      have HX := Lib.hid hx
      clear hx
      have e1 : IntKind.i64.wrap (64 * (k : Int) + 64) = 64 * (k : Int) + 64 := IntWalk.i64_in _ (by omega)
      have e2 : (64 * (k : Int)).toNat = 64 * k := by omega
      have e3 : (64 * (k : Int) + 64).toNat = 64 * k + 64 := by omega
      have n3 : 64 * k + 64 ≤ s.size := by omega
      go_wp2_with fail
      obtain ⟨M, eM⟩ : ∃ M, Sha.mix ⟨A, B, C, D, E, F, G, H⟩ (s.extract (64 * k) (64 * k + 64)).data.toList = M := ⟨_, rfl⟩
      have EM := Lib.hid eM
      clear eM
      have hsz : w.heap.size + 1 < wr.heap.size := hM.2.1.lt
      have HTr : Hid (Tabs wr.drew) := HT.out.below hM.2.2.drew
      go_region_with (go_at_call 116; refine (mix_is A B C D E F G H _ M _ HX.out HTr.out lA lB lC lD lE lF lG lH EM.out).mono ?_; rintro e' w2 ⟨rfl, hb2⟩; have hM2 := hM.drew.below hb2; obtain ⟨g0, k0, g1, k1, g2, k2, g3, k3, g4, k4, g5, k5, g6, k6, g7, k7⟩ := hM2.cells)
      go_wp2_with fail
      go_roundw
      case rel =>
        have hok : M.ok := by rw [← EM.out]; exact Sha.mix_ok _ _
        refine ⟨k + 1, M.a, M.b, M.c, M.d, M.e, M.f, M.g, M.h, by omega, by first | go_num | (congr 1; omega), hok.1, hok.2.1, hok.2.2.1, hok.2.2.2.1, hok.2.2.2.2.1, hok.2.2.2.2.2.1, hok.2.2.2.2.2.2.1, hok.2.2.2.2.2.2.2, ?_, hM2.store M⟩
        show M = _
        rw [Sha.fold_succ, ← HF.out, ← EM.out]
        congr 1
        exact extract_block s k
      case measure => simp [intOf]; omega
    · have hd64 : decide (64 * (k : Int) < (s.size : Int) / 64 * 64) = false := by simp; omega
      obtain ⟨st1, est1⟩ : ∃ st : Sha.St, (⟨A, B, C, D, E, F, G, H⟩ : Sha.St) = st := ⟨_, rfl⟩
      have HST1 : Hid (st1 = Sha.fold (s.size / 64) Sha.iv s.data.toList) := by
        show st1 = _
        obtain rfl : k = s.size / 64 := by omega
        rw [← est1, HF.out]
      have EST1 := Lib.hid est1
      clear est1 HF hS0 hlt
      go_wp2_with fail
      obtain ⟨z, hz⟩ : ∃ z, (119 - s.size % 64) % 64 = z := ⟨_, rfl⟩
      have hzl : z < 64 := by omega
      rw [show ((120 - (((s.size - s.size / 64 * 64 : Nat) : Int) + 1)) % 64) = (z : Int) by omega]
      refine (Tryz.strings_Repeat ⟨#[0]⟩ z _ (by omega) (by show 1 * z ≤ _; omega)).mono ?_
      rintro e w1 ⟨rfl, hb1⟩
      obtain ⟨rz, hrz⟩ : ∃ rz : ByteArray, (⟨(Lib.repeatL [0] z).toArray⟩ : ByteArray) = rz := ⟨_, rfl⟩
      have hrzs : rz.size ≤ 64 := by
        rw [← hrz]
        show (Lib.repeatL [0] z).toArray.size ≤ 64
        simp [Lib.repeatL_length]; omega
      have hM1 := hM.below hb1
      have HRS := Lib.hid (rest_str s rz z hz hrz)
      have HRZ := Lib.hid hrz
      have hzz : (⟨(Lib.repeatL (⟨#[0]⟩ : ByteArray).data.toList z).toArray⟩ : ByteArray) = rz := hrz
      rw [hzz]
      clear hz hrz hzz
      have hb : (s.extract (s.size / 64 * 64) s.size ++ (⟨#[128]⟩ : ByteArray)).size ≤ 65 := by
        rw [ByteArray.size_append, ByteArray.size_extract]
        show _ + 1 ≤ 65
        omega
      generalize s.extract (s.size / 64 * 64) s.size ++ (⟨#[128]⟩ : ByteArray) = head at *
      go_wp2_with fail
      rw [show ((s.size : Int) * 8) = ((s.size * 8 : Nat) : Int) by omega]
      refine (length_any (s.size * 8) _ (by omega)).mono ?_
      rintro e w2 ⟨rfl, hb2⟩
      have hM2 := hM1.below hb2
      obtain ⟨lb, hlb⟩ : ∃ lb : ByteArray, (⟨(Sha.bytesOf 8 (s.size * 8)).toArray⟩ : ByteArray) = lb := ⟨_, rfl⟩
      have hlbs : lb.size ≤ 8 := by
        rw [← hlb]
        show (Sha.bytesOf 8 (s.size * 8)).toArray.size ≤ 8
        simp [Sha.bytesOf]
      rw [hlb] at HRS ⊢
      clear hlb
      have hn : (rz ++ lb).size ≤ 72 := by rw [ByteArray.size_append]; omega
      go_wp2_with fail
      generalize hr : head ++ (rz ++ lb) = r at *
      have hrd : r.data.toList = Sha.rest s.data.toList := by rw [HRS.out]
      have hrsz : r.size = (Sha.rest s.data.toList).length := by rw [← hrd]; simp
      obtain ⟨nb, hnb⟩ : ∃ nb, r.size = 64 * nb := by
        have h1 := Sha.padded_length s.data.toList
        have h2 := Sha.rest_length s.data.toList
        exact ⟨r.size / 64, by omega⟩
      have HSUM : Hid (Sha.sum s.data.toList = Sha.out (Sha.fold nb st1 r.data.toList)) := by
        show _ = _
        rw [hrd, HST1.out, Sha.sum_two s.data.toList nb (by omega), HLL.out]
      have ht1 : r.size ≤ 64 * nb := by omega
      have ht2 : 64 * nb ≤ r.size := by omega
      have ht3 : r.size ≤ 137 := by rw [← hr, ByteArray.size_append]; omega
      have hM3 : SumMem w w2 st1 := by rw [← EST1.out]; exact hM2
      have HOK1 : Hid st1.ok := by rw [← EST1.out]; exact ⟨lA, lB, lC, lD, lE, lF, lG, lH⟩
      clear hr hrd hrsz hnb hM hM1 hM2 hb1 hb2 hn hb hrzs hlbs EST1 HST1 HRS HRZ lA lB lC lD lE lF lG lH hk
      go_loopw [7] (fun i wr => ∃ k A B C D E F G H : Nat, k ≤ nb ∧ i = .int .i64 (64 * (k : Int)) ∧ A < 4294967296 ∧ B < 4294967296 ∧ C < 4294967296 ∧ D < 4294967296 ∧ E < 4294967296 ∧ F < 4294967296 ∧ G < 4294967296 ∧ H < 4294967296 ∧ Hid ((⟨A, B, C, D, E, F, G, H⟩ : Sha.St) = Sha.fold k st1 r.data.toList) ∧ SumMem w wr ⟨A, B, C, D, E, F, G, H⟩) (fun i _ => r.size - (intOf i).toNat)
      case atStart => exact ⟨0, _, _, _, _, _, _, _, _, by omega, rfl, HOK1.out.1, HOK1.out.2.1, HOK1.out.2.2.1, HOK1.out.2.2.2.1, HOK1.out.2.2.2.2.1, HOK1.out.2.2.2.2.2.1, HOK1.out.2.2.2.2.2.2.1, HOK1.out.2.2.2.2.2.2.2, rfl, hM3⟩
      case round =>
        obtain ⟨k, A, B, C, D, E, F, G, H, hk, rfl, lA, lB, lC, lD, lE, lF, lG, lH, HF, hM⟩ := hrel
        by_cases hlt : k < nb
        · have hx : (r.extract (64 * k) (64 * k + 64)).size = 64 := by simp; omega
          have v0 : wr.cell? ⟨w.heap.size + 1, 0, none⟩ = some (.int .u32 (A : Int)) := hM.2.1.cell (i := 0) (by omega)
          have f0 : wr.frozen? ⟨w.heap.size + 1, 0, none⟩ = false := hM.2.1.frozen 0
          have v1 : wr.cell? ⟨w.heap.size + 1, 1, none⟩ = some (.int .u32 (B : Int)) := hM.2.1.cell (i := 1) (by omega)
          have f1 : wr.frozen? ⟨w.heap.size + 1, 1, none⟩ = false := hM.2.1.frozen 1
          have v2 : wr.cell? ⟨w.heap.size + 1, 2, none⟩ = some (.int .u32 (C : Int)) := hM.2.1.cell (i := 2) (by omega)
          have f2 : wr.frozen? ⟨w.heap.size + 1, 2, none⟩ = false := hM.2.1.frozen 2
          have v3 : wr.cell? ⟨w.heap.size + 1, 3, none⟩ = some (.int .u32 (D : Int)) := hM.2.1.cell (i := 3) (by omega)
          have f3 : wr.frozen? ⟨w.heap.size + 1, 3, none⟩ = false := hM.2.1.frozen 3
          have v4 : wr.cell? ⟨w.heap.size + 1, 4, none⟩ = some (.int .u32 (E : Int)) := hM.2.1.cell (i := 4) (by omega)
          have f4 : wr.frozen? ⟨w.heap.size + 1, 4, none⟩ = false := hM.2.1.frozen 4
          have v5 : wr.cell? ⟨w.heap.size + 1, 5, none⟩ = some (.int .u32 (F : Int)) := hM.2.1.cell (i := 5) (by omega)
          have f5 : wr.frozen? ⟨w.heap.size + 1, 5, none⟩ = false := hM.2.1.frozen 5
          have v6 : wr.cell? ⟨w.heap.size + 1, 6, none⟩ = some (.int .u32 (G : Int)) := hM.2.1.cell (i := 6) (by omega)
          have f6 : wr.frozen? ⟨w.heap.size + 1, 6, none⟩ = false := hM.2.1.frozen 6
          have v7 : wr.cell? ⟨w.heap.size + 1, 7, none⟩ = some (.int .u32 (H : Int)) := hM.2.1.cell (i := 7) (by omega)
          have f7 : wr.frozen? ⟨w.heap.size + 1, 7, none⟩ = false := hM.2.1.frozen 7
          have q1 : 0 ≤ 64 * (k : Int) := by omega
          have q2 : 64 * (k : Int) ≤ 64 * (k : Int) + 64 := by omega
          have q3 : 64 * (k : Int) + 64 ≤ (r.size : Int) := by omega
          have HX := Lib.hid hx
          clear hx
          have e1 : IntKind.i64.wrap (64 * (k : Int) + 64) = 64 * (k : Int) + 64 := IntWalk.i64_in _ (by omega)
          have e2 : (64 * (k : Int)).toNat = 64 * k := by omega
          have e3 : (64 * (k : Int) + 64).toNat = 64 * k + 64 := by omega
          have n3 : 64 * k + 64 ≤ r.size := by omega
          go_wp2_with fail
          obtain ⟨M, eM⟩ : ∃ M, Sha.mix ⟨A, B, C, D, E, F, G, H⟩ (r.extract (64 * k) (64 * k + 64)).data.toList = M := ⟨_, rfl⟩
          have EM := Lib.hid eM
          clear eM
          have hsz : w.heap.size + 1 < wr.heap.size := hM.2.1.lt
          have HTr : Hid (Tabs wr.drew) := HT.out.below hM.2.2.drew
          go_region_with (go_at_call 116; refine (mix_is A B C D E F G H _ M _ HX.out HTr.out lA lB lC lD lE lF lG lH EM.out).mono ?_; rintro e' w2 ⟨rfl, hb2⟩; have hM2 := hM.drew.below hb2; obtain ⟨g0, k0, g1, k1, g2, k2, g3, k3, g4, k4, g5, k5, g6, k6, g7, k7⟩ := hM2.cells)
          go_wp2_with fail
          go_roundw
          case rel =>
            have hok : M.ok := by rw [← EM.out]; exact Sha.mix_ok _ _
            refine ⟨k + 1, M.a, M.b, M.c, M.d, M.e, M.f, M.g, M.h, by omega, by first | go_num | (congr 1; omega), hok.1, hok.2.1, hok.2.2.1, hok.2.2.2.1, hok.2.2.2.2.1, hok.2.2.2.2.2.1, hok.2.2.2.2.2.2.1, hok.2.2.2.2.2.2.2, ?_, hM2.store M⟩
            show M = _
            rw [Sha.fold_succ, ← HF.out, ← EM.out]
            congr 1
            exact extract_block r k
          case measure => simp [intOf]; omega
        · have hd64 : decide (64 * (k : Int) < (r.size : Int)) = false := by simp; omega
          obtain ⟨st, est⟩ : ∃ st : Sha.St, (⟨A, B, C, D, E, F, G, H⟩ : Sha.St) = st := ⟨_, rfl⟩
          rw [est] at hM HF
          have HS : Hid (Sha.sum s.data.toList = Sha.out st) := by
            show _ = _
            obtain rfl : k = nb := by omega
            rw [HSUM.out, HF.out]
          have hsok : ∀ i, (Sha.stList st).getD i 0 < 4294967296 := by
            rw [← est]
            exact stList_lt _ ⟨lA, lB, lC, lD, lE, lF, lG, lH⟩
          have HOK := Lib.hid hsok
          clear est HF hlt hsok lA lB lC lD lE lF lG lH hM3 HOK1
          have hsz : w.heap.size + 1 < wr.heap.size := hM.2.1.lt
          go_wp2_with fail
          refine sum_out w wr st (Code.wp _ _ _ _) _ hM rfl ?_
          intro W2 hM2 hO2
          obtain ⟨O, hO⟩ : ∃ O, wr.heap.size = O := ⟨_, rfl⟩
          rw [hO] at hO2 hsz ⊢
          clear hO
          go_loopw [9, 57] (fun _ i wr => ∃ j : Nat, j ≤ 32 ∧ i = .int .i64 j ∧ SumMem w wr st ∧ wr.rowIs O 27 32 (fun i => .int .u8 (Sha.outAt st j i : Nat))) (fun _ i _ => 32 - (intOf i).toNat)
          case atStart => exact ⟨0, by omega, rfl, hM2, hO2⟩
          case round =>
            obtain ⟨j, hj, rfl, hM, hO⟩ := hrel
            by_cases hlt : j < 32
            · obtain ⟨p, ep⟩ : ∃ v, (Sha.stList st).getD (j / 4) 0 = v := ⟨_, rfl⟩
              have lp : p < 4294967296 := by rw [← ep]; exact HOK.out _
              have cp : wr.cell? ⟨w.heap.size + 1, j / 4, none⟩ = some (.int .u32 (p : Int)) := by rw [← ep]; exact hM.2.1.cell (i := j / 4) (by omega)
              have c0 := hO.cell (i := j) hlt
              have f0 := hO.frozen j
              have EP := Lib.hid ep
              clear ep
              go_wp2_with fail
              go_roundw
              case rel =>
                refine ⟨j + 1, by omega, by go_num, ⟨hM.1.setOther (by simp; omega) _, hM.2.1.setOther (by simp; omega) _, hM.2.2.setCell (by simp; omega) _⟩, (hO.set j _).congr fun i _ => ?_⟩
                rw [← Sha.outAt_step]
                by_cases e : i = j
                · rw [if_pos e, if_pos e, EP.out, shr_cast, show 24 - j % 4 * 8 = 8 * (3 - j % 4) by omega]; congr 1
                · rw [if_neg e, if_neg e]
              case measure => simp [intOf]; omega
            · have hd32 : decide ((j : Int) < 32) = false := by simp; omega
              have hO' : wr.heap[O]? = some (.cells (hashArr (Sha.out st)) 27 (0, 0)) := by
                obtain rfl : j = 32 := by omega
                exact hash_row _ hO
              obtain ⟨c0, hR', hR1, _⟩ := hM.1
              have hH := HS.out
              go_wp2_with (first | (refine wpList_load_row rfl 27 (.tmp 8) rfl O rfl 27 (hashArr (Sha.out st)) (0, 0) _ hO' Tryz.underlying27 rfl (hash_info _ (Sha.out_length _)) ?_) | (refine wpList_store_row rfl 27 (.tmp 2) (.tmp 73) rfl w.heap.size (hashArr (Sha.out st)) rfl rfl 27 c0 hR' (hash_info _ (Sha.out_length _)) (by rw [hR1, hashArr_size, Sha.out_length]) (hashArr_one _) ?_))
              refine bodyPost_ret (v := .agg (hashArr (Sha.out st))) (results_cell_row Tryz.results91 _ _ w.heap.size 27 (hashArr (Sha.out st)) (0, 0) _ rfl (setRow_heap _ _ _ _ _ _ hR') Tryz.underlying27 rfl (hash_info _ (Sha.out_length _))) rfl ⟨rfl, ?_⟩
              exact below_setRow hM.2.2 (Nat.le_refl _) _
end Go.Proofs.YtpblfpnldbdncaaGreatDoor
namespace Go.Proofs.YtpblfpnldbdncaaGreatDoor
open Go.RowKit
set_option linter.unusedVariables false

theorem block_is (a b c d e f g h : Nat) (s : ByteArray) (M : Sha.St) (w : World) (hs : s.size = 64)
    (ha : a < 4294967296) (hb : b < 4294967296) (hc : c < 4294967296) (hd : d < 4294967296) (he : e < 4294967296) (hf : f < 4294967296) (hg : g < 4294967296) (hh : h < 4294967296) (hM : Sha.mix ⟨a, b, c, d, e, f, g, h⟩ s.data.toList = M) :
    Calls Tryz.prog 55 #[.agg #[.int .u32 a, .int .u32 b, .int .u32 c, .int .u32 d, .int .u32 e, .int .u32 f, .int .u32 g, .int .u32 h], .string s] w fun e' w' => e' = .returned (.agg #[.int .u32 (M.a : Int), .int .u32 (M.b : Int), .int .u32 (M.c : Int), .int .u32 (M.d : Int), .int .u32 (M.e : Int), .int .u32 (M.f : Int), .int .u32 (M.g : Int), .int .u32 (M.h : Int)]) ∧ Below w.heap.size w w' := by
  have := block_any a b c d e f g h s w hs ha hb hc hd he hf hg hh
  rw [hM] at this
  exact this


set_option maxHeartbeats 1000000 in
set_option maxRecDepth 100000 in
theorem rsum_any (s : ByteArray) (w : World) (hs : s.size ≤ 140737488355000) :
    Calls Tryz.prog 27 #[.string s] w fun e w' => e = .returned (.agg (hashArr (Sha.sum s.data.toList))) ∧ Below w.heap.size w w' := by
  go_enter Tryz.func27, Tryz.ntmps27
  go_wp2_with fail
  have hS0 := sum_start w #[.int .u8 0, .int .u8 0, .int .u8 0, .int .u8 0, .int .u8 0, .int .u8 0, .int .u8 0, .int .u8 0, .int .u8 0, .int .u8 0, .int .u8 0, .int .u8 0, .int .u8 0, .int .u8 0, .int .u8 0, .int .u8 0, .int .u8 0, .int .u8 0, .int .u8 0, .int .u8 0, .int .u8 0, .int .u8 0, .int .u8 0, .int .u8 0, .int .u8 0, .int .u8 0, .int .u8 0, .int .u8 0, .int .u8 0, .int .u8 0, .int .u8 0, .int .u8 0] rfl
  generalize (w.alloc (.cells #[.int .u8 0, .int .u8 0, .int .u8 0, .int .u8 0, .int .u8 0, .int .u8 0, .int .u8 0, .int .u8 0, .int .u8 0, .int .u8 0, .int .u8 0, .int .u8 0, .int .u8 0, .int .u8 0, .int .u8 0, .int .u8 0, .int .u8 0, .int .u8 0, .int .u8 0, .int .u8 0, .int .u8 0, .int .u8 0, .int .u8 0, .int .u8 0, .int .u8 0, .int .u8 0, .int .u8 0, .int .u8 0, .int .u8 0, .int .u8 0, .int .u8 0, .int .u8 0] 27)).alloc _ = W0 at *
  refine (padded_any s _ (by omega)).mono ?_
  rintro e w1 ⟨rfl, hb1⟩
  have hS1 := hS0.below hb1
  obtain ⟨hp1, hp2, hp3⟩ := Sha.padded_length s.data.toList
  have hll : s.data.toList.length = s.size := by simp
  rw [hll] at hp3
  obtain ⟨t, ht⟩ : ∃ t : ByteArray, (⟨(Sha.padded s.data.toList).toArray⟩ : ByteArray) = t := ⟨_, rfl⟩
  have htd : t.data.toList = Sha.padded s.data.toList := by rw [← ht]
  have htsz : t.size = (Sha.padded s.data.toList).length := by rw [← htd]; simp
  obtain ⟨nb, hnb⟩ : ∃ nb, t.size = 64 * nb := ⟨t.size / 64, by omega⟩
  have HSUM : Hid (Sha.sum s.data.toList = Sha.out (Sha.fold nb Sha.iv t.data.toList)) := by
    show Sha.sum s.data.toList = _
    rw [Sha.sum, htd, ← htsz, hnb, Nat.mul_div_cancel_left _ (by omega)]
  rw [ht]
  have ht1 : t.size ≤ 64 * nb := by omega
  have ht2 : 64 * nb ≤ t.size := by omega
  have ht3 : t.size ≤ s.size + 73 := by omega
  clear ht htd htsz hnb hp1 hp2 hp3 hll hS0 hb1
  go_wp2_with fail
  go_loopw [5] (fun i wr => ∃ k A B C D E F G H : Nat, k ≤ nb ∧ i = .int .i64 (64 * (k : Int)) ∧ A < 4294967296 ∧ B < 4294967296 ∧ C < 4294967296 ∧ D < 4294967296 ∧ E < 4294967296 ∧ F < 4294967296 ∧ G < 4294967296 ∧ H < 4294967296 ∧ Hid ((⟨A, B, C, D, E, F, G, H⟩ : Sha.St) = Sha.fold k Sha.iv t.data.toList) ∧ SumMem w wr ⟨A, B, C, D, E, F, G, H⟩) (fun i _ => t.size - (intOf i).toNat)
  case atStart => exact ⟨0, _, _, _, _, _, _, _, _, by omega, rfl, Sha.iv_ok.1, Sha.iv_ok.2.1, Sha.iv_ok.2.2.1, Sha.iv_ok.2.2.2.1, Sha.iv_ok.2.2.2.2.1, Sha.iv_ok.2.2.2.2.2.1, Sha.iv_ok.2.2.2.2.2.2.1, Sha.iv_ok.2.2.2.2.2.2.2, rfl, hS1⟩
  case round =>
    obtain ⟨k, A, B, C, D, E, F, G, H, hk, rfl, lA, lB, lC, lD, lE, lF, lG, lH, HF, hM⟩ := hrel
    by_cases hlt : k < nb
    · have hx : (t.extract (64 * k) (64 * k + 64)).size = 64 := by simp; omega
      have v0 : wr.cell? ⟨w.heap.size + 1, 0, none⟩ = some (.int .u32 (A : Int)) := hM.2.1.cell (i := 0) (by omega)
      have f0 : wr.frozen? ⟨w.heap.size + 1, 0, none⟩ = false := hM.2.1.frozen 0
      have v1 : wr.cell? ⟨w.heap.size + 1, 1, none⟩ = some (.int .u32 (B : Int)) := hM.2.1.cell (i := 1) (by omega)
      have f1 : wr.frozen? ⟨w.heap.size + 1, 1, none⟩ = false := hM.2.1.frozen 1
      have v2 : wr.cell? ⟨w.heap.size + 1, 2, none⟩ = some (.int .u32 (C : Int)) := hM.2.1.cell (i := 2) (by omega)
      have f2 : wr.frozen? ⟨w.heap.size + 1, 2, none⟩ = false := hM.2.1.frozen 2
      have v3 : wr.cell? ⟨w.heap.size + 1, 3, none⟩ = some (.int .u32 (D : Int)) := hM.2.1.cell (i := 3) (by omega)
      have f3 : wr.frozen? ⟨w.heap.size + 1, 3, none⟩ = false := hM.2.1.frozen 3
      have v4 : wr.cell? ⟨w.heap.size + 1, 4, none⟩ = some (.int .u32 (E : Int)) := hM.2.1.cell (i := 4) (by omega)
      have f4 : wr.frozen? ⟨w.heap.size + 1, 4, none⟩ = false := hM.2.1.frozen 4
      have v5 : wr.cell? ⟨w.heap.size + 1, 5, none⟩ = some (.int .u32 (F : Int)) := hM.2.1.cell (i := 5) (by omega)
      have f5 : wr.frozen? ⟨w.heap.size + 1, 5, none⟩ = false := hM.2.1.frozen 5
      have v6 : wr.cell? ⟨w.heap.size + 1, 6, none⟩ = some (.int .u32 (G : Int)) := hM.2.1.cell (i := 6) (by omega)
      have f6 : wr.frozen? ⟨w.heap.size + 1, 6, none⟩ = false := hM.2.1.frozen 6
      have v7 : wr.cell? ⟨w.heap.size + 1, 7, none⟩ = some (.int .u32 (H : Int)) := hM.2.1.cell (i := 7) (by omega)
      have f7 : wr.frozen? ⟨w.heap.size + 1, 7, none⟩ = false := hM.2.1.frozen 7
      have q1 : 0 ≤ 64 * (k : Int) := by omega
      have q2 : 64 * (k : Int) ≤ 64 * (k : Int) + 64 := by omega
      have q3 : 64 * (k : Int) + 64 ≤ (t.size : Int) := by omega
      have HX := Lib.hid hx
      clear hx
      have e1 : IntKind.i64.wrap (64 * (k : Int) + 64) = 64 * (k : Int) + 64 := IntWalk.i64_in _ (by omega)
      have e2 : (64 * (k : Int)).toNat = 64 * k := by omega
      have e3 : (64 * (k : Int) + 64).toNat = 64 * k + 64 := by omega
      have n3 : 64 * k + 64 ≤ t.size := by omega
      go_wp2_with fail
      obtain ⟨M, eM⟩ : ∃ M, Sha.mix ⟨A, B, C, D, E, F, G, H⟩ (t.extract (64 * k) (64 * k + 64)).data.toList = M := ⟨_, rfl⟩
      have EM := Lib.hid eM
      clear eM
      have hsz : w.heap.size + 1 < wr.heap.size := hM.2.1.lt
      go_region_with (go_at_call 55; refine (block_is A B C D E F G H _ M _ HX.out lA lB lC lD lE lF lG lH EM.out).mono ?_; rintro e' w2 ⟨rfl, hb2⟩; have hM2 := hM.drew.below hb2; obtain ⟨g0, k0, g1, k1, g2, k2, g3, k3, g4, k4, g5, k5, g6, k6, g7, k7⟩ := hM2.cells)
      go_wp2_with fail
      go_roundw
      case rel =>
        have hok : M.ok := by rw [← EM.out]; exact Sha.mix_ok _ _
        refine ⟨k + 1, M.a, M.b, M.c, M.d, M.e, M.f, M.g, M.h, by omega, by first | go_num | (congr 1; omega), hok.1, hok.2.1, hok.2.2.1, hok.2.2.2.1, hok.2.2.2.2.1, hok.2.2.2.2.2.1, hok.2.2.2.2.2.2.1, hok.2.2.2.2.2.2.2, ?_, hM2.store M⟩
        show M = _
        rw [Sha.fold_succ, ← HF.out, ← EM.out]
        congr 1
        exact extract_block t k
      case measure => simp [intOf]; omega
    · have hd64 : decide (64 * (k : Int) < (t.size : Int)) = false := by simp; omega
      obtain ⟨st, est⟩ : ∃ st : Sha.St, (⟨A, B, C, D, E, F, G, H⟩ : Sha.St) = st := ⟨_, rfl⟩
      rw [est] at hM HF
      have HS : Hid (Sha.sum s.data.toList = Sha.out st) := by
        show _ = _
        obtain rfl : k = nb := by omega
        rw [HSUM.out, HF.out]
      have hsok : ∀ i, (Sha.stList st).getD i 0 < 4294967296 := by
        rw [← est]
        exact stList_lt _ ⟨lA, lB, lC, lD, lE, lF, lG, lH⟩
      have HOK := Lib.hid hsok
      clear est HF hS1 hlt hsok lA lB lC lD lE lF lG lH
      have hsz : w.heap.size + 1 < wr.heap.size := hM.2.1.lt
      go_wp2_with fail
      refine sum_out w wr st (Code.wp _ _ _ _) _ hM rfl ?_
      intro W2 hM2 hO2
      obtain ⟨O, hO⟩ : ∃ O, wr.heap.size = O := ⟨_, rfl⟩
      rw [hO] at hO2 hsz ⊢
      clear hO
      go_loopw [7] (fun i wr => ∃ j : Nat, j ≤ 32 ∧ i = .int .i64 j ∧ SumMem w wr st ∧ wr.rowIs O 27 32 (fun i => .int .u8 (Sha.outAt st j i : Nat))) (fun i _ => 32 - (intOf i).toNat)
      case atStart => exact ⟨0, by omega, rfl, hM2, hO2⟩
      case round =>
        obtain ⟨j, hj, rfl, hM, hO⟩ := hrel
        by_cases hlt : j < 32
        · obtain ⟨p, ep⟩ : ∃ v, (Sha.stList st).getD (j / 4) 0 = v := ⟨_, rfl⟩
          have lp : p < 4294967296 := by rw [← ep]; exact HOK.out _
          have cp : wr.cell? ⟨w.heap.size + 1, j / 4, none⟩ = some (.int .u32 (p : Int)) := by rw [← ep]; exact hM.2.1.cell (i := j / 4) (by omega)
          have c0 := hO.cell (i := j) hlt
          have f0 := hO.frozen j
          have EP := Lib.hid ep
          clear ep
          go_wp2_with fail
          go_roundw
          case rel =>
            refine ⟨j + 1, by omega, by go_num, ⟨hM.1.setOther (by simp; omega) _, hM.2.1.setOther (by simp; omega) _, hM.2.2.setCell (by simp; omega) _⟩, (hO.set j _).congr fun i _ => ?_⟩
            rw [← Sha.outAt_step]
            by_cases e : i = j
            · rw [if_pos e, if_pos e, EP.out, shr_cast]; congr 1
            · rw [if_neg e, if_neg e]
          case measure => simp [intOf]; omega
        · have hd32 : decide ((j : Int) < 32) = false := by simp; omega
          have hO' : wr.heap[O]? = some (.cells (hashArr (Sha.out st)) 27 (0, 0)) := by
            obtain rfl : j = 32 := by omega
            exact hash_row _ hO
          obtain ⟨c0, hR', hR1, _⟩ := hM.1
          have hH := HS.out
          go_wp2_with (first | (refine wpList_load_row rfl 27 (.tmp 6) rfl O rfl 27 (hashArr (Sha.out st)) (0, 0) _ hO' Tryz.underlying27 rfl (hash_info _ (Sha.out_length _)) ?_) | (refine wpList_store_row rfl 27 (.tmp 2) (.tmp 40) rfl w.heap.size (hashArr (Sha.out st)) rfl rfl 27 c0 hR' (hash_info _ (Sha.out_length _)) (by rw [hR1, hashArr_size, Sha.out_length]) (hashArr_one _) ?_))
          refine bodyPost_ret (v := .agg (hashArr (Sha.out st))) (results_cell_row Tryz.results27 _ _ w.heap.size 27 (hashArr (Sha.out st)) (0, 0) _ rfl (setRow_heap _ _ _ _ _ _ hR') Tryz.underlying27 rfl (hash_info _ (Sha.out_length _))) rfl ⟨rfl, ?_⟩
          exact below_setRow hM.2.2 (Nat.le_refl _) _
end Go.Proofs.YtpblfpnldbdncaaGreatDoor
namespace Go.Proofs.YtpblfpnldbdncaaGreatDoor
open Go.RowKit Go.Sort
set_option linter.unusedVariables false
theorem hash_eql (a b : List UInt8) (ha : a.length = 32) (hb : b.length = 32) (w : World) : (binOp .eql 27 (.agg (hashArr a)) (.agg (hashArr b))).run Tryz.prog w = .ok (.bool (a == b)) w :=
  run_eql_bytes w 27 5 32 Tryz.underlying27 Tryz.underlying5 Tryz.sizeOf5 a b ha hb
theorem sum_is (s : ByteArray) (h : List UInt8) (w : World) (hs : s.size ≤ 140737488355000) (hT : Tabs w) (hh : Sha.sum s.data.toList = h) :
    Calls Tryz.prog 91 #[.string s] w fun e w' => e = .returned (.agg (hashArr h)) ∧ Below w.heap.size w w' := by
  rw [← hh]; exact sum_any s w hs hT
theorem rsum_is (s : ByteArray) (h : List UInt8) (w : World) (hs : s.size ≤ 140737488355000) (hh : Sha.sum s.data.toList = h) :
    Calls Tryz.prog 27 #[.string s] w fun e w' => e = .returned (.agg (hashArr h)) ∧ Below w.heap.size w w' := by
  rw [← hh]; exact rsum_any s w hs
/-- a hash, its length and that it is equal to itself -/
theorem some_sum (s : ByteArray) : ∃ h : List UInt8, Sha.sum s.data.toList = h ∧ h.length = 32 := ⟨_, rfl, Sha.sum_length _⟩
/-- hashes lie in memory: loaded as a whole in every world of the class -/
theorem hash_load {w : World} {b : Nat} {l : List UInt8} {t : TypeId} {fr : Nat × Nat} (hl : l.length = 32) (hb : w.heap[b]? = some (.cells (hashArr l) t fr)) :
    ∀ w', (∃ p : Regrown, w' = grow (redrawn w p.d) p.os) → (loadVar 27 ⟨b, 0, none⟩).run Tryz.prog w' = .ok (.agg (hashArr l)) w' :=
  load_regrown hb Tryz.underlying27 rfl (by rw [show (hashArr l).size = 32 by simp [hashArr, hl]]; kernel_rfl)
/-- a hash stored into a new variable -/
theorem store_hash {ops : Array Oper} {rest : List Oper} {o : Oper} {a : Act} {w : World} {Q : Exit → Act → World → Prop} {l : List UInt8} (hl : l.length = 32) {old : Array Value} (hold : old.size = 32) (x y : Operand) (hgd : o.guard = none) (hdst : o.dst = none) (ho : o.op = .store 27 x y)
    (hx : a.eval x = .pointer (some ⟨w.heap.size, 0, none⟩)) (hy : a.eval y = .agg (hashArr l))
    (h : wpList Tryz.prog ops Q rest a (w.alloc (.cells (hashArr l) 27))) : wpList Tryz.prog ops Q (o :: rest) a (w.alloc (.cells old 27)) :=
  wpList_store_new hgd 27 x y ho (hashArr l) hx hy 27 old (hash_info l hl) (by rw [hold, hashArr_size, hl]) (hashArr_one l) (by rw [hdst]; exact h)
theorem heap_below {W w1 : World} {b : Nat} {o : Obj} (h : W.heap[b]? = some o) (hb : Below W.heap.size W w1) : w1.heap[b]? = some o := by
  rcases Nat.lt_or_ge b W.heap.size with hl | hl
  · rw [hb.block b hl]; exact h
  · rw [Array.getElem?_eq_none hl] at h; cases h
/-- the cells of a hash that lies in a block -/
theorem hash_cell {w : World} {b : Nat} {l : List UInt8} {t : TypeId} {fr : Nat × Nat} (hl : l.length = 32) (h : w.heap[b]? = some (.cells (hashArr l) t fr)) (j : Nat) (hj : j < 32) : w.cell? ⟨b, j, none⟩ = some (.int .u8 ((l.getD j 0).toNat : Int)) := by
  rw [cell_of_row _ _ _ _ _ _ h, hashArr, List.getElem?_toArray, List.getElem?_map, List.getD_eq_getElem?_getD, List.getElem?_eq_getElem (show j < l.length by omega)]
  rfl
theorem hash_rowIs {w : World} {b : Nat} {l : List UInt8} {t : TypeId} (hl : l.length = 32) (h : w.heap[b]? = some (.cells (hashArr l) t (0, 0))) : w.rowIs b t 32 (fun j => .int .u8 ((l.getD j 0).toNat : Int)) :=
  ⟨_, h, by rw [hashArr_size, hl], fun i hi => by
    have := hash_cell hl h i hi
    rw [cell_of_row _ _ _ _ _ _ h] at this
    exact this⟩
theorem rowIs_hash {w : World} {b : Nat} {l : List UInt8} {t : TypeId} (hl : l.length = 32) (h : w.rowIs b t 32 (fun j => .int .u8 ((l.getD j 0).toNat : Int))) : w.heap[b]? = some (.cells (hashArr l) t (0, 0)) := by
  obtain ⟨c, hb, hn, hc⟩ := h
  rw [hb]
  congr 2
  apply Array.ext_getElem?
  intro i
  by_cases hi : i < 32
  · rw [hc i hi, hashArr, List.getElem?_toArray, List.getElem?_map]
    simp only
    rw [List.getD_eq_getElem?_getD, List.getElem?_eq_getElem (show i < l.length by omega)]
    rfl
  · rw [Array.getElem?_eq_none (by omega), Array.getElem?_eq_none (by rw [hashArr_size]; omega)]
theorem zero_hash : (#[.int .u8 0, .int .u8 0, .int .u8 0, .int .u8 0, .int .u8 0, .int .u8 0, .int .u8 0, .int .u8 0, .int .u8 0, .int .u8 0, .int .u8 0, .int .u8 0, .int .u8 0, .int .u8 0, .int .u8 0, .int .u8 0, .int .u8 0, .int .u8 0, .int .u8 0, .int .u8 0, .int .u8 0, .int .u8 0, .int .u8 0, .int .u8 0, .int .u8 0, .int .u8 0, .int .u8 0, .int .u8 0, .int .u8 0, .int .u8 0, .int .u8 0, .int .u8 0] : Array Value) = hashArr (List.replicate 32 0) := rfl
theorem rowIs_below {W w1 : World} {b : Nat} {t : TypeId} {n : Nat} {f : Nat → Value} (h : W.rowIs b t n f) (hb : Below W.heap.size W w1) : w1.rowIs b t n f := h.of_block (hb.block b h.lt)
theorem hash_neq (a b : List UInt8) (ha : a.length = 32) (hb : b.length = 32) (w : World) : (binOp .neq 27 (.agg (hashArr a)) (.agg (hashArr b))).run Tryz.prog w = .ok (.bool (!(a == b))) w := by
  have := run_equalIn_bytes (P := Tryz.prog) w 9998 27 5 32 Tryz.underlying27 Tryz.underlying5 Tryz.sizeOf5 a b ha hb
  rw [run_neq_struct]
  show (Result.andThen ((Op.equalIn (9998 + 2) 27 (.agg (hashArr a)) (.agg (hashArr b))).run Tryz.prog w) _) = _
  rw [show hashArr a = (a.map Extern.Stop.cell).toArray from rfl, show hashArr b = (b.map Extern.Stop.cell).toArray from rfl, this]
  simp
end Go.Proofs.YtpblfpnldbdncaaGreatDoor
namespace Go.Proofs.YtpblfpnldbdncaaGreatDoor
open Go.RowKit
set_option linter.unusedVariables false

theorem hash_index (l : List UInt8) (hl : l.length = 32) (k : Nat) (hk : k < 32) (w : World) : (Instr.index 27 (.agg (hashArr l)) (.int .i64 (k : Int))).run Tryz.prog w = .ok (.int .u8 ((l.getD k 0).toNat : Int)) w := by
  have hc : (hashArr l)[k]? = some (.int .u8 ((l.getD k 0).toNat : Int)) := by
    rw [hashArr, List.getElem?_toArray, List.getElem?_map, List.getD_eq_getElem?_getD, List.getElem?_eq_getElem (show k < l.length by omega)]
    rfl
  simp [Instr.index, asIntOf, run_underlying Tryz.underlying27, hk, Tryz.sizeOf5, part, Tryz.isAgg5, hc]

/-- a letter of the text -/
def hexAt (l : List UInt8) (j : Nat) : UInt8 := Sha.hexDigit (if j % 2 = 0 then (l.getD (j / 2) 0).toNat / 16 else (l.getD (j / 2) 0).toNat % 16)
/-- the text's letters behind k of 32 rounds -/
def textAt (l : List UInt8) (k j : Nat) : Nat := if j < 2 * k then (hexAt l j).toNat else 0
theorem textAt_step (l : List UInt8) (k j : Nat) : (if j = 2 * k + 1 then (Sha.hexDigit ((l.getD k 0).toNat % 16)).toNat else if j = 2 * k then (Sha.hexDigit ((l.getD k 0).toNat / 16)).toNat else textAt l k j) = textAt l (k + 1) j := by
  unfold textAt
  by_cases h : j = 2 * k + 1
  · rw [if_pos h, if_pos (by omega), hexAt, if_neg (by omega), show j / 2 = k by omega]
  · rw [if_neg h]
    by_cases h2 : j = 2 * k
    · rw [if_pos h2, if_pos (by omega), hexAt, if_pos (by omega), show j / 2 = k by omega]
    · rw [if_neg h2]
      by_cases h3 : j < 2 * k
      · rw [if_pos h3, if_pos (by omega)]
      · rw [if_neg h3, if_neg (by omega)]
theorem text_at (l : List UInt8) (j : Nat) (hj : j < 2 * l.length) : (Sha.text l)[j]? = some (hexAt l j) := by
  unfold hexAt
  induction l generalizing j with
  | nil => simp at hj
  | cons x l ih =>
    have e : Sha.text (x :: l) = Sha.hexDigit (x.toNat / 16) :: Sha.hexDigit (x.toNat % 16) :: Sha.text l := by simp [Sha.text]
    rw [e]
    match j with
    | 0 => rfl
    | 1 => rfl
    | j + 2 =>
      simp only [List.length_cons] at hj
      rw [List.getElem?_cons_succ, List.getElem?_cons_succ, ih j (by omega), show (j + 2) % 2 = j % 2 by omega, show (j + 2) / 2 = j / 2 + 1 by omega, List.getD_cons_succ]
theorem text_length (l : List UInt8) : (Sha.text l).length = 2 * l.length := by
  induction l with
  | nil => rfl
  | cons x l ih =>
    have e : Sha.text (x :: l) = Sha.hexDigit (x.toNat / 16) :: Sha.hexDigit (x.toNat % 16) :: Sha.text l := by simp [Sha.text]
    rw [e]; simp only [List.length_cons]; omega
theorem textAt_end (l : List UInt8) (hl : l.length = 32) : (List.range 64).map (fun i => UInt8.ofNat (textAt l 32 i)) = Sha.text l := by
  apply List.ext_getElem?
  intro j
  by_cases hj : j < 64
  · rw [List.getElem?_map, List.getElem?_range hj, text_at l j (by omega)]
    unfold textAt
    simp [show j < 2 * 32 by omega]
  · rw [List.getElem?_eq_none (by simp; omega), List.getElem?_eq_none (by rw [text_length]; omega)]
theorem hex_index (n : Nat) (h : n < 16) (z : Int) (hz : z = n) (w : World) : (Instr.index 9 (.string ⟨#[48, 49, 50, 51, 52, 53, 54, 55, 56, 57, 97, 98, 99, 100, 101, 102]⟩) (.int .u8 z)).run Tryz.prog w = .ok (.int .u8 ((Sha.hexDigit n).toNat : Int)) w := by
  subst hz
  rw [run_index_string _ _ _ _ _ Tryz.underlying9, dif_pos ⟨by omega, by show (n : Int) < ((16 : Nat) : Int); omega⟩]
  congr 3
  have : ∀ m : Fin 16, ((⟨#[48, 49, 50, 51, 52, 53, 54, 55, 56, 57, 97, 98, 99, 100, 101, 102]⟩ : ByteArray)[m.val]'(show m.val < 16 from m.isLt)) = Sha.hexDigit m.val := by decide
  have h2 := this ⟨n, h⟩
  simp only [Int.toNat_natCast]
  rw [h2]

set_option maxHeartbeats 1000000 in
set_option maxRecDepth 100000 in
theorem text_any (l : List UInt8) (hl : l.length = 32) (w : World) :
    Calls Tryz.prog 62 #[.agg (hashArr l)] w fun e w' => e = .returned (.string ⟨(Sha.text l).toArray⟩) ∧ Below w.heap.size w w' := by
  have HL := Lib.hid hl
  clear hl
  go_enter Tryz.func62, Tryz.ntmps62
  go_wp2_with (refine wpList_load_row rfl 27 (.tmp 1) rfl w.heap.size rfl 27 (hashArr l) (0, 0) _ (heap_alloc2_old _ _ _) Tryz.underlying27 rfl (hash_info _ HL.out) ?_)
  have hr0 : ((w.alloc (.cells (hashArr l) 27)).alloc (.cells #[.int .u8 0, .int .u8 0, .int .u8 0, .int .u8 0, .int .u8 0, .int .u8 0, .int .u8 0, .int .u8 0, .int .u8 0, .int .u8 0, .int .u8 0, .int .u8 0, .int .u8 0, .int .u8 0, .int .u8 0, .int .u8 0, .int .u8 0, .int .u8 0, .int .u8 0, .int .u8 0, .int .u8 0, .int .u8 0, .int .u8 0, .int .u8 0, .int .u8 0, .int .u8 0, .int .u8 0, .int .u8 0, .int .u8 0, .int .u8 0, .int .u8 0, .int .u8 0, .int .u8 0, .int .u8 0, .int .u8 0, .int .u8 0, .int .u8 0, .int .u8 0, .int .u8 0, .int .u8 0, .int .u8 0, .int .u8 0, .int .u8 0, .int .u8 0, .int .u8 0, .int .u8 0, .int .u8 0, .int .u8 0, .int .u8 0, .int .u8 0, .int .u8 0, .int .u8 0, .int .u8 0, .int .u8 0, .int .u8 0, .int .u8 0, .int .u8 0, .int .u8 0, .int .u8 0, .int .u8 0, .int .u8 0, .int .u8 0, .int .u8 0, .int .u8 0] 160)).rowIs (w.heap.size + 1) 160 64 (fun j => .int .u8 (textAt l 0 j : Nat)) := by
    have h := World.rowIs_alloc (w.alloc (.cells (hashArr l) 27)) (Array.replicate 64 (.int .u8 0)) 160 (fun j => .int .u8 (textAt l 0 j : Nat)) (fun i hi => by rw [zeros_row 64 _ i (by simpa using hi)]; simp [textAt])
    rw [show (w.alloc (.cells (hashArr l) 27)).heap.size = w.heap.size + 1 by simp, Array.size_replicate] at h
    exact h
  have hb0 : Below w.heap.size w ((w.alloc (.cells (hashArr l) 27)).alloc (.cells #[.int .u8 0, .int .u8 0, .int .u8 0, .int .u8 0, .int .u8 0, .int .u8 0, .int .u8 0, .int .u8 0, .int .u8 0, .int .u8 0, .int .u8 0, .int .u8 0, .int .u8 0, .int .u8 0, .int .u8 0, .int .u8 0, .int .u8 0, .int .u8 0, .int .u8 0, .int .u8 0, .int .u8 0, .int .u8 0, .int .u8 0, .int .u8 0, .int .u8 0, .int .u8 0, .int .u8 0, .int .u8 0, .int .u8 0, .int .u8 0, .int .u8 0, .int .u8 0, .int .u8 0, .int .u8 0, .int .u8 0, .int .u8 0, .int .u8 0, .int .u8 0, .int .u8 0, .int .u8 0, .int .u8 0, .int .u8 0, .int .u8 0, .int .u8 0, .int .u8 0, .int .u8 0, .int .u8 0, .int .u8 0, .int .u8 0, .int .u8 0, .int .u8 0, .int .u8 0, .int .u8 0, .int .u8 0, .int .u8 0, .int .u8 0, .int .u8 0, .int .u8 0, .int .u8 0, .int .u8 0, .int .u8 0, .int .u8 0, .int .u8 0, .int .u8 0] 160)) := ((Below.refl _ _).alloc (Nat.le_refl _) _).alloc (by simp) _
  generalize (w.alloc (.cells (hashArr l) 27)).alloc _ = W0 at *
  go_loopw [4, 5, 7] (fun _ _ i wr => ∃ k : Nat, k ≤ 32 ∧ i = .int .i64 k ∧ wr.rowIs (w.heap.size + 1) 160 64 (fun j => .int .u8 (textAt l k j : Nat)) ∧ Below w.heap.size w wr) (fun _ _ i _ => 32 - (intOf i).toNat)
  case atStart => exact ⟨0, by omega, rfl, hr0, hb0⟩
  case round =>
    obtain ⟨k, hk, rfl, hr, hbw⟩ := hrel
    by_cases hlt : k < 32
    · obtain ⟨x, ex⟩ : ∃ x, (l.getD k 0).toNat = x := ⟨_, rfl⟩
      have hx : x < 256 := by rw [← ex]; exact UInt8.toNat_lt _
      have hix := fun W => hash_index l HL.out k hlt W
      rw [ex] at hix
      have EX := Lib.hid ex
      clear ex
      have hb4 := u8_and15 (x := (x : Int)) (by omega) (by omega)
      have hi1 := fun W => hex_index (x / 16) (by omega) ((x : Int) / 16) (by omega) W
      have hi2 := fun W => hex_index (x % 16) (by omega) ((x : Int) % 16) (by omega) W
      have c0 := hr.cell (i := 2 * k) (by omega)
      have c1 := hr.cell (i := 2 * k + 1) (by omega)
      have f0 := hr.frozen (2 * k)
      have f1 := hr.frozen (2 * k + 1)
      have p1 : 0 ≤ 2 * (k : Int) := by omega
      have p2 : 2 * (k : Int) < 64 := by omega
      have p3 : 0 ≤ 2 * (k : Int) + 1 := by omega
      have p4 : 2 * (k : Int) + 1 < 64 := by omega
      have p5 : (2 * (k : Int)).toNat = 2 * k := by omega
      have p6 : (2 * (k : Int) + 1).toNat = 2 * k + 1 := by omega
      obtain ⟨d1, ed1⟩ : ∃ d, (Sha.hexDigit (x / 16)).toNat = d := ⟨_, rfl⟩
      obtain ⟨d2, ed2⟩ : ∃ d, (Sha.hexDigit (x % 16)).toNat = d := ⟨_, rfl⟩
      rw [ed1] at hi1
      rw [ed2] at hi2
      have ED1 := Lib.hid ed1
      have ED2 := Lib.hid ed2
      clear ed1 ed2
      go_wp2_with fail
      go_region
      go_wp2_with fail
      go_roundw
      case rel =>
        refine ⟨k + 1, by omega, by go_num, (((hr.set (2 * k) _).set (2 * k + 1) _).congr fun j _ => ?_).drew, ((hbw.setCell (by simp) _).setCell (by simp) _).drew⟩
        rw [← textAt_step, EX.out, ED1.out, ED2.out]
        by_cases e : j = 2 * k + 1
        · rw [if_pos e, if_pos e]
        · rw [if_neg e, if_neg e]
          by_cases e2 : j = 2 * k
          · rw [if_pos e2, if_pos e2]
          · rw [if_neg e2, if_neg e2]
      case measure => simp [intOf]; omega
    · have hdk : decide ((k : Int) < 32) = false := by simp; omega
      have hcv : Sem.run Tryz.prog (convert 67 9 (Value.slice (some ⟨w.heap.size + 1, 0, none⟩) 64 64)) wr = Result.ok (.string ⟨(Sha.text l).toArray⟩) wr := by
        obtain rfl : k = 32 := by omega
        rw [← textAt_end l HL.out]
        exact conv_row (P := Tryz.prog) (T := 160) (c := 64) Tryz.underlying67 Tryz.underlying5 Tryz.underlying9 (fun i hi => hr.cell (i := i) (n := 64) hi)
      go_wp2_with fail
      go_ret
      exact ⟨rfl, hbw⟩
end Go.Proofs.YtpblfpnldbdncaaGreatDoor
namespace Go.Proofs.YtpblfpnldbdncaaGreatDoor
open Go.RowKit
set_option linter.unusedVariables false

theorem text_take (l : List UInt8) (k : Nat) (hk : k < l.length) : Sha.text (l.take (k + 1)) = Sha.text (l.take k) ++ [Sha.hexDigit ((l.getD k 0).toNat / 16), Sha.hexDigit ((l.getD k 0).toNat % 16)] := by
  rw [List.take_succ_eq_append_getElem hk, List.getD_eq_getElem?_getD, List.getElem?_eq_getElem hk]
  unfold Sha.text
  rw [List.flatMap_append]
  rfl
theorem hex_slice (n : Nat) (h : n < 16) (z y : Int) (hz : z = n) (hy : y = n + 1) (w : World) : (Instr.slice 9 (.string ⟨#[48, 49, 50, 51, 52, 53, 54, 55, 56, 57, 97, 98, 99, 100, 101, 102]⟩) (some (.int .u8 z)) (some (.int .u8 y)) none).run Tryz.prog w = .ok (.string ⟨#[Sha.hexDigit n]⟩) w := by
  have e : ∀ m : Fin 16, (⟨#[48, 49, 50, 51, 52, 53, 54, 55, 56, 57, 97, 98, 99, 100, 101, 102]⟩ : ByteArray).extract m.val (m.val + 1) = ⟨#[Sha.hexDigit m.val]⟩ := by decide +kernel
  have h1 := run_slice_string (P := Tryz.prog) w 9 (⟨#[48, 49, 50, 51, 52, 53, 54, 55, 56, 57, 97, 98, 99, 100, 101, 102]⟩ : ByteArray) .u8 .u8 z y Tryz.underlying9 (by omega) (by omega) (by show y ≤ ((16 : Nat) : Int); omega)
  rw [h1, show z.toNat = n by omega, show y.toNat = n + 1 by omega, e ⟨n, h⟩]

set_option maxHeartbeats 1000000 in
set_option maxRecDepth 100000 in
theorem rtext_any (l : List UInt8) (hl : l.length = 32) (w : World) :
    Calls Tryz.prog 66 #[.agg (hashArr l)] w fun e w' => e = .returned (.string ⟨(Sha.text l).toArray⟩) ∧ Below w.heap.size w w' := by
  have HL := Lib.hid hl
  clear hl
  go_enter Tryz.func66, Tryz.ntmps66
  go_wp2_with fail
  have hr0 : (w.alloc (.cells (hashArr l) 27)).rowIs w.heap.size 27 32 (fun i => .int .u8 ((l.getD i 0).toNat : Int)) := by
    have h := World.rowIs_alloc w (hashArr l) 27 (fun i => .int .u8 ((l.getD i 0).toNat : Int)) (fun i hi => by
      rw [hashArr_size] at hi
      rw [hashArr, List.getElem?_toArray, List.getElem?_map, List.getD_eq_getElem?_getD, List.getElem?_eq_getElem hi]
      rfl)
    rw [hashArr_size, HL.out] at h
    exact h
  have hb0 : Below w.heap.size w (w.alloc (.cells (hashArr l) 27)) := (Below.refl _ _).alloc (Nat.le_refl _) _
  generalize w.alloc _ = W0 at *
  go_loopw [3, 4] (fun t i wr => ∃ k : Nat, k ≤ 32 ∧ i = .int .i64 k ∧ t = .string ⟨(Sha.text (l.take k)).toArray⟩ ∧ wr.rowIs w.heap.size 27 32 (fun i => .int .u8 ((l.getD i 0).toNat : Int)) ∧ Below w.heap.size w wr) (fun _ i _ => 32 - (intOf i).toNat)
  case atStart => exact ⟨0, by omega, rfl, rfl, hr0, hb0⟩
  case round =>
    obtain ⟨k, hk, rfl, rfl, hr, hbw⟩ := hrel
    obtain ⟨u, eu⟩ : ∃ u : ByteArray, (⟨(Sha.text (l.take k)).toArray⟩ : ByteArray) = u := ⟨_, rfl⟩
    have hu : u.size ≤ 64 := by
      rw [← eu]; show (Sha.text (l.take k)).toArray.size ≤ 64
      simp [text_length]; omega
    by_cases hlt : k < 32
    · obtain ⟨x, ex⟩ : ∃ x, (l.getD k 0).toNat = x := ⟨_, rfl⟩
      have hx : x < 256 := by rw [← ex]; exact UInt8.toNat_lt _
      have cx : wr.cell? ⟨w.heap.size, k, none⟩ = some (.int .u8 (x : Int)) := by rw [← ex]; exact hr.cell (i := k) hlt
      have HN : Hid (u ++ (⟨#[Sha.hexDigit (x / 16)]⟩ : ByteArray) ++ (⟨#[Sha.hexDigit (x % 16)]⟩ : ByteArray) = ⟨(Sha.text (l.take (k + 1))).toArray⟩) := by
        show _ = _
        rw [text_take l k (by rw [HL.out]; exact hlt), ex, ← eu]
        rw [show (⟨#[Sha.hexDigit (x / 16)]⟩ : ByteArray) = ⟨([Sha.hexDigit (x / 16)] : List UInt8).toArray⟩ from rfl, show (⟨#[Sha.hexDigit (x % 16)]⟩ : ByteArray) = ⟨([Sha.hexDigit (x % 16)] : List UInt8).toArray⟩ from rfl, ba_append, ba_append, List.append_assoc]
        rfl
      rw [eu]
      have hs1 := fun W => hex_slice (x / 16) (by omega) ((x : Int) / 16) ((x : Int) / 16 + 1) (by omega) (by omega) W
      have hs2 := fun W => hex_slice (x % 16) (by omega) ((x : Int) % 16) ((x : Int) % 16 + 1) (by omega) (by omega) W
      obtain ⟨d1, ed1⟩ : ∃ d : ByteArray, (⟨#[Sha.hexDigit (x / 16)]⟩ : ByteArray) = d := ⟨_, rfl⟩
      obtain ⟨d2, ed2⟩ : ∃ d : ByteArray, (⟨#[Sha.hexDigit (x % 16)]⟩ : ByteArray) = d := ⟨_, rfl⟩
      have z1 : d1.size = 1 := by rw [← ed1]; rfl
      have z2 : d2.size = 1 := by rw [← ed2]; rfl
      have y1 : d1.size ≤ 1 := by omega
      have y2 : d2.size ≤ 1 := by omega
      have y3 : (u ++ d1).size ≤ 65 := by rw [ByteArray.size_append]; omega
      rw [ed1] at hs1 HN
      rw [ed2] at hs2 HN
      clear ed1 ed2 z1 z2 ex eu
      have q1 : (k : Int) < 32 := by omega
      have q2 : 0 ≤ (x : Int) / 16 := by omega
      have q3 : 0 ≤ (x : Int) % 16 := by omega
      have q4 : IntKind.u8.wrap ((x : Int) / 16 + 1) = (x : Int) / 16 + 1 := by simp [IntKind.wrap, IntKind.bits, IntKind.signed]; omega
      have q5 : IntKind.u8.wrap ((x : Int) % 16 + 1) = (x : Int) % 16 + 1 := by simp [IntKind.wrap, IntKind.bits, IntKind.signed]; omega
      have q6 : IntKind.u8.wrap ((x : Int) / 16) = (x : Int) / 16 := by simp [IntKind.wrap, IntKind.bits, IntKind.signed]; omega
      go_wp2_with fail
      go_quiet (fail)
      go_wp2_with fail
      go_roundw
      case rel => exact ⟨k + 1, by omega, by go_num, by rw [HN.out], hr, below_drewN hbw _⟩
      case measure => simp [intOf]; omega
    · rw [eu]
      have hd : decide ((k : Int) < 32) = false := by simp; omega
      go_wp2_with fail
      go_ret
      refine ⟨?_, hbw⟩
      rw [← eu, List.take_of_length_le (by rw [HL.out]; omega)]
      rfl
end Go.Proofs.YtpblfpnldbdncaaGreatDoor
