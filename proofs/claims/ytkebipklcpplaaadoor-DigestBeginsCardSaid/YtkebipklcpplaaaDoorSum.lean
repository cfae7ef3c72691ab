/- The contract of digest.Sum. -/
import Derived.Test.YtkebipklcpplaaaDoorPadded
import Derived.Test.YtkebipklcpplaaaDoorSumKit
import Derived.Test.YtkebipklcpplaaaDoorShaD
import Derived.Test.YtkebipklcpplaaaDoorShelf
namespace Go.Proofs.YtkebipklcpplaaaDoor
open Go.RowKit
set_option linter.unusedVariables false

theorem Tabs.below {w w' : World} (h : Tabs w) (hb : Below w.heap.size w w') : Tabs w' := by
  obtain ⟨h1, h2, h3, h4⟩ := h
  exact ⟨fun i hi => (hb.cell (p := ⟨0, i, none⟩) h3).trans (h1 i hi), fun i hi => (hb.cell (p := ⟨1, i, none⟩) h4).trans (h2 i hi), by have := hb.size; omega, by have := hb.size; omega⟩
theorem mix_is (a b c d e f g h : Nat) (s : ByteArray) (M : Sha.St) (w : World) (hs : s.size = 64) (hT : Tabs w)
    (ha : a < 4294967296) (hb : b < 4294967296) (hc : c < 4294967296) (hd : d < 4294967296) (he : e < 4294967296) (hf : f < 4294967296) (hg : g < 4294967296) (hh : h < 4294967296) (hM : Sha.mix ⟨a, b, c, d, e, f, g, h⟩ s.data.toList = M) :
    Calls Tryd.prog 37 #[.agg #[.int .u32 a, .int .u32 b, .int .u32 c, .int .u32 d, .int .u32 e, .int .u32 f, .int .u32 g, .int .u32 h], .string s] w fun e' w' => e' = .returned (.agg #[.int .u32 (M.a : Int), .int .u32 (M.b : Int), .int .u32 (M.c : Int), .int .u32 (M.d : Int), .int .u32 (M.e : Int), .int .u32 (M.f : Int), .int .u32 (M.g : Int), .int .u32 (M.h : Int)]) ∧ Below w.heap.size w w' := by
  have := mix_any a b c d e f g h s w hs hT ha hb hc hd he hf hg hh
  rw [hM] at this
  exact this
/-- the rest of the message, as the code joins it -/
theorem rest_str (s rz : ByteArray) (z : Nat) (hz : (119 - s.size % 64) % 64 = z) (hrz : (⟨(Lib.repeatL [0] z).toArray⟩ : ByteArray) = rz) : (s.extract (s.size / 64 * 64) s.size ++ (⟨#[128]⟩ : ByteArray)) ++ (rz ++ ⟨(Sha.bytesOf 8 (s.size * 8)).toArray⟩) = ⟨(Sha.rest s.data.toList).toArray⟩ := by
  have e1 : s.extract (s.size / 64 * 64) s.size = ⟨(s.data.toList.drop (64 * (s.size / 64))).toArray⟩ := by
    rw [Nat.mul_comm]
    apply ByteArray.ext
    apply Array.toList_inj.1
    simp [ByteArray.data_extract, List.extract_eq_take_drop]
    rw [List.take_of_length_le (by simp)]
  rw [← hrz, e1, show (⟨#[128]⟩ : ByteArray) = ⟨([128] : List UInt8).toArray⟩ from rfl, ba_append, ba_append, ba_append, Sha.repeatL_zero, Sha.rest]
  have hl : s.data.toList.length = s.size := by simp
  rw [hl, hz]
  simp

set_option maxHeartbeats 2000000 in
set_option maxRecDepth 100000 in
theorem sum_any (s : ByteArray) (w : World) (hs : s.size ≤ 140737488355000) (hT : Tabs w) :
    Calls Tryd.prog 16 #[.string s] w fun e w' => e = .returned (.agg (hashArr (Sha.sum s.data.toList))) ∧ Below w.heap.size w w' := by
  have t0 : w.cell? ⟨0, 0, none⟩ = some (.int .u32 1779033703) := hT.1 0 (by omega)
  have t1 : w.cell? ⟨0, 1, none⟩ = some (.int .u32 3144134277) := hT.1 1 (by omega)
  have t2 : w.cell? ⟨0, 2, none⟩ = some (.int .u32 1013904242) := hT.1 2 (by omega)
  have t3 : w.cell? ⟨0, 3, none⟩ = some (.int .u32 2773480762) := hT.1 3 (by omega)
  have t4 : w.cell? ⟨0, 4, none⟩ = some (.int .u32 1359893119) := hT.1 4 (by omega)
  have t5 : w.cell? ⟨0, 5, none⟩ = some (.int .u32 2600822924) := hT.1 5 (by omega)
  have t6 : w.cell? ⟨0, 6, none⟩ = some (.int .u32 528734635) := hT.1 6 (by omega)
  have t7 : w.cell? ⟨0, 7, none⟩ = some (.int .u32 1541459225) := hT.1 7 (by omega)
  have hlt0 := hT.2.2.1
  have HT := Lib.hid hT
  clear hT
  have hll : s.data.toList.length = s.size := by simp
  have HLL := Lib.hid hll
  clear hll
  go_enter Tryd.func16, Tryd.ntmps16
  go_wp2_with fail
  have hS0 := sum_start w #[.int .u8 0, .int .u8 0, .int .u8 0, .int .u8 0, .int .u8 0, .int .u8 0, .int .u8 0, .int .u8 0, .int .u8 0, .int .u8 0, .int .u8 0, .int .u8 0, .int .u8 0, .int .u8 0, .int .u8 0, .int .u8 0, .int .u8 0, .int .u8 0, .int .u8 0, .int .u8 0, .int .u8 0, .int .u8 0, .int .u8 0, .int .u8 0, .int .u8 0, .int .u8 0, .int .u8 0, .int .u8 0, .int .u8 0, .int .u8 0, .int .u8 0, .int .u8 0] rfl
  generalize (w.alloc (.cells #[.int .u8 0, .int .u8 0, .int .u8 0, .int .u8 0, .int .u8 0, .int .u8 0, .int .u8 0, .int .u8 0, .int .u8 0, .int .u8 0, .int .u8 0, .int .u8 0, .int .u8 0, .int .u8 0, .int .u8 0, .int .u8 0, .int .u8 0, .int .u8 0, .int .u8 0, .int .u8 0, .int .u8 0, .int .u8 0, .int .u8 0, .int .u8 0, .int .u8 0, .int .u8 0, .int .u8 0, .int .u8 0, .int .u8 0, .int .u8 0, .int .u8 0, .int .u8 0] 24)).alloc _ = W0 at *
  clear t0 t1 t2 t3 t4 t5 t6 t7
  go_loopw [5] (fun i wr => ∃ k A B C D E F G H : Nat, k ≤ s.size / 64 ∧ i = .int .i64 (64 * (k : Int)) ∧ A < 4294967296 ∧ B < 4294967296 ∧ C < 4294967296 ∧ D < 4294967296 ∧ E < 4294967296 ∧ F < 4294967296 ∧ G < 4294967296 ∧ H < 4294967296 ∧ Hid ((⟨A, B, C, D, E, F, G, H⟩ : Sha.St) = Sha.fold k Sha.iv s.data.toList) ∧ SumMem w wr ⟨A, B, C, D, E, F, G, H⟩) (fun i _ => s.size - (intOf i).toNat)
  case atStart => exact ⟨0, _, _, _, _, _, _, _, _, by omega, rfl, Sha.iv_ok.1, Sha.iv_ok.2.1, Sha.iv_ok.2.2.1, Sha.iv_ok.2.2.2.1, Sha.iv_ok.2.2.2.2.1, Sha.iv_ok.2.2.2.2.2.1, Sha.iv_ok.2.2.2.2.2.2.1, Sha.iv_ok.2.2.2.2.2.2.2, rfl, hS0⟩
  case round =>
    obtain ⟨k, A, B, C, D, E, F, G, H, hk, rfl, lA, lB, lC, lD, lE, lF, lG, lH, HF, hM⟩ := hrel
    by_cases hlt : k < s.size / 64
    · have hx : (s.extract (64 * k) (64 * k + 64)).size = 64 := by simp; omega
      have v0 : wr.cell? ⟨w.heap.size + 1, 0, none⟩ = some (.int .u32 (A : Int)) := hM.2.1.cell (i := 0) (by omega)
      have f0 : wr.frozen? ⟨w.heap.size + 1, 0, none⟩ = false := hM.2.1.frozen 0
      have v1 : wr.cell? ⟨w.heap.size + 1, 1, none⟩ = some (.int .u32 (B : Int)) := hM.2.1.cell (i := 1) (by omega)
      have f1 : wr.frozen? ⟨w.heap.size + 1, 1, none⟩ = false := hM.2.1.frozen 1
      have v2 : wr.cell? ⟨w.heap.size + 1, 2, none⟩ = some (.int .u32 (C : Int)) := hM.2.1.cell (i := 2) (by omega)
      have f2 : wr.frozen? ⟨w.heap.size + 1, 2, none⟩ = false := hM.2.1.frozen 2
      have v3 : wr.cell? ⟨w.heap.size + 1, 3, none⟩ = some (.int .u32 (D : Int)) := hM.2.1.cell (i := 3) (by omega)
      have f3 : wr.frozen? ⟨w.heap.size + 1, 3, none⟩ = false := hM.2.1.frozen 3
      have v4 : wr.cell? ⟨w.heap.size + 1, 4, none⟩ = some (.int .u32 (E : Int)) := hM.2.1.cell (i := 4) (by omega)
      have f4 : wr.frozen? ⟨w.heap.size + 1, 4, none⟩ = false := hM.2.1.frozen 4
      have v5 : wr.cell? ⟨w.heap.size + 1, 5, none⟩ = some (.int .u32 (F : Int)) := hM.2.1.cell (i := 5) (by omega)
      have f5 : wr.frozen? ⟨w.heap.size + 1, 5, none⟩ = false := hM.2.1.frozen 5
      have v6 : wr.cell? ⟨w.heap.size + 1, 6, none⟩ = some (.int .u32 (G : Int)) := hM.2.1.cell (i := 6) (by omega)
      have f6 : wr.frozen? ⟨w.heap.size + 1, 6, none⟩ = false := hM.2.1.frozen 6
      have v7 : wr.cell? ⟨w.heap.size + 1, 7, none⟩ = some (.int .u32 (H : Int)) := hM.2.1.cell (i := 7) (by omega)
      have f7 : wr.frozen? ⟨w.heap.size + 1, 7, none⟩ = false := hM.2.1.frozen 7
      have q1 : 0 ≤ 64 * (k : Int) := by omega
      have q2 : 64 * (k : Int) ≤ 64 * (k : Int) + 64 := by omega
      have q3 : 64 * (k : Int) + 64 ≤ (s.size : Int) := by omega
      have HX := Lib.hid hx
      clear hx
      have e1 : IntKind.i64.wrap (64 * (k : Int) + 64) = 64 * (k : Int) + 64 := IntWalk.i64_in _ (by omega)
      have e2 : (64 * (k : Int)).toNat = 64 * k := by omega
      have e3 : (64 * (k : Int) + 64).toNat = 64 * k + 64 := by omega
      have n3 : 64 * k + 64 ≤ s.size := by omega
      go_wp2_with fail
      obtain ⟨M, eM⟩ : ∃ M, Sha.mix ⟨A, B, C, D, E, F, G, H⟩ (s.extract (64 * k) (64 * k + 64)).data.toList = M := ⟨_, rfl⟩
      have EM := Lib.hid eM
      clear eM
      have hsz : w.heap.size + 1 < wr.heap.size := hM.2.1.lt
      have HTr : Hid (Tabs wr.drew) := HT.out.below hM.2.2.drew
      go_region_with (go_at_call 37; refine (mix_is A B C D E F G H _ M _ HX.out HTr.out lA lB lC lD lE lF lG lH EM.out).mono ?_; rintro e' w2 ⟨rfl, hb2⟩; have hM2 := hM.drew.below hb2; obtain ⟨g0, k0, g1, k1, g2, k2, g3, k3, g4, k4, g5, k5, g6, k6, g7, k7⟩ := hM2.cells)
      go_wp2_with fail
      go_roundw
      case rel =>
        have hok : M.ok := by rw [← EM.out]; exact Sha.mix_ok _ _
        refine ⟨k + 1, M.a, M.b, M.c, M.d, M.e, M.f, M.g, M.h, by omega, by first | go_num | (congr 1; omega), hok.1, hok.2.1, hok.2.2.1, hok.2.2.2.1, hok.2.2.2.2.1, hok.2.2.2.2.2.1, hok.2.2.2.2.2.2.1, hok.2.2.2.2.2.2.2, ?_, hM2.store M⟩
        show M = _
        rw [Sha.fold_succ, ← HF.out, ← EM.out]
        congr 1
        exact extract_block s k
      case measure => simp [intOf]; omega
    · have hd64 : decide (64 * (k : Int) < (s.size : Int) / 64 * 64) = false := by simp; omega
      obtain ⟨st1, est1⟩ : ∃ st : Sha.St, (⟨A, B, C, D, E, F, G, H⟩ : Sha.St) = st := ⟨_, rfl⟩
      have HST1 : Hid (st1 = Sha.fold (s.size / 64) Sha.iv s.data.toList) := by
        show st1 = _
        obtain rfl : k = s.size / 64 := by omega
        rw [← est1, HF.out]
      have EST1 := Lib.hid est1
      clear est1 HF hS0 hlt
      go_wp2_with fail
      obtain ⟨z, hz⟩ : ∃ z, (119 - s.size % 64) % 64 = z := ⟨_, rfl⟩
      have hzl : z < 64 := by omega
      rw [show ((120 - (((s.size - s.size / 64 * 64 : Nat) : Int) + 1)) % 64) = (z : Int) by omega]
      refine (Tryd.strings_Repeat ⟨#[0]⟩ z _ (by omega) (by show 1 * z ≤ _; omega)).mono ?_
      rintro e w1 ⟨rfl, hb1⟩
      obtain ⟨rz, hrz⟩ : ∃ rz : ByteArray, (⟨(Lib.repeatL [0] z).toArray⟩ : ByteArray) = rz := ⟨_, rfl⟩
      have hrzs : rz.size ≤ 64 := by
        rw [← hrz]
        show (Lib.repeatL [0] z).toArray.size ≤ 64
        simp [Lib.repeatL_length]; omega
      have hM1 := hM.below hb1
      have HRS := Lib.hid (rest_str s rz z hz hrz)
      have HRZ := Lib.hid hrz
      have hzz : (⟨(Lib.repeatL (⟨#[0]⟩ : ByteArray).data.toList z).toArray⟩ : ByteArray) = rz := hrz
      rw [hzz]
      clear hz hrz hzz
      have hb : (s.extract (s.size / 64 * 64) s.size ++ (⟨#[128]⟩ : ByteArray)).size ≤ 65 := by
        rw [ByteArray.size_append, ByteArray.size_extract]
        show _ + 1 ≤ 65
        omega
      generalize s.extract (s.size / 64 * 64) s.size ++ (⟨#[128]⟩ : ByteArray) = head at *
      go_wp2_with fail
      rw [show ((s.size : Int) * 8) = ((s.size * 8 : Nat) : Int) by omega]
      refine (length_any (s.size * 8) _ (by omega)).mono ?_
      rintro e w2 ⟨rfl, hb2⟩
      have hM2 := hM1.below hb2
      obtain ⟨lb, hlb⟩ : ∃ lb : ByteArray, (⟨(Sha.bytesOf 8 (s.size * 8)).toArray⟩ : ByteArray) = lb := ⟨_, rfl⟩
      have hlbs : lb.size ≤ 8 := by
        rw [← hlb]
        show (Sha.bytesOf 8 (s.size * 8)).toArray.size ≤ 8
        simp [Sha.bytesOf]
      rw [hlb] at HRS ⊢
      clear hlb
      have hn : (rz ++ lb).size ≤ 72 := by rw [ByteArray.size_append]; omega
      go_wp2_with fail
      generalize hr : head ++ (rz ++ lb) = r at *
      have hrd : r.data.toList = Sha.rest s.data.toList := by rw [HRS.out]
      have hrsz : r.size = (Sha.rest s.data.toList).length := by rw [← hrd]; simp
      obtain ⟨nb, hnb⟩ : ∃ nb, r.size = 64 * nb := by
        have h1 := Sha.padded_length s.data.toList
        have h2 := Sha.rest_length s.data.toList
        exact ⟨r.size / 64, by omega⟩
      have HSUM : Hid (Sha.sum s.data.toList = Sha.out (Sha.fold nb st1 r.data.toList)) := by
        show _ = _
        rw [hrd, HST1.out, Sha.sum_two s.data.toList nb (by omega), HLL.out]
      have ht1 : r.size ≤ 64 * nb := by omega
      have ht2 : 64 * nb ≤ r.size := by omega
      have ht3 : r.size ≤ 137 := by rw [← hr, ByteArray.size_append]; omega
      have hM3 : SumMem w w2 st1 := by rw [← EST1.out]; exact hM2
      have HOK1 : Hid st1.ok := by rw [← EST1.out]; exact ⟨lA, lB, lC, lD, lE, lF, lG, lH⟩
      clear hr hrd hrsz hnb hM hM1 hM2 hb1 hb2 hn hb hrzs hlbs EST1 HST1 HRS HRZ lA lB lC lD lE lF lG lH hk
      go_loopw [7] (fun i wr => ∃ k A B C D E F G H : Nat, k ≤ nb ∧ i = .int .i64 (64 * (k : Int)) ∧ A < 4294967296 ∧ B < 4294967296 ∧ C < 4294967296 ∧ D < 4294967296 ∧ E < 4294967296 ∧ F < 4294967296 ∧ G < 4294967296 ∧ H < 4294967296 ∧ Hid ((⟨A, B, C, D, E, F, G, H⟩ : Sha.St) = Sha.fold k st1 r.data.toList) ∧ SumMem w wr ⟨A, B, C, D, E, F, G, H⟩) (fun i _ => r.size - (intOf i).toNat)
      case atStart => exact ⟨0, _, _, _, _, _, _, _, _, by omega, rfl, HOK1.out.1, HOK1.out.2.1, HOK1.out.2.2.1, HOK1.out.2.2.2.1, HOK1.out.2.2.2.2.1, HOK1.out.2.2.2.2.2.1, HOK1.out.2.2.2.2.2.2.1, HOK1.out.2.2.2.2.2.2.2, rfl, hM3⟩
      case round =>
        obtain ⟨k, A, B, C, D, E, F, G, H, hk, rfl, lA, lB, lC, lD, lE, lF, lG, lH, HF, hM⟩ := hrel
        by_cases hlt : k < nb
        · have hx : (r.extract (64 * k) (64 * k + 64)).size = 64 := by simp; omega
          have v0 : wr.cell? ⟨w.heap.size + 1, 0, none⟩ = some (.int .u32 (A : Int)) := hM.2.1.cell (i := 0) (by omega)
          have f0 : wr.frozen? ⟨w.heap.size + 1, 0, none⟩ = false := hM.2.1.frozen 0
          have v1 : wr.cell? ⟨w.heap.size + 1, 1, none⟩ = some (.int .u32 (B : Int)) := hM.2.1.cell (i := 1) (by omega)
          have f1 : wr.frozen? ⟨w.heap.size + 1, 1, none⟩ = false := hM.2.1.frozen 1
          have v2 : wr.cell? ⟨w.heap.size + 1, 2, none⟩ = some (.int .u32 (C : Int)) := hM.2.1.cell (i := 2) (by omega)
          have f2 : wr.frozen? ⟨w.heap.size + 1, 2, none⟩ = false := hM.2.1.frozen 2
          have v3 : wr.cell? ⟨w.heap.size + 1, 3, none⟩ = some (.int .u32 (D : Int)) := hM.2.1.cell (i := 3) (by omega)
          have f3 : wr.frozen? ⟨w.heap.size + 1, 3, none⟩ = false := hM.2.1.frozen 3
          have v4 : wr.cell? ⟨w.heap.size + 1, 4, none⟩ = some (.int .u32 (E : Int)) := hM.2.1.cell (i := 4) (by omega)
          have f4 : wr.frozen? ⟨w.heap.size + 1, 4, none⟩ = false := hM.2.1.frozen 4
          have v5 : wr.cell? ⟨w.heap.size + 1, 5, none⟩ = some (.int .u32 (F : Int)) := hM.2.1.cell (i := 5) (by omega)
          have f5 : wr.frozen? ⟨w.heap.size + 1, 5, none⟩ = false := hM.2.1.frozen 5
          have v6 : wr.cell? ⟨w.heap.size + 1, 6, none⟩ = some (.int .u32 (G : Int)) := hM.2.1.cell (i := 6) (by omega)
          have f6 : wr.frozen? ⟨w.heap.size + 1, 6, none⟩ = false := hM.2.1.frozen 6
          have v7 : wr.cell? ⟨w.heap.size + 1, 7, none⟩ = some (.int .u32 (H : Int)) := hM.2.1.cell (i := 7) (by omega)
          have f7 : wr.frozen? ⟨w.heap.size + 1, 7, none⟩ = false := hM.2.1.frozen 7
          have q1 : 0 ≤ 64 * (k : Int) := by omega
          have q2 : 64 * (k : Int) ≤ 64 * (k : Int) + 64 := by omega
          have q3 : 64 * (k : Int) + 64 ≤ (r.size : Int) := by omega
          have HX := Lib.hid hx
          clear hx
          have e1 : IntKind.i64.wrap (64 * (k : Int) + 64) = 64 * (k : Int) + 64 := IntWalk.i64_in _ (by omega)
          have e2 : (64 * (k : Int)).toNat = 64 * k := by omega
          have e3 : (64 * (k : Int) + 64).toNat = 64 * k + 64 := by omega
          have n3 : 64 * k + 64 ≤ r.size := by omega
          go_wp2_with fail
          obtain ⟨M, eM⟩ : ∃ M, Sha.mix ⟨A, B, C, D, E, F, G, H⟩ (r.extract (64 * k) (64 * k + 64)).data.toList = M := ⟨_, rfl⟩
          have EM := Lib.hid eM
          clear eM
          have hsz : w.heap.size + 1 < wr.heap.size := hM.2.1.lt
          have HTr : Hid (Tabs wr.drew) := HT.out.below hM.2.2.drew
          go_region_with (go_at_call 37; refine (mix_is A B C D E F G H _ M _ HX.out HTr.out lA lB lC lD lE lF lG lH EM.out).mono ?_; rintro e' w2 ⟨rfl, hb2⟩; have hM2 := hM.drew.below hb2; obtain ⟨g0, k0, g1, k1, g2, k2, g3, k3, g4, k4, g5, k5, g6, k6, g7, k7⟩ := hM2.cells)
          go_wp2_with fail
          go_roundw
          case rel =>
            have hok : M.ok := by rw [← EM.out]; exact Sha.mix_ok _ _
            refine ⟨k + 1, M.a, M.b, M.c, M.d, M.e, M.f, M.g, M.h, by omega, by first | go_num | (congr 1; omega), hok.1, hok.2.1, hok.2.2.1, hok.2.2.2.1, hok.2.2.2.2.1, hok.2.2.2.2.2.1, hok.2.2.2.2.2.2.1, hok.2.2.2.2.2.2.2, ?_, hM2.store M⟩
            show M = _
            rw [Sha.fold_succ, ← HF.out, ← EM.out]
            congr 1
            exact extract_block r k
          case measure => simp [intOf]; omega
        · have hd64 : decide (64 * (k : Int) < (r.size : Int)) = false := by simp; omega
          obtain ⟨st, est⟩ : ∃ st : Sha.St, (⟨A, B, C, D, E, F, G, H⟩ : Sha.St) = st := ⟨_, rfl⟩
          rw [est] at hM HF
          have HS : Hid (Sha.sum s.data.toList = Sha.out st) := by
            show _ = _
            obtain rfl : k = nb := by omega
            rw [HSUM.out, HF.out]
          have hsok : ∀ i, (Sha.stList st).getD i 0 < 4294967296 := by
            rw [← est]
            exact stList_lt _ ⟨lA, lB, lC, lD, lE, lF, lG, lH⟩
          have HOK := Lib.hid hsok
          clear est HF hlt hsok lA lB lC lD lE lF lG lH hM3 HOK1
          have hsz : w.heap.size + 1 < wr.heap.size := hM.2.1.lt
          go_wp2_with fail
          refine sum_out w wr st (Code.wp _ _ _ _) _ hM rfl ?_
          intro W2 hM2 hO2
          obtain ⟨O, hO⟩ : ∃ O, wr.heap.size = O := ⟨_, rfl⟩
          rw [hO] at hO2 hsz ⊢
          clear hO
          go_loopw [9, 57] (fun _ i wr => ∃ j : Nat, j ≤ 32 ∧ i = .int .i64 j ∧ SumMem w wr st ∧ wr.rowIs O 24 32 (fun i => .int .u8 (Sha.outAt st j i : Nat))) (fun _ i _ => 32 - (intOf i).toNat)
          case atStart => exact ⟨0, by omega, rfl, hM2, hO2⟩
          case round =>
            obtain ⟨j, hj, rfl, hM, hO⟩ := hrel
            by_cases hlt : j < 32
            · obtain ⟨p, ep⟩ : ∃ v, (Sha.stList st).getD (j / 4) 0 = v := ⟨_, rfl⟩
              have lp : p < 4294967296 := by rw [← ep]; exact HOK.out _
              have cp : wr.cell? ⟨w.heap.size + 1, j / 4, none⟩ = some (.int .u32 (p : Int)) := by rw [← ep]; exact hM.2.1.cell (i := j / 4) (by omega)
              have c0 := hO.cell (i := j) hlt
              have f0 := hO.frozen j
              have EP := Lib.hid ep
              clear ep
              go_wp2_with fail
              go_roundw
              case rel =>
                refine ⟨j + 1, by omega, by go_num, ⟨hM.1.setOther (by simp; omega) _, hM.2.1.setOther (by simp; omega) _, hM.2.2.setCell (by simp; omega) _⟩, (hO.set j _).congr fun i _ => ?_⟩
                rw [← Sha.outAt_step]
                by_cases e : i = j
                · rw [if_pos e, if_pos e, EP.out, shr_cast, show 24 - j % 4 * 8 = 8 * (3 - j % 4) by omega]; congr 1
                · rw [if_neg e, if_neg e]
              case measure => simp [intOf]; omega
            · have hd32 : decide ((j : Int) < 32) = false := by simp; omega
              have hO' : wr.heap[O]? = some (.cells (hashArr (Sha.out st)) 24 (0, 0)) := by
                obtain rfl : j = 32 := by omega
                exact hash_row _ hO
              obtain ⟨c0, hR', hR1, _⟩ := hM.1
              have hH := HS.out
              go_wp2_with (first | (refine wpList_load_row rfl 24 (.tmp 8) rfl O rfl 24 (hashArr (Sha.out st)) (0, 0) _ hO' Tryd.underlying24 rfl (hash_info _ (Sha.out_length _)) ?_) | (refine wpList_store_row rfl 24 (.tmp 2) (.tmp 73) rfl w.heap.size (hashArr (Sha.out st)) rfl rfl 24 c0 hR' (hash_info _ (Sha.out_length _)) (by rw [hR1, hashArr_size, Sha.out_length]) (hashArr_one _) ?_))
              refine bodyPost_ret (v := .agg (hashArr (Sha.out st))) (results_cell_row Tryd.results16 _ _ w.heap.size 24 (hashArr (Sha.out st)) (0, 0) _ rfl (setRow_heap _ _ _ _ _ _ hR') Tryd.underlying24 rfl (hash_info _ (Sha.out_length _))) rfl ⟨rfl, ?_⟩
              exact below_setRow hM.2.2 (Nat.le_refl _) _
end Go.Proofs.YtkebipklcpplaaaDoor
