/- The contracts of digest.Read and of the reference's Read. -/
import Derived.Test.YtkebipklcpplaaaDoorReadLaw
import Derived.Test.YtkebipklcpplaaaDoorLess
import Derived.Test.YtkebipklcpplaaaDoorShelf
namespace Go.Proofs.YtkebipklcpplaaaDoor
open Go.RowKit Go.Sort
set_option linter.unusedVariables false

def isRead (s : List UInt8) (w : World) (e : Ending) (w' : World) : Prop := e = .returned (.tuple #[.agg (hashArr (Sha.readH s)), .bool (Sha.readOk s)]) ∧ Below w.heap.size w w'
theorem zero_hash : (#[.int .u8 0, .int .u8 0, .int .u8 0, .int .u8 0, .int .u8 0, .int .u8 0, .int .u8 0, .int .u8 0, .int .u8 0, .int .u8 0, .int .u8 0, .int .u8 0, .int .u8 0, .int .u8 0, .int .u8 0, .int .u8 0, .int .u8 0, .int .u8 0, .int .u8 0, .int .u8 0, .int .u8 0, .int .u8 0, .int .u8 0, .int .u8 0, .int .u8 0, .int .u8 0, .int .u8 0, .int .u8 0, .int .u8 0, .int .u8 0, .int .u8 0, .int .u8 0] : Array Value) = hashArr (List.replicate 32 0) := rfl
theorem idx_any (c : UInt8) (w : World) : Calls Tryd.prog 42 #[.string ⟨#[48, 49, 50, 51, 52, 53, 54, 55, 56, 57, 97, 98, 99, 100, 101, 102]⟩, .int .u8 (c.toNat : Int)] w fun e w' => e = .returned (.int .i64 (Sha.hexIdx c)) ∧ w = w' := by
  refine (Tryd.strings_IndexByte _ _ w).mono fun e w' ⟨he, hw⟩ => ⟨?_, hw.symm⟩
  rw [he]
  have : (((c.toNat : Int)).toNat.toUInt8) = c := by simp
  rw [this]
  rfl
set_option maxHeartbeats 2000000 in
set_option maxRecDepth 100000 in
theorem read_any (s : ByteArray) (hs : s.size ≤ maxLen) (w : World) : Calls Tryd.prog 24 #[.string s] w (isRead s.data.toList w) := by
  unfold maxLen at hs
  have hlen : s.data.toList.length = s.size := by simp
  by_cases h64 : s.size = 64
  · obtain ⟨d, h1, h2, h3⟩ := Sha.first_bad s.data.toList 64
    have H2 := Lib.hid h2
    have H3 := Lib.hid h3
    have H64 := Lib.hid h64
    have HL := Lib.hid hlen
    have hne : (((s.size : Int)) != 64) = false := by simp [h64]
    have hle : s.size ≤ 64 := by omega
    have hge : 64 ≤ s.size := by omega
    clear h2 h3 h64 hlen
    go_enter Tryd.func24, Tryd.ntmps24
    go_wp2_with fail
    rw [zero_hash]
    have hbl0 : Below w.heap.size w ((w.alloc (.cells (hashArr (List.replicate 32 0)) 24)).alloc (.cells (hashArr (List.replicate 32 0)) 24)) := ((Below.refl _ _).alloc (Nat.le_refl _) _).alloc (by simp) _
    have ba0 := heap_alloc2_old w (.cells (hashArr (List.replicate 32 0)) 24) (.cells (hashArr (List.replicate 32 0)) 24)
    have bb0 := heap_alloc2_new w (.cells (hashArr (List.replicate 32 0)) 24) (.cells (hashArr (List.replicate 32 0)) 24)
    generalize (w.alloc (.cells (hashArr (List.replicate 32 0)) 24)).alloc (.cells (hashArr (List.replicate 32 0)) 24) = W0 at *
    go_loopw [5, 6, 13] (fun _ _ i wr => ∃ k : Nat, k ≤ d ∧ i = .int .i64 k ∧ wr.rowIs w.heap.size 24 32 (fun j => .int .u8 ((((List.replicate 32 0 : List UInt8)).getD j 0).toNat : Int)) ∧ wr.rowIs (w.heap.size + 1) 24 32 (fun j => .int .u8 (Sha.rdAt s.data.toList k j : Int)) ∧ Below w.heap.size w wr) (fun _ _ i _ => 64 - (intOf i).toNat)
    case atStart => exact ⟨0, by omega, rfl, hash_rowIs (by simp) ba0, (hash_rowIs (by simp) bb0).congr (fun j hj => by rw [Sha.rdAt_zero, zeros_getD]; rfl), hbl0⟩
    case round =>
      obtain ⟨k, hk, rfl, hra, hrb, hbw⟩ := hrel
      clear ba0 bb0 hbl0
      by_cases hlt : k < 64
      · obtain ⟨x, ex⟩ : ∃ x, Sha.hexIdx s[k] = x := ⟨_, rfl⟩
        have hx := Sha.hexIdx_range s[k]
        rw [ex] at hx
        have ex2 : Sha.hexIdx (s.data.toList.getD k 0) = x := by rw [Sha.getD_byte s k (by omega)]; exact ex
        have ci : Calls Tryd.prog 42 #[.string ⟨#[48, 49, 50, 51, 52, 53, 54, 55, 56, 57, 97, 98, 99, 100, 101, 102]⟩, .int .u8 (s[k].toNat : Int)] wr fun e w' => e = .returned (.int .i64 x) ∧ wr = w' := by rw [← ex]; exact idx_any _ _
        have CI := Lib.hid ci
        have EX := Lib.hid ex2
        clear ci ex ex2
        have hks : (k : Int) < (s.size : Int) := by omega
        by_cases hkd : k < d
        · have hx0 : 0 ≤ x := by have := H2.out k hkd; rw [EX.out] at this; exact this
          obtain ⟨y, rfl⟩ := Int.eq_ofNat_of_zero_le hx0
          have hy : y < 16 := by omega
          have cb := hrb.cell (i := k / 2) (by omega)
          have fb := hrb.frozen (k / 2)
          have hh := Sha.rdAt_half s.data.toList k
          obtain ⟨z, ez⟩ : ∃ z, Sha.rdAt s.data.toList k (k / 2) = z := ⟨_, rfl⟩
          rw [ez] at cb hh
          have EZ := Lib.hid ez
          have HRA := Lib.hid hra
          have HRB := Lib.hid hrb
          have HOW := Lib.hid (or_walk z y hh hy)
          clear hra hrb ez hx hx0
          go_wp2_with fail
          with_reducible refine CI.out.mono ?_
          rintro e w' ⟨rfl, rfl⟩
          go_wp2_with fail
          go_roundw
          case rel =>
            refine ⟨k + 1, by omega, by go_num, HRA.out.setOther (by simp) _, ((HRB.out.set (k / 2) _).congr fun j hj => ?_), hbw.setCell (by simp) _⟩
            rw [HOW.out, ← Sha.rdAt_step]
            by_cases e : j = k / 2
            · rw [if_pos e, if_pos e, EZ.out]
              congr 3
              unfold Sha.dig
              rw [EX.out]; rfl
            · rw [if_neg e, if_neg e]
          case measure => simp [intOf]; omega
        · have hkd' : k = d := by omega
          have hx1 : x = -1 := by have := H3.out (by omega); rw [← hkd', EX.out] at this; exact this
          have HN : Hid (Sha.readOk s.data.toList = false) := Sha.readOk_bad s.data.toList d (by omega) (H3.out (by omega))
          obtain ⟨c0, hR', hR1, _⟩ := hra
          subst hx1
          have HR := Lib.hid hR'
          have HR1 := Lib.hid hR1
          clear hrb hR' hR1 hx hkd'
          go_wp2_with fail
          with_reducible refine CI.out.mono ?_
          rintro e w' ⟨rfl, rfl⟩
          go_wp2_with (refine wpList_store_row rfl 24 (.tmp 2) (.tmp 22) rfl w.heap.size (hashArr (List.replicate 32 0)) rfl rfl 24 c0 HR.out (hash_info _ (by simp)) (by rw [HR1.out, hashArr_size]; rfl) (hashArr_one _) ?_)
          refine bodyPost_ret (v := .tuple #[.agg (hashArr (List.replicate 32 0)), .bool false]) (results_row_slot Tryd.results24 _ _ w.heap.size 24 (hashArr (List.replicate 32 0)) (0, 0) _ _ rfl rfl (setRow_heap _ _ _ _ _ _ HR.out) Tryd.underlying24 rfl (hash_info _ (by simp))) rfl ⟨?_, below_setRow hbw (Nat.le_refl _) _⟩
          unfold Sha.readH; rw [HN.out]; rfl
      · have hd64 : decide ((k : Int) < (s.size : Int)) = false := by simp; omega
        have HN : Hid (Sha.readOk s.data.toList = true) := Sha.readOk_of _ (by rw [HL.out, H64.out]) (fun i hi => H2.out i (by omega))
        have hrd : wr.heap[w.heap.size + 1]? = some (.cells (hashArr (Sha.rd s.data.toList)) 24 (0, 0)) := rowIs_hash (Sha.rd_length _) (hrb.congr fun j hj => by
          rw [Sha.rd_getD _ _ hj]
          obtain rfl : k = 64 := by omega
          rfl)
        obtain ⟨c0, hR', hR1, _⟩ := hra
        have HR := Lib.hid hR'
        have HR1 := Lib.hid hR1
        have HRD := Lib.hid hrd
        clear hrb hR' hR1 hrd
        go_wp2_with (first | (refine wpList_load_row rfl 24 (.tmp 4) rfl (w.heap.size + 1) rfl 24 (hashArr (Sha.rd s.data.toList)) (0, 0) _ HRD.out Tryd.underlying24 rfl (hash_info _ (Sha.rd_length _)) ?_) | (refine wpList_store_row rfl 24 (.tmp 2) (.tmp 35) rfl w.heap.size (hashArr (Sha.rd s.data.toList)) rfl rfl 24 c0 HR.out (hash_info _ (Sha.rd_length _)) (by rw [HR1.out, hashArr_size, Sha.rd_length]) (hashArr_one _) ?_))
        refine bodyPost_ret (v := .tuple #[.agg (hashArr (Sha.rd s.data.toList)), .bool true]) (results_row_slot Tryd.results24 _ _ w.heap.size 24 (hashArr (Sha.rd s.data.toList)) (0, 0) _ _ rfl rfl (setRow_heap _ _ _ _ _ _ HR.out) Tryd.underlying24 rfl (hash_info _ (Sha.rd_length _))) rfl ⟨?_, below_setRow hbw (Nat.le_refl _) _⟩
        unfold Sha.readH; rw [HN.out]; rfl
  · have hne : (((s.size : Int)) != 64) = true := by simp; omega
    have HN : Hid (Sha.readOk s.data.toList = false) := Sha.readOk_len _ (by omega)
    clear h64 hlen
    go_enter Tryd.func24, Tryd.ntmps24
    go_wp2_with (refine store_hash (l := List.replicate 32 0) (by simp) rfl (.tmp 2) (.tmp 10) rfl rfl rfl rfl rfl ?_)
    refine bodyPost_ret (v := .tuple #[.agg (hashArr (List.replicate 32 0)), .bool false]) (results_row_slot Tryd.results24 _ _ w.heap.size 24 (hashArr (List.replicate 32 0)) (0, 0) _ _ rfl rfl (heap_alloc_new _ _) Tryd.underlying24 rfl (hash_info _ (by simp))) rfl ⟨?_, (Below.refl _ _).alloc (Nat.le_refl _) _⟩
    unfold Sha.readH; rw [HN.out]; rfl
end Go.Proofs.YtkebipklcpplaaaDoor
