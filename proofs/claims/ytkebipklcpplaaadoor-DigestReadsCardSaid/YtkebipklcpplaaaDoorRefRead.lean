/- The contract of the reference's Read. -/
import Derived.Test.YtkebipklcpplaaaDoorRead
namespace Go.Proofs.YtkebipklcpplaaaDoor
open Go.RowKit Go.Sort
set_option linter.unusedVariables false

theorem rowIs_drewN {w : World} {b : Nat} {t : TypeId} {n : Nat} {f : Nat → Value} (h : w.rowIs b t n f) (m : Nat) : (w.drewN m).rowIs b t n f := h
theorem hex_index64 (n : Nat) (h : n < 16) (w : World) : (Instr.index 9 (.string ⟨#[48, 49, 50, 51, 52, 53, 54, 55, 56, 57, 97, 98, 99, 100, 101, 102]⟩) (.int .i64 (n : Int))).run Tryd.prog w = .ok (.int .u8 ((Sha.hexDigit n).toNat : Int)) w := by
  rw [run_index_string _ _ _ _ _ Tryd.underlying9, dif_pos ⟨by omega, by show (n : Int) < ((16 : Nat) : Int); omega⟩]
  congr 3
  have : ∀ k : Fin 16, ((⟨#[48, 49, 50, 51, 52, 53, 54, 55, 56, 57, 97, 98, 99, 100, 101, 102]⟩ : ByteArray)[((k.val : Nat) : Int).toNat]'(by simp [ByteArray.size])) = Sha.hexDigit k.val := by decide +kernel
  exact congrArg UInt8.toNat (this ⟨n, h⟩)
set_option maxHeartbeats 2000000 in
set_option maxRecDepth 100000 in
theorem rread_any (s : ByteArray) (hs : s.size ≤ maxLen) (w : World) : Calls Tryd.prog 25 #[.string s] w (isRead s.data.toList w) := by
  unfold maxLen at hs
  have hlen : s.data.toList.length = s.size := by simp
  by_cases h64 : s.size = 64
  · obtain ⟨d, h1, h2, h3⟩ := Sha.first_bad s.data.toList 64
    have H2 := Lib.hid h2
    have H3 := Lib.hid h3
    have H64 := Lib.hid h64
    have HL := Lib.hid hlen
    have hne : (((s.size : Int)) != 64) = false := by simp [h64]
    have hle : s.size ≤ 64 := by omega
    have hge : 64 ≤ s.size := by omega
    clear h2 h3 h64 hlen
    go_enter Tryd.func25, Tryd.ntmps25
    go_wp2_with fail
    rw [zero_hash]
    have hbl0 : Below w.heap.size w ((w.alloc (.cells (hashArr (List.replicate 32 0)) 24)).alloc (.cells (hashArr (List.replicate 32 0)) 24)) := ((Below.refl _ _).alloc (Nat.le_refl _) _).alloc (by simp) _
    have ba0 := heap_alloc2_old w (.cells (hashArr (List.replicate 32 0)) 24) (.cells (hashArr (List.replicate 32 0)) 24)
    have bb0 := heap_alloc2_new w (.cells (hashArr (List.replicate 32 0)) 24) (.cells (hashArr (List.replicate 32 0)) 24)
    generalize (w.alloc (.cells (hashArr (List.replicate 32 0)) 24)).alloc (.cells (hashArr (List.replicate 32 0)) 24) = W0 at *
    go_loopw [5, 6, 7] (fun i _ _ wr => ∃ k : Nat, k ≤ d ∧ i = .int .i64 k ∧ wr.rowIs w.heap.size 24 32 (fun j => .int .u8 ((((List.replicate 32 0 : List UInt8)).getD j 0).toNat : Int)) ∧ wr.rowIs (w.heap.size + 1) 24 32 (fun j => .int .u8 (Sha.rdAt s.data.toList k j : Int)) ∧ Below w.heap.size w wr) (fun i _ _ _ => 64 - (intOf i).toNat)
    case atStart => exact ⟨0, by omega, rfl, hash_rowIs (by simp) ba0, (hash_rowIs (by simp) bb0).congr (fun j hj => by rw [Sha.rdAt_zero, zeros_getD]; rfl), hbl0⟩
    case round =>
      obtain ⟨k, hk, rfl, hra, hrb, hbw⟩ := hrel
      clear ba0 bb0 hbl0
      by_cases hlt : k < 64
      · obtain ⟨ch, ech⟩ : ∃ ch, s[k] = ch := ⟨_, rfl⟩
        have hch := UInt8.toNat_lt ch
        have ex2 : s.data.toList.getD k 0 = ch := by rw [Sha.getD_byte s k (by omega)]; exact ech
        have ECH := Lib.hid ech
        have EX2 := Lib.hid ex2
        clear ex2 ech
        have hks : (k : Int) < (s.size : Int) := by omega
        have hk0 : (0 : Int) ≤ (k : Int) := by omega
        have hdk : decide ((k : Int) < 64) = true := by simp; omega
        have HRA := Lib.hid hra
        have HRB := Lib.hid hrb
        clear hra hrb
        go_wp2_with fail
        obtain ⟨wo, ewo⟩ : ∃ wo : World, wr = wo := ⟨_, rfl⟩
        rw [ewo] at HRA HRB hbw ⊢
        clear ewo
        go_loopw [6, 7] (fun n c wr => ∃ j : Nat, j ≤ 16 ∧ c = .int .i64 j ∧ n = .int .i64 (Sha.idxUpto ch j) ∧ ∃ m, wr = wo.drewN m) (fun _ c _ => 16 - (intOf c).toNat)
        case atStart => exact ⟨0, by omega, rfl, by rw [Sha.idx_zero], 0, rfl⟩
        case round =>
          obtain ⟨j, hj, rfl, rfl, m, rfl⟩ := hrel
          by_cases hj16 : j < 16
          · have hix := fun W => hex_index64 j (by omega) W
            have hst := Sha.idx_step ch j hj16
            obtain ⟨v, ev⟩ : ∃ v, (Sha.hexDigit j).toNat = v := ⟨_, rfl⟩
            rw [ev] at hix hst
            obtain ⟨u, eu⟩ : ∃ u, Sha.idxUpto ch j = u := ⟨_, rfl⟩
            rw [eu] at hst ⊢
            obtain ⟨c, ec⟩ : ∃ c, ch.toNat = c := ⟨_, rfl⟩
            rw [ec] at hst
            have hsi : ∀ W, (Instr.index 9 (.string s) (.int .i64 (k : Int))).run Tryd.prog W = .ok (.int .u8 (c : Int)) W := fun W => by
              rw [← ec, ← ECH.out]; go_simp
            have HST := Lib.hid hst
            clear hst ev eu ec
            by_cases hvc : v = c
            · subst hvc
              go_wp2_with fail
              go_quiet (fail)
              go_wp2_with fail
              go_roundw
              case rel => exact ⟨j + 1, by omega, by go_num, by rw [HST.out]; simp, m + nq, rfl⟩
              case measure => simp [intOf]; omega
            · have hvb : ((v : Int) == (c : Int)) = false := by simp; omega
              go_wp2_with fail
              go_quiet (fail)
              go_wp2_with fail
              go_roundw
              case rel => exact ⟨j + 1, by omega, by go_num, by rw [HST.out, if_neg hvc], m + nq, rfl⟩
              case measure => simp [intOf]; omega
          · have hd16 : decide ((j : Int) < 16) = false := by simp; omega
            have ej : Sha.idxUpto ch j = Sha.hexIdx ch := by obtain rfl : j = 16 := by omega
                                                             exact Sha.idx_end ch
            rw [ej]
            clear ej
            have hx := Sha.hexIdx_range ch
            obtain ⟨x, ex⟩ : ∃ x, Sha.hexIdx ch = x := ⟨_, rfl⟩
            rw [ex] at hx ⊢
            have EX : Hid (Sha.hexIdx (s.data.toList.getD k 0) = x) := by show _ = _; rw [EX2.out]; exact ex
            clear ex
            have hra := rowIs_drewN HRA.out m
            have hrb := rowIs_drewN HRB.out m
            have hbw := below_drewN hbw m
            generalize wo.drewN m = wr at *
            clear HRA HRB
            by_cases hkd : k < d
            · have hx0 : 0 ≤ x := by have := H2.out k hkd; rw [EX.out] at this; exact this
              obtain ⟨y, rfl⟩ := Int.eq_ofNat_of_zero_le hx0
              have hy : y < 16 := by omega
              have cb := hrb.cell (i := k / 2) (by omega)
              have fb := hrb.frozen (k / 2)
              have hh := Sha.rdAt_half s.data.toList k
              obtain ⟨z, ez⟩ : ∃ z, Sha.rdAt s.data.toList k (k / 2) = z := ⟨_, rfl⟩
              rw [ez] at cb hh
              have EZ := Lib.hid ez
              have HRA := Lib.hid hra
              have HRB := Lib.hid hrb
              clear hra hrb ez hx hx0
              go_wp2_with fail
              go_roundw
              case rel =>
                refine ⟨k + 1, by omega, by go_num, HRA.out.setOther (by simp) _, ((HRB.out.set (k / 2) _).congr fun j hj => ?_), hbw.setCell (by simp) _⟩
                rw [← Sha.rdAt_step]
                by_cases e : j = k / 2
                · rw [if_pos e, if_pos e, EZ.out]
                  congr 1
                  unfold Sha.dig
                  rw [EX.out]
                  omega
                · rw [if_neg e, if_neg e]
              case measure => simp [intOf]; omega
            · have hkd' : k = d := by omega
              have hx1 : x = -1 := by have := H3.out (by omega); rw [← hkd', EX.out] at this; exact this
              have HN : Hid (Sha.readOk s.data.toList = false) := Sha.readOk_bad s.data.toList d (by omega) (H3.out (by omega))
              obtain ⟨c0, hR', hR1, _⟩ := hra
              subst hx1
              have HR := Lib.hid hR'
              have HR1 := Lib.hid hR1
              clear hrb hR' hR1 hx hkd'
              go_wp2_with (refine wpList_store_row rfl 24 (.tmp 2) (.tmp 29) rfl w.heap.size (hashArr (List.replicate 32 0)) rfl rfl 24 c0 HR.out (hash_info _ (by simp)) (by rw [HR1.out, hashArr_size]; rfl) (hashArr_one _) ?_)
              refine bodyPost_ret (v := .tuple #[.agg (hashArr (List.replicate 32 0)), .bool false]) (results_row_slot Tryd.results25 _ _ w.heap.size 24 (hashArr (List.replicate 32 0)) (0, 0) _ _ rfl rfl (setRow_heap _ _ _ _ _ _ HR.out) Tryd.underlying24 rfl (hash_info _ (by simp))) rfl ⟨?_, below_setRow hbw (Nat.le_refl _) _⟩
              unfold Sha.readH; rw [HN.out]; rfl
      · have hd64 : decide ((k : Int) < 64) = false := by simp; omega
        have HN : Hid (Sha.readOk s.data.toList = true) := Sha.readOk_of _ (by rw [HL.out, H64.out]) (fun i hi => H2.out i (by omega))
        have hrd : wr.heap[w.heap.size + 1]? = some (.cells (hashArr (Sha.rd s.data.toList)) 24 (0, 0)) := rowIs_hash (Sha.rd_length _) (hrb.congr fun j hj => by
          rw [Sha.rd_getD _ _ hj]
          obtain rfl : k = 64 := by omega
          rfl)
        obtain ⟨c0, hR', hR1, _⟩ := hra
        have HR := Lib.hid hR'
        have HR1 := Lib.hid hR1
        have HRD := Lib.hid hrd
        clear hrb hR' hR1 hrd
        go_wp2_with (first | (refine wpList_load_row rfl 24 (.tmp 4) rfl (w.heap.size + 1) rfl 24 (hashArr (Sha.rd s.data.toList)) (0, 0) _ HRD.out Tryd.underlying24 rfl (hash_info _ (Sha.rd_length _)) ?_) | (refine wpList_store_row rfl 24 (.tmp 2) (.tmp 41) rfl w.heap.size (hashArr (Sha.rd s.data.toList)) rfl rfl 24 c0 HR.out (hash_info _ (Sha.rd_length _)) (by rw [HR1.out, hashArr_size, Sha.rd_length]) (hashArr_one _) ?_))
        refine bodyPost_ret (v := .tuple #[.agg (hashArr (Sha.rd s.data.toList)), .bool true]) (results_row_slot Tryd.results25 _ _ w.heap.size 24 (hashArr (Sha.rd s.data.toList)) (0, 0) _ _ rfl rfl (setRow_heap _ _ _ _ _ _ HR.out) Tryd.underlying24 rfl (hash_info _ (Sha.rd_length _))) rfl ⟨?_, below_setRow hbw (Nat.le_refl _) _⟩
        unfold Sha.readH; rw [HN.out]; rfl
  · have hne : (((s.size : Int)) != 64) = true := by simp; omega
    have HN : Hid (Sha.readOk s.data.toList = false) := Sha.readOk_len _ (by omega)
    clear h64 hlen
    have ba0 := heap_alloc2_old w (.cells (hashArr (List.replicate 32 0)) 24) (.cells (hashArr (List.replicate 32 0)) 24)
    have bb0 := heap_alloc2_new w (.cells (hashArr (List.replicate 32 0)) 24) (.cells (hashArr (List.replicate 32 0)) 24)
    have BA := Lib.hid ba0
    have BB := Lib.hid bb0
    clear ba0 bb0
    go_enter Tryd.func25, Tryd.ntmps25
    go_wp2_with (first | (refine wpList_load_row rfl 24 (.tmp 4) rfl (w.heap.size + 1) rfl 24 (hashArr (List.replicate 32 0)) (0, 0) _ BB.out Tryd.underlying24 rfl (hash_info _ (by simp)) ?_) | (refine wpList_store_row rfl 24 (.tmp 2) (.tmp 11) rfl w.heap.size (hashArr (List.replicate 32 0)) rfl rfl 24 (hashArr (List.replicate 32 0)) BA.out (hash_info _ (by simp)) rfl (hashArr_one _) ?_))
    refine bodyPost_ret (v := .tuple #[.agg (hashArr (List.replicate 32 0)), .bool false]) (results_row_slot Tryd.results25 _ _ w.heap.size 24 (hashArr (List.replicate 32 0)) (0, 0) _ _ rfl rfl (setRow_heap _ _ _ _ _ _ BA.out) Tryd.underlying24 rfl (hash_info _ (by simp))) rfl ⟨?_, below_setRow (((Below.refl _ _).alloc (Nat.le_refl _) _).alloc (by simp) _) (Nat.le_refl _) _⟩
    unfold Sha.readH; rw [HN.out]; rfl
end Go.Proofs.YtkebipklcpplaaaDoor
