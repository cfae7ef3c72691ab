/- Postings by numbers: contracts of Posting and postings. -/
import Derived.Test.YtfligfompdcddaaGreatDoorLedAcc
import Derived.Laws.CopyOwn
namespace Go.Proofs.YtfligfompdcddaaGreatDoor
open Go.RowKit Go.Sort Go.Maps
set_option linter.unusedVariables false
set_option maxHeartbeats 4000000 in
set_option maxRecDepth 100000 in
theorem posting_any (a : Num) (w : World) : Calls Tryz.prog 24 #[.agg a.arr] w fun e w' => e = .returned (.agg (Led.pst a).arr) ∧ Below w.heap.size w w' := by
  obtain ⟨k, s, d, n⟩ := a
  show Calls Tryz.prog 24 #[.agg #[.int .i64 k, .int .i64 s, .int .i64 d, .int .i64 n]] w _
  have l1 := Int.tmod_lt_of_pos k (show (0 : Int) < 12 by omega)
  have l2 := Int.lt_tmod_of_pos k (show (0 : Int) < 12 by omega)
  have l3 : 0 ≤ k.tmod 12 + 12 := by omega
  have l4 : k.tmod 12 + 12 ≤ 23 := by omega
  have r1 : 0 ≤ (k.tmod 12 + 12) % 12 := by omega
  have r2 : (k.tmod 12 + 12) % 12 ≤ 11 := by omega
  have hA := heap_alloc_new w (.cells #[.int .i64 k, .int .i64 s, .int .i64 d, .int .i64 n] 48)
  go_enter Tryz.func24, Tryz.ntmps24
  go_wp2_with fail
  have hb0 : Below w.heap.size w ((w.alloc (.cells #[.int .i64 k, .int .i64 s, .int .i64 d, .int .i64 n] 48)).alloc (.cells #[.string ⟨#[]⟩, .string ⟨#[]⟩, .string ⟨#[]⟩, .int .i64 0] 24)) := ((Below.refl _ _).alloc (Nat.le_refl _) _).alloc (by simp) _
  have gA := heap_below (heap_alloc_new w (.cells #[.int .i64 k, .int .i64 s, .int .i64 d, .int .i64 n] 48)) ((Below.refl _ _).alloc (Nat.le_refl _) (.cells #[.string ⟨#[]⟩, .string ⟨#[]⟩, .string ⟨#[]⟩, .int .i64 0] 24))
  have gB := heap_alloc_new (w.alloc (.cells #[.int .i64 k, .int .i64 s, .int .i64 d, .int .i64 n] 48)) (.cells #[.string ⟨#[]⟩, .string ⟨#[]⟩, .string ⟨#[]⟩, .int .i64 0] 24)
  rw [show (w.alloc (.cells #[.int .i64 k, .int .i64 s, .int .i64 d, .int .i64 n] 48)).heap.size = w.heap.size + 1 by simp] at gB
  have CD := decimal_any (k.tmod 12 % 12)
  generalize (w.alloc (.cells #[.int .i64 k, .int .i64 s, .int .i64 d, .int .i64 n] 48)).alloc (.cells #[.string ⟨#[]⟩, .string ⟨#[]⟩, .string ⟨#[]⟩, .int .i64 0] 24) = W0 at *
  go_at_call 45
  refine (CD _ (by omega) (by omega)).mono ?_
  rintro e w1 ⟨rfl, H1⟩
  have hA1 := heap_below gA H1
  have hB1 := heap_below gB H1
  have hb1 := hb0.trans (H1.mono hb0.size)
  have eS : ¬ (9223372036854775807 : Int) < 1 + (bstr (Lib.itoa (k.tmod 12 % 12))).size := by
    have := Led.itoa_small (z := k.tmod 12 % 12) (by omega) (by omega)
    rw [bstr_size]
    omega
  have ca0 : w1.cell? ⟨w.heap.size, 0, none⟩ = some (.int .i64 k) := (cell_of_row _ _ 0 _ _ _ hA1).trans rfl
  have CA := Lib.hid account_any
  have p1 : ∀ dd os, (grow (redrawn w1 dd) os).cell? ⟨w.heap.size, 1, none⟩ = some (.int .i64 s) := fun dd os => (cell_of_row _ _ 1 _ _ _ (heap_below hA1 (below_regrown w1 dd os))).trans rfl
  have p2 : ∀ dd os, (grow (redrawn w1 dd) os).cell? ⟨w.heap.size, 2, none⟩ = some (.int .i64 d) := fun dd os => (cell_of_row _ _ 2 _ _ _ (heap_below hA1 (below_regrown w1 dd os))).trans rfl
  have p3 : ∀ dd os, (grow (redrawn w1 dd) os).cell? ⟨w.heap.size, 3, none⟩ = some (.int .i64 n) := fun dd os => (cell_of_row _ _ 3 _ _ _ (heap_below hA1 (below_regrown w1 dd os))).trans rfl
  have HB := Lib.hid hB1
  have HBB := Lib.hid hb1
  have hl := Lib.hid (block_lt_of_cell ca0)
  obtain ⟨key, EK⟩ : ∃ key, Hid (Led.ky k = key) := ⟨_, rfl⟩
  have EQ : Hid ((Led.pst ⟨k, s, d, n⟩).arr = #[.string key, .string (Led.acc s), .string (Led.acc d), .int .i64 n]) := by
    show _ = _
    unfold Led.pst Pst.arr
    rw [EK.out]
  clear gA gB CD hb0 H1 hA1 hB1 hb1 hA
  by_cases ht : k.tmod 31 = 30
  · have hk : key = ⟨#[]⟩ := by rw [← EK.out]; unfold Led.ky; rw [if_pos ht]
    have dt : (k.tmod 31 == 30) = true := by rw [ht]; rfl
    go_wp2_with fail
    refine wp_region_tail_below 10 (by kernel_rfl) (by kernel_rfl) ?_
    simp only [List.take_succ_cons, List.take_zero, List.drop_succ_cons, List.drop_zero]
    repeat (first | go_big_quiet_step ((with_reducible exact Calls.regrown_of (CA.out _ _))))
    refine wpQuiet_nil ?_
    intro _ hw'
    obtain ⟨⟨dq, osq⟩, hw''⟩ := hw'
    subst hw''
    have hq := below_regrown w1 dq osq
    have BR1 := Lib.hid (heap_below HB.out hq)
    have HBQ := Lib.hid (HBB.out.trans (hq.mono HBB.out.size))
    generalize grow (redrawn w1 dq) osq = W1 at *
    refine wpList_store_row rfl 24 (.tmp 2) (.tmp 24) rfl (w.heap.size + 1) #[.string ⟨#[]⟩, .string (Led.acc s), .string (Led.acc d), .int .i64 n] rfl rfl 24 _ BR1.out (by kernel_rfl) rfl (by simp [Value.oneCell']) ?_
    go_wp2_with fail
    refine bodyPost_ret (v := .agg #[.string ⟨#[]⟩, .string (Led.acc s), .string (Led.acc d), .int .i64 n]) (results_cell_row Tryz.results24 _ _ (w.heap.size + 1) 24 #[.string ⟨#[]⟩, .string (Led.acc s), .string (Led.acc d), .int .i64 n] (0, 0) _ rfl (setRow_heap _ _ _ _ _ _ BR1.out) Tryz.underlying24 rfl (by kernel_rfl)) rfl ⟨?_, ?_⟩
    · rw [EQ.out, hk]
    · exact below_setRow HBQ.out (by omega) _
  · have hk : key = ⟨#[107]⟩ ++ bstr (Lib.itoa (k.tmod 12 % 12)) := by rw [← EK.out]; unfold Led.ky; rw [if_neg ht, Int.add_emod_right]
    have dt : (k.tmod 31 == 30) = false := by simp; exact ht
    go_wp2_with fail
    refine wp_region_tail_below 10 (by kernel_rfl) (by kernel_rfl) ?_
    simp only [List.take_succ_cons, List.take_zero, List.drop_succ_cons, List.drop_zero]
    repeat (first | go_big_quiet_step ((with_reducible exact Calls.regrown_of (CA.out _ _))))
    refine wpQuiet_nil ?_
    intro _ hw'
    obtain ⟨⟨dq, osq⟩, hw''⟩ := hw'
    subst hw''
    have hq := below_regrown w1 dq osq
    have BR1 := Lib.hid (heap_below HB.out hq)
    have HBQ := Lib.hid (HBB.out.trans (hq.mono HBB.out.size))
    generalize grow (redrawn w1 dq) osq = W1 at *
    refine wpList_store_row rfl 24 (.tmp 2) (.tmp 24) rfl (w.heap.size + 1) #[.string (⟨#[107]⟩ ++ bstr (Lib.itoa (k.tmod 12 % 12))), .string (Led.acc s), .string (Led.acc d), .int .i64 n] rfl rfl 24 _ BR1.out (by kernel_rfl) rfl (by simp [Value.oneCell']) ?_
    go_wp2_with fail
    refine bodyPost_ret (v := .agg #[.string (⟨#[107]⟩ ++ bstr (Lib.itoa (k.tmod 12 % 12))), .string (Led.acc s), .string (Led.acc d), .int .i64 n]) (results_cell_row Tryz.results24 _ _ (w.heap.size + 1) 24 #[.string (⟨#[107]⟩ ++ bstr (Lib.itoa (k.tmod 12 % 12))), .string (Led.acc s), .string (Led.acc d), .int .i64 n] (0, 0) _ rfl (setRow_heap _ _ _ _ _ _ BR1.out) Tryz.underlying24 rfl (by kernel_rfl)) rfl ⟨?_, ?_⟩
    · rw [EQ.out, hk]
    · exact below_setRow HBQ.out (by omega) _
end Go.Proofs.YtfligfompdcddaaGreatDoor
