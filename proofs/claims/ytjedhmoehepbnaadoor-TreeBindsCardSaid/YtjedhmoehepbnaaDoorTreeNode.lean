/- The contracts of half, Leaf and Node, in the program and in the reference. -/
import Derived.Test.YtjedhmoehepbnaaDoorHashKit
import Derived.Test.YtjedhmoehepbnaaDoorTreeOk
import Derived.Test.YtjedhmoehepbnaaDoorTail
import Derived.Test.YtjedhmoehepbnaaDoorBytes
import Derived.Lib.Hide
namespace Go.Proofs.YtjedhmoehepbnaaDoor
open Go.RowKit Go.Sort
set_option linter.unusedVariables false

set_option maxHeartbeats 400000 in
theorem half_any (n : Nat) (w : World) (h2 : 2 ≤ n) (hn : n ≤ 9223372036854775807) :
    Calls Tryd.prog 39 #[.int .i64 (n : Int)] w fun e w' => e = .returned (.int .i64 (Tree.half n : Nat)) ∧ w = w' := by
  go_enter Tryd.func39, Tryd.ntmps39
  go_wp2_with fail
  go_loop [3, 4] (fun k i => ∃ (j x e : Nat), j ≤ 62 ∧ i = .int .i64 j ∧ k = .int .i64 (x : Int) ∧ Hid (x = 2 ^ e) ∧ x < n ∧ 1 ≤ x ∧ (e ≤ j ∧ (e < j → n ≤ 2 * x))) (fun _ i => 62 - (intOf i).toNat)
  case atStart => exact ⟨0, 1, 0, by omega, rfl, rfl, rfl, by omega, by omega, by omega⟩
  case round =>
    obtain ⟨j, x, e, hj, rfl, rfl, hx, hxn, hx1, hej⟩ := hrel
    by_cases hj62 : j < 62
    · by_cases hlt : 2 * x < n
      · have d1 : decide ((x : Int) < (n : Int) - (x : Int)) = true := by simp; omega
        go_wp2_with fail
        go_round
        case rel => exact ⟨j + 1, x * 2, e + 1, by omega, by go_num, by go_num, (by show x * 2 = 2 ^ (e + 1); rw [Nat.pow_succ, hx.out]), by omega, by omega, by omega⟩
        case measure => simp [intOf]; omega
      · have d1 : decide ((x : Int) < (n : Int) - (x : Int)) = false := by simp; omega
        go_wp2_with fail
        go_round
        case rel => exact ⟨j + 1, x, e, by omega, by go_num, rfl, hx, hxn, hx1, by omega⟩
        case measure => simp [intOf]; omega
    · have d62 : decide ((j : Int) < 62) = false := by simp; omega
      have hh : x = Tree.half n := by
        rw [hx.out]
        have hle : n ≤ 2 * x := by
          rcases Nat.lt_or_ge e j with h | h
          · exact hej.2 h
          · obtain rfl : e = 62 := by omega
            rw [hx.out]
            have : (2 : Nat) ^ 62 = 4611686018427387904 := by decide
            omega
        exact Tree.half_unique n e (by rw [← hx.out]; exact hxn) (by rw [← hx.out]; exact hle)
      rw [hh]
      clear hh hx hej
      go_wp2_with fail
      go_ret
      exact ⟨rfl, rfl⟩
set_option maxHeartbeats 400000 in
theorem rhalf_any (n : Nat) (w : World) (h2 : 2 ≤ n) (hn : n ≤ 9223372036854775807) :
    Calls Tryd.prog 40 #[.int .i64 (n : Int)] w fun e w' => e = .returned (.int .i64 (Tree.half n : Nat)) ∧ w = w' := by
  go_enter Tryd.func40, Tryd.ntmps40
  go_wp2_with fail
  go_loop [3] (fun k => ∃ (x e : Nat), k = .int .i64 (x : Int) ∧ Hid (x = 2 ^ e) ∧ x < n ∧ 1 ≤ x) (fun k => n - (intOf k).toNat)
  case atStart => exact ⟨1, 0, rfl, rfl, by omega, by omega⟩
  case round =>
    obtain ⟨x, e, rfl, hx, hxn, hx1⟩ := hrel
    by_cases hlt : 2 * x < n
    · have d1 : decide ((x : Int) < (n : Int) - (x : Int)) = true := by simp; omega
      go_wp2_with fail
      go_round
      case rel => exact ⟨x * 2, e + 1, by go_num, (by show x * 2 = 2 ^ (e + 1); rw [Nat.pow_succ, hx.out]), by omega, by omega⟩
      case measure => simp [intOf]; omega
    · have d1 : decide ((x : Int) < (n : Int) - (x : Int)) = false := by simp; omega
      have hh : x = Tree.half n := by
        rw [hx.out]
        exact Tree.half_unique n e (by rw [← hx.out]; exact hxn) (by rw [← hx.out]; omega)
      have HH := Lib.hid hh
      clear hh hx
      go_wp2_with fail
      go_ret
      exact ⟨ret_int (by rw [HH.out]), rfl⟩

theorem one_append (c : UInt8) (s : ByteArray) : ((⟨#[c]⟩ : ByteArray) ++ s).data.toList = c :: s.data.toList := by
  rw [ByteArray.data_append]; simp
theorem one_size (c : UInt8) (s : ByteArray) : ((⟨#[c]⟩ : ByteArray) ++ s).size = s.size + 1 := by
  rw [ByteArray.size_append, show (⟨#[c]⟩ : ByteArray).size = 1 from rfl]; omega
set_option maxHeartbeats 400000 in
theorem leaf_any (s : ByteArray) (h : List UInt8) (w : World) (hs : s.size ≤ 140737488354000) (hT : Tabs w) (hh : Tree.leaf s = h) :
    Calls Tryd.prog 14 #[.string s] w fun e w' => e = .returned (.agg (hashArr h)) ∧ Below w.heap.size w w' := by
  have hl : h.length = 32 := by rw [← hh]; exact Tree.leaf_length s
  have eh : Sha.sum ((⟨#[0]⟩ : ByteArray) ++ s).data.toList = h := by rw [one_append]; exact hh
  have n1 : ¬ 9223372036854775807 < 1 + s.size := by omega
  have EH := Lib.hid eh
  have LH := Lib.hid hl
  have HS : Hid (((⟨#[0]⟩ : ByteArray) ++ s).size ≤ 140737488355000) := by show _ ≤ _; rw [one_size]; omega
  have hb0 : Below w.heap.size w (w.alloc (.cells (hashArr (List.replicate 32 0)) 24)) := (Below.refl _ _).alloc (Nat.le_refl _) _
  have HT0 := Lib.hid (hT.below hb0)
  have BA := Lib.hid (heap_alloc_new w (.cells (hashArr (List.replicate 32 0)) 24))
  clear eh hl hh hT
  go_enter Tryd.func14, Tryd.ntmps14
  go_wp2_with fail
  rw [zero_hash]
  generalize w.alloc (.cells (hashArr (List.replicate 32 0)) 24) = W0 at *
  refine (sum_is _ h _ HS.out HT0.out EH.out).mono ?_
  rintro e w1 ⟨rfl, hb1⟩
  have BA1 := Lib.hid (heap_below BA.out hb1)
  go_wp2_with (refine wpList_store_row rfl 24 (.tmp 2) (.tmp 5) rfl w.heap.size (hashArr h) rfl rfl 24 _ BA1.out (hash_info _ LH.out) (by rw [hashArr_size, hashArr_size, LH.out]; rfl) (hashArr_one _) ?_)
  refine bodyPost_ret (v := .agg (hashArr h)) (results_cell_row Tryd.results14 _ _ w.heap.size 24 (hashArr h) (0, 0) _ rfl (setRow_heap _ _ _ _ _ _ BA1.out) Tryd.underlying24 rfl (hash_info _ LH.out)) rfl ⟨rfl, ?_⟩
  exact below_setRow (hb0.trans (hb1.mono hb0.size)) (Nat.le_refl _) _
set_option maxHeartbeats 400000 in
theorem rleaf_any (s : ByteArray) (h : List UInt8) (w : World) (hs : s.size ≤ 140737488354000) (hh : Tree.leaf s = h) :
    Calls Tryd.prog 15 #[.string s] w fun e w' => e = .returned (.agg (hashArr h)) ∧ Below w.heap.size w w' := by
  have hl : h.length = 32 := by rw [← hh]; exact Tree.leaf_length s
  have eh : Sha.sum ((⟨#[0]⟩ : ByteArray) ++ s).data.toList = h := by rw [one_append]; exact hh
  have n1 : ¬ 9223372036854775807 < 1 + s.size := by omega
  have EH := Lib.hid eh
  have LH := Lib.hid hl
  have HS : Hid (((⟨#[0]⟩ : ByteArray) ++ s).size ≤ 140737488355000) := by show _ ≤ _; rw [one_size]; omega
  have hb0 : Below w.heap.size w (w.alloc (.cells (hashArr (List.replicate 32 0)) 24)) := (Below.refl _ _).alloc (Nat.le_refl _) _
  have BA := Lib.hid (heap_alloc_new w (.cells (hashArr (List.replicate 32 0)) 24))
  clear eh hl hh
  go_enter Tryd.func15, Tryd.ntmps15
  go_wp2_with fail
  rw [zero_hash]
  generalize w.alloc (.cells (hashArr (List.replicate 32 0)) 24) = W0 at *
  refine (rsum_is _ h _ HS.out EH.out).mono ?_
  rintro e w1 ⟨rfl, hb1⟩
  have BA1 := Lib.hid (heap_below BA.out hb1)
  go_wp2_with (refine wpList_store_row rfl 24 (.tmp 2) (.tmp 5) rfl w.heap.size (hashArr h) rfl rfl 24 _ BA1.out (hash_info _ LH.out) (by rw [hashArr_size, hashArr_size, LH.out]; rfl) (hashArr_one _) ?_)
  refine bodyPost_ret (v := .agg (hashArr h)) (results_cell_row Tryd.results15 _ _ w.heap.size 24 (hashArr h) (0, 0) _ rfl (setRow_heap _ _ _ _ _ _ BA1.out) Tryd.underlying24 rfl (hash_info _ LH.out)) rfl ⟨rfl, ?_⟩
  exact below_setRow (hb0.trans (hb1.mono hb0.size)) (Nat.le_refl _) _
/-- 'string(a[:])' of a hash that lies in memory -/
theorem conv_hash {w : World} {b : Nat} {l : List UInt8} {t : TypeId} {fr : Nat × Nat} (hl : l.length = 32) (hb : w.heap[b]? = some (.cells (hashArr l) t fr)) :
    (convert 30 9 (.slice (some ⟨b, 0, none⟩) 32 32)).run Tryd.prog w = .ok (.string ⟨l.toArray⟩) w := by
  have e : ((List.range 32).map fun i => UInt8.ofNat ((fun i => (l.getD i 0).toNat) i)) = l := by
    apply List.ext_getElem?
    intro i
    by_cases hi : i < 32
    · rw [List.getElem?_map, List.getElem?_range hi, List.getElem?_eq_getElem (show i < l.length by omega)]
      simp [List.getD_eq_getElem?_getD, List.getElem?_eq_getElem (show i < l.length by omega)]
    · rw [List.getElem?_eq_none (by simp; omega), List.getElem?_eq_none (by omega)]
  have := conv_row (P := Tryd.prog) (T := 24) (w := w) (b := b) (n := 32) (c := 32) (g := fun i => (l.getD i 0).toNat) Tryd.underlying30 Tryd.underlying5 Tryd.underlying9 (fun i hi => hash_cell hl hb i hi)
  rw [e] at this
  exact this
theorem conv_regrown {w : World} {b : Nat} {l : List UInt8} {t : TypeId} {fr : Nat × Nat} (hl : l.length = 32) (hb : w.heap[b]? = some (.cells (hashArr l) t fr)) (d : Nat) (os : Array Obj) :
    (convert 30 9 (.slice (some ⟨b, 0, none⟩) 32 32)).run Tryd.prog (grow (redrawn w d) os) = .ok (.string ⟨l.toArray⟩) (grow (redrawn w d) os) :=
  conv_hash hl (heap_below hb (below_regrown w d os))
theorem node_text (a b : List UInt8) : ((⟨#[1]⟩ : ByteArray) ++ ⟨a.toArray⟩ ++ ⟨b.toArray⟩).data.toList = 1 :: (a ++ b) := by
  rw [ByteArray.data_append, ByteArray.data_append]; simp
theorem node_size (a b : List UInt8) (ha : a.length = 32) (hb : b.length = 32) : ((⟨#[1]⟩ : ByteArray) ++ ⟨a.toArray⟩ ++ ⟨b.toArray⟩).size = 65 := by
  rw [ByteArray.size_append, ByteArray.size_append, show (⟨#[1]⟩ : ByteArray).size = 1 from rfl, show (⟨a.toArray⟩ : ByteArray).size = a.length from by simp [ByteArray.size], show (⟨b.toArray⟩ : ByteArray).size = b.length from by simp [ByteArray.size], ha, hb]
set_option maxHeartbeats 1000000 in
theorem node_any (a b h : List UInt8) (ha : a.length = 32) (hb : b.length = 32) (w : World) (hT : Tabs w) (hh : Tree.node a b = h) :
    Calls Tryd.prog 18 #[.agg (hashArr a), .agg (hashArr b)] w fun e w' => e = .returned (.agg (hashArr h)) ∧ Below w.heap.size w w' := by
  have hl : h.length = 32 := by rw [← hh]; exact Tree.node_length a b
  have eh : Sha.sum ((⟨#[1]⟩ : ByteArray) ++ ⟨a.toArray⟩ ++ ⟨b.toArray⟩).data.toList = h := by rw [node_text]; exact hh
  have za : (⟨a.toArray⟩ : ByteArray).size = 32 := by simp [ByteArray.size, ha]
  have zb : (⟨b.toArray⟩ : ByteArray).size = 32 := by simp [ByteArray.size, hb]
  have HS : ((⟨#[1]⟩ : ByteArray) ++ ⟨a.toArray⟩ ++ ⟨b.toArray⟩).size ≤ 140737488355000 := by rw [node_size a b ha hb]; omega
  obtain ⟨sa, esa⟩ : ∃ s : ByteArray, (⟨a.toArray⟩ : ByteArray) = s := ⟨_, rfl⟩
  obtain ⟨sb, esb⟩ : ∃ s : ByteArray, (⟨b.toArray⟩ : ByteArray) = s := ⟨_, rfl⟩
  rw [esa, esb] at eh HS
  rw [esa] at za
  rw [esb] at zb
  have n1 : ¬ 9223372036854775807 < 1 + sa.size := by omega
  have n2 : ¬ 9223372036854775807 < 1 + sa.size + sb.size := by omega
  have HS := Lib.hid HS
  have EH := Lib.hid eh
  have LH := Lib.hid hl
  have HA := Lib.hid ha
  have HB := Lib.hid hb
  have hb0 : Below w.heap.size w (((w.alloc (.cells (hashArr a) 24)).alloc (.cells (hashArr b) 24)).alloc (.cells (hashArr (List.replicate 32 0)) 24)) := (((Below.refl _ _).alloc (Nat.le_refl _) _).alloc (by simp) _).alloc (by simp; omega) _
  have hb1 : Below ((w.alloc (.cells (hashArr a) 24)).alloc (.cells (hashArr b) 24)).heap.size ((w.alloc (.cells (hashArr a) 24)).alloc (.cells (hashArr b) 24)) (((w.alloc (.cells (hashArr a) 24)).alloc (.cells (hashArr b) 24)).alloc (.cells (hashArr (List.replicate 32 0)) 24)) := (Below.refl _ _).alloc (Nat.le_refl _) _
  have HT0 := Lib.hid (hT.below hb0)
  have BA := Lib.hid (heap_below (heap_alloc2_old w (.cells (hashArr a) 24) (.cells (hashArr b) 24)) hb1)
  have BB := Lib.hid (heap_below (heap_alloc2_new w (.cells (hashArr a) 24) (.cells (hashArr b) 24)) hb1)
  have br := heap_alloc_new ((w.alloc (.cells (hashArr a) 24)).alloc (.cells (hashArr b) 24)) (.cells (hashArr (List.replicate 32 0)) 24)
  rw [show ((w.alloc (.cells (hashArr a) 24)).alloc (.cells (hashArr b) 24)).heap.size = w.heap.size + 1 + 1 by simp] at br
  have BR := Lib.hid br
  clear br hb1 hT hh hl eh za zb ha hb
  go_enter Tryd.func18, Tryd.ntmps18
  go_wp2_with fail
  rw [zero_hash]
  generalize ((w.alloc (.cells (hashArr a) 24)).alloc (.cells (hashArr b) 24)).alloc (.cells (hashArr (List.replicate 32 0)) 24) = W0 at *
  have CA := conv_regrown HA.out BA.out
  have CB := conv_regrown HB.out BB.out
  rw [esa] at CA
  rw [esb] at CB
  clear esa esb
  refine wp_region_tail_below 7 (by kernel_rfl) (by kernel_rfl) ?_
  simp only [List.take_succ_cons, List.take_zero, List.drop_succ_cons, List.drop_zero]
  repeat (first | go_big_quiet_step ((with_reducible exact Calls.regrown_of (sum_is _ h _ HS.out (HT0.out.below (below_regrown _ _ _)) EH.out))))
  refine wpQuiet_nil ?_
  intro _ hw'
  obtain ⟨⟨dq, osq⟩, hw''⟩ := hw'
  subst hw''
  have hq := below_regrown W0 dq osq
  have BR1 := Lib.hid (heap_below BR.out hq)
  have HBQ := Lib.hid (hb0.trans (hq.mono hb0.size))
  clear CA CB hq
  generalize grow (redrawn W0 dq) osq = W1 at *
  go_wp2_with (refine wpList_store_row rfl 24 (.tmp 4) (.tmp 11) rfl (w.heap.size + 1 + 1) (hashArr h) rfl rfl 24 _ BR1.out (hash_info _ LH.out) (by rw [hashArr_size, hashArr_size, LH.out]; rfl) (hashArr_one _) ?_)
  refine bodyPost_ret (v := .agg (hashArr h)) (results_cell_row Tryd.results18 _ _ (w.heap.size + 1 + 1) 24 (hashArr h) (0, 0) _ rfl (setRow_heap _ _ _ _ _ _ BR1.out) Tryd.underlying24 rfl (hash_info _ LH.out)) rfl ⟨rfl, ?_⟩
  exact below_setRow HBQ.out (by omega) _
set_option maxHeartbeats 1000000 in
theorem rnode_any (a b h : List UInt8) (ha : a.length = 32) (hb : b.length = 32) (w : World) (hh : Tree.node a b = h) :
    Calls Tryd.prog 19 #[.agg (hashArr a), .agg (hashArr b)] w fun e w' => e = .returned (.agg (hashArr h)) ∧ Below w.heap.size w w' := by
  have hl : h.length = 32 := by rw [← hh]; exact Tree.node_length a b
  have eh : Sha.sum ((⟨#[1]⟩ : ByteArray) ++ ⟨a.toArray⟩ ++ ⟨b.toArray⟩).data.toList = h := by rw [node_text]; exact hh
  have za : (⟨a.toArray⟩ : ByteArray).size = 32 := by simp [ByteArray.size, ha]
  have zb : (⟨b.toArray⟩ : ByteArray).size = 32 := by simp [ByteArray.size, hb]
  have HS : ((⟨#[1]⟩ : ByteArray) ++ ⟨a.toArray⟩ ++ ⟨b.toArray⟩).size ≤ 140737488355000 := by rw [node_size a b ha hb]; omega
  obtain ⟨sa, esa⟩ : ∃ s : ByteArray, (⟨a.toArray⟩ : ByteArray) = s := ⟨_, rfl⟩
  obtain ⟨sb, esb⟩ : ∃ s : ByteArray, (⟨b.toArray⟩ : ByteArray) = s := ⟨_, rfl⟩
  rw [esa, esb] at eh HS
  rw [esa] at za
  rw [esb] at zb
  have n1 : ¬ 9223372036854775807 < 1 + sa.size := by omega
  have n2 : ¬ 9223372036854775807 < 1 + sa.size + sb.size := by omega
  have HS := Lib.hid HS
  have EH := Lib.hid eh
  have LH := Lib.hid hl
  have HA := Lib.hid ha
  have HB := Lib.hid hb
  have hb0 : Below w.heap.size w (((w.alloc (.cells (hashArr a) 24)).alloc (.cells (hashArr b) 24)).alloc (.cells (hashArr (List.replicate 32 0)) 24)) := (((Below.refl _ _).alloc (Nat.le_refl _) _).alloc (by simp) _).alloc (by simp; omega) _
  have hb1 : Below ((w.alloc (.cells (hashArr a) 24)).alloc (.cells (hashArr b) 24)).heap.size ((w.alloc (.cells (hashArr a) 24)).alloc (.cells (hashArr b) 24)) (((w.alloc (.cells (hashArr a) 24)).alloc (.cells (hashArr b) 24)).alloc (.cells (hashArr (List.replicate 32 0)) 24)) := (Below.refl _ _).alloc (Nat.le_refl _) _
  have BA := Lib.hid (heap_below (heap_alloc2_old w (.cells (hashArr a) 24) (.cells (hashArr b) 24)) hb1)
  have BB := Lib.hid (heap_below (heap_alloc2_new w (.cells (hashArr a) 24) (.cells (hashArr b) 24)) hb1)
  have br := heap_alloc_new ((w.alloc (.cells (hashArr a) 24)).alloc (.cells (hashArr b) 24)) (.cells (hashArr (List.replicate 32 0)) 24)
  rw [show ((w.alloc (.cells (hashArr a) 24)).alloc (.cells (hashArr b) 24)).heap.size = w.heap.size + 1 + 1 by simp] at br
  have BR := Lib.hid br
  clear br hb1 hh hl eh za zb ha hb
  go_enter Tryd.func19, Tryd.ntmps19
  go_wp2_with fail
  rw [zero_hash]
  generalize ((w.alloc (.cells (hashArr a) 24)).alloc (.cells (hashArr b) 24)).alloc (.cells (hashArr (List.replicate 32 0)) 24) = W0 at *
  have CA := conv_regrown HA.out BA.out
  have CB := conv_regrown HB.out BB.out
  rw [esa] at CA
  rw [esb] at CB
  clear esa esb
  refine wp_region_tail_below 7 (by kernel_rfl) (by kernel_rfl) ?_
  simp only [List.take_succ_cons, List.take_zero, List.drop_succ_cons, List.drop_zero]
  repeat (first | go_big_quiet_step ((with_reducible exact Calls.regrown_of (rsum_is _ h _ HS.out EH.out))))
  refine wpQuiet_nil ?_
  intro _ hw'
  obtain ⟨⟨dq, osq⟩, hw''⟩ := hw'
  subst hw''
  have hq := below_regrown W0 dq osq
  have BR1 := Lib.hid (heap_below BR.out hq)
  have HBQ := Lib.hid (hb0.trans (hq.mono hb0.size))
  clear CA CB hq
  generalize grow (redrawn W0 dq) osq = W1 at *
  go_wp2_with (refine wpList_store_row rfl 24 (.tmp 4) (.tmp 11) rfl (w.heap.size + 1 + 1) (hashArr h) rfl rfl 24 _ BR1.out (hash_info _ LH.out) (by rw [hashArr_size, hashArr_size, LH.out]; rfl) (hashArr_one _) ?_)
  refine bodyPost_ret (v := .agg (hashArr h)) (results_cell_row Tryd.results19 _ _ (w.heap.size + 1 + 1) 24 (hashArr h) (0, 0) _ rfl (setRow_heap _ _ _ _ _ _ BR1.out) Tryd.underlying24 rfl (hash_info _ LH.out)) rfl ⟨rfl, ?_⟩
  exact below_setRow HBQ.out (by omega) _
end Go.Proofs.YtjedhmoehepbnaaDoor
