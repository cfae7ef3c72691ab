/- The walk of the law DigestLess. -/
import Derived.Test.YtkebipklcpplaaaDoorLess
namespace Go.Proofs.YtkebipklcpplaaaDoor
open Go.RowKit Go.Sort
set_option linter.unusedVariables false

def mixed (a b : List UInt8) (k : Nat) : List UInt8 := (List.range 32).map fun j => (if j < k then a else b).getD j 0
theorem mixed_length (a b : List UInt8) (k : Nat) : (mixed a b k).length = 32 := by simp [mixed]
theorem mixed_getD (a b : List UInt8) (k j : Nat) (h : j < 32) : (mixed a b k).getD j 0 = (if j < k then a else b).getD j 0 := by
  simp [mixed, List.getD_eq_getElem?_getD, List.getElem?_map, List.getElem?_range h]
theorem mixed_step (a b : List UInt8) (k j : Nat) (h : j < 32) : (if j = k then Value.int .u8 ((a.getD k 0).toNat : Int) else Value.int .u8 (((mixed a b k).getD j 0).toNat : Int)) = Value.int .u8 (((mixed a b (k + 1)).getD j 0).toNat : Int) := by
  rw [mixed_getD _ _ _ _ h, mixed_getD _ _ _ _ h]
  by_cases e : j = k
  · subst e; simp
  · rw [if_neg e]
    by_cases e2 : j < k
    · rw [if_pos e2, if_pos (by omega)]
    · rw [if_neg e2, if_neg (by omega)]
theorem mixed_zero (a b : List UInt8) (j : Nat) (h : j < 32) : Value.int .u8 ((b.getD j 0).toNat : Int) = Value.int .u8 (((mixed a b 0).getD j 0).toNat : Int) := by
  rw [mixed_getD _ _ _ _ h]; simp

set_option maxHeartbeats 2000000 in
set_option maxRecDepth 100000 in
theorem walk_DigestLess' (a b : List UInt8) (ha : a.length = 32) (hb : b.length = 32) (same : Int) (hn : -9223372036854775808 ≤ same ∧ same ≤ 9223372036854775807) (w : World) (hT : Tabs w) :
    Calls Tryd.prog 9 #[.agg (hashArr a), .agg (hashArr b), .int .i64 same] w fun e w' => e = .returned (.bool true) ∧ Below w.heap.size w w' := by
  have HT := Lib.hid hT
  clear hT
  go_enter Tryd.func9, Tryd.ntmps9
  go_wp2_with fail
  have HT0 : Hid (Tabs ((w.alloc (.cells (hashArr a) 24)).alloc (.cells (hashArr b) 24))) := HT.out.below (((Below.refl _ _).alloc (Nat.le_refl _) _).alloc (by simp) _)
  have hbl0 : Below w.heap.size w ((w.alloc (.cells (hashArr a) 24)).alloc (.cells (hashArr b) 24)) := ((Below.refl _ _).alloc (Nat.le_refl _) _).alloc (by simp) _
  have ba0 := heap_alloc2_old w (.cells (hashArr a) 24) (.cells (hashArr b) 24)
  have bb0 := heap_alloc2_new w (.cells (hashArr a) 24) (.cells (hashArr b) 24)
  generalize (w.alloc (.cells (hashArr a) 24)).alloc (.cells (hashArr b) 24) = W0 at *
  refine (sanity3_any _ HT0.out).mono ?_
  rintro e w1 ⟨rfl, hb1⟩
  have BA := Lib.hid (heap_below ba0 hb1)
  have BB := Lib.hid (heap_below bb0 hb1)
  have HB := Lib.hid (hbl0.trans (hb1.mono hbl0.size))
  have HA1 := Lib.hid ha
  have HB1 := Lib.hid hb
  clear ba0 bb0 HT0 HT hbl0 hb1 ha hb
  obtain ⟨m, hm⟩ := Int.eq_ofNat_of_zero_le (show 0 ≤ same % 33 from Int.emod_nonneg _ (by omega))
  have hm2 : m ≤ 32 := by omega
  have HM := Lib.hid hm
  clear hm
  go_wp2_with fail
  go_loopw [8] (fun i wr => ∃ k : Nat, k ≤ m ∧ i = .int .i64 k ∧ wr.rowIs w.heap.size 24 32 (fun j => .int .u8 ((a.getD j 0).toNat : Int)) ∧ wr.rowIs (w.heap.size + 1) 24 32 (fun j => .int .u8 (((mixed a b k).getD j 0).toNat : Int)) ∧ Below w.heap.size w wr) (fun i _ => 33 - (intOf i).toNat)
  case atStart => exact ⟨0, by omega, rfl, hash_rowIs HA1.out BA.out, (hash_rowIs HB1.out BB.out).congr (fun j hj => mixed_zero a b j hj), HB.out⟩
  case round =>
    obtain ⟨k, hk, rfl, hra, hrb, hbw⟩ := hrel
    clear BA BB HB
    go_wp2_with fail
    refine (mod_any _ _ _ (by omega) (by omega) (by omega) (by omega)).mono ?_
    rintro e w' ⟨rfl, rfl⟩
    rw [HM.out]
    by_cases hlt : k < m
    · have ca := hra.cell (i := k) (by omega)
      have cb := hrb.cell (i := k) (by omega)
      have fb := hrb.frozen k
      obtain ⟨x, ex⟩ : ∃ x, (a.getD k 0).toNat = x := ⟨_, rfl⟩
      rw [ex] at ca
      have HRA := Lib.hid hra
      have HRB := Lib.hid hrb
      have EX := Lib.hid ex
      clear hra hrb ex
      have q1 : (0 : Int) ≤ (k : Int) := by omega
      have q2 : (k : Int) < 32 := by omega
      go_wp2_with fail
      go_roundw
      case rel =>
        refine ⟨k + 1, by omega, by go_num, HRA.out.setOther (by simp) _, ((HRB.out.set k _).congr fun j hj => ?_), hbw.setCell (by simp) _⟩
        rw [← EX.out]; exact mixed_step a b k j hj
      case measure => simp [intOf]; omega
    · have BBr := Lib.hid (rowIs_hash (mixed_length a b k) hrb)
      have HRA := Lib.hid (rowIs_hash HA1.out hra)
      have HL := Lib.hid (mixed_length a b k)
      clear hra hrb
      have three := less_three a (mixed a b k) HA1.out HL.out
      generalize mixed a b k = c at *
      obtain ⟨x, ex⟩ : ∃ x, Op.bytesLess a c = x := ⟨_, rfl⟩
      obtain ⟨y, ey⟩ : ∃ y, Op.bytesLess c a = y := ⟨_, rfl⟩
      have l1 : ∀ W, Calls Tryd.prog 22 #[.agg (hashArr a), .agg (hashArr c)] W fun e w' => e = .returned (.bool x) ∧ Below W.heap.size W w' := fun W => by rw [← ex]; exact less_any a c HA1.out HL.out W
      have l2 : ∀ W, Calls Tryd.prog 22 #[.agg (hashArr c), .agg (hashArr a)] W fun e w' => e = .returned (.bool y) ∧ Below W.heap.size W w' := fun W => by rw [← ey]; exact less_any c a HL.out HA1.out W
      have r1 : ∀ W, Calls Tryd.prog 23 #[.agg (hashArr a), .agg (hashArr c)] W fun e w' => e = .returned (.bool x) ∧ Below W.heap.size W w' := fun W => by rw [← ex]; exact rless_any a c HA1.out HL.out W
      have r2 : ∀ W, Calls Tryd.prog 23 #[.agg (hashArr c), .agg (hashArr a)] W fun e w' => e = .returned (.bool y) ∧ Below W.heap.size W w' := fun W => by rw [← ey]; exact rless_any c a HL.out HA1.out W
      have cmp : Op.bytesLess (⟨(Sha.text a).toArray⟩ : ByteArray).toList (⟨(Sha.text c).toArray⟩ : ByteArray).toList = x := by
        rw [← ex, ByteArray.toList_eq, ByteArray.toList_eq]; exact less_text a c (by rw [HA1.out, HL.out])
      obtain ⟨ta, eta⟩ : ∃ t : ByteArray, (⟨(Sha.text a).toArray⟩ : ByteArray) = t := ⟨_, rfl⟩
      obtain ⟨tc, etc⟩ : ∃ t : ByteArray, (⟨(Sha.text c).toArray⟩ : ByteArray) = t := ⟨_, rfl⟩
      rw [eta, etc] at cmp
      have t1 : ∀ W, Calls Tryd.prog 20 #[.agg (hashArr a)] W fun e w' => e = .returned (.string ta) ∧ Below W.heap.size W w' := fun W => by rw [← eta]; exact text_any a HA1.out W
      have t2 : ∀ W, Calls Tryd.prog 20 #[.agg (hashArr c)] W fun e w' => e = .returned (.string tc) ∧ Below W.heap.size W w' := fun W => by rw [← etc]; exact text_any c HL.out W
      have heq : ∀ W, (binOp .eql 24 (.agg (hashArr a)) (.agg (hashArr c))).run Tryd.prog W = .ok (.bool (a == c)) W := fun W => hash_eql a c HA1.out HL.out W
      obtain ⟨z, ez⟩ : ∃ z, (a == c) = z := ⟨_, rfl⟩
      have hz : z = decide (a = c) := by rw [← ez]; by_cases e : a = c <;> simp [e]
      rw [ez] at heq
      rw [ex, ey] at three
      have L1 := Lib.hid l1
      have L2 := Lib.hid l2
      have R1 := Lib.hid r1
      have R2 := Lib.hid r2
      have T1 := Lib.hid t1
      have T2 := Lib.hid t2
      have HBW := Lib.hid hbw
      have three' : (x = true ∧ y = false ∧ z = false) ∨ (x = false ∧ y = true ∧ z = false) ∨ (x = false ∧ y = false ∧ z = true) := by
        rcases three with ⟨h1, h2, h3⟩ | ⟨h1, h2, h3⟩ | ⟨h1, h2, h3⟩
        · exact .inl ⟨h1, h2, by rw [hz]; simpa using h3⟩
        · exact .inr (.inl ⟨h1, h2, by rw [hz]; simpa using h3⟩)
        · exact .inr (.inr ⟨h1, h2, by rw [hz]; simpa using h3⟩)
      clear ex ey ez hz l1 l2 r1 r2 t1 t2 eta etc three hbw
      rcases three' with ⟨rfl, rfl, rfl⟩ | ⟨rfl, rfl, rfl⟩ | ⟨rfl, rfl, rfl⟩
      all_goals
        go_wp2_with (first | (refine wpList_load_row rfl 24 (.tmp 3) rfl w.heap.size rfl 24 (hashArr a) (0, 0) _ HRA.out Tryd.underlying24 rfl (hash_info _ HA1.out) ?_) | (refine wpList_load_row rfl 24 (.tmp 4) rfl (w.heap.size + 1) rfl 24 (hashArr c) (0, 0) _ BBr.out Tryd.underlying24 rfl (hash_info _ HL.out) ?_))
        with_reducible refine (L1.out _).mono ?_
        rintro e w2 ⟨rfl, hb2⟩
        have A2 := Lib.hid (heap_below HRA.out hb2)
        have C2 := Lib.hid (heap_below BBr.out hb2)
        go_wp2_with (first | (refine wpList_load_row rfl 24 (.tmp 3) rfl w.heap.size rfl 24 (hashArr a) (0, 0) _ A2.out Tryd.underlying24 rfl (hash_info _ HA1.out) ?_) | (refine wpList_load_row rfl 24 (.tmp 4) rfl (w.heap.size + 1) rfl 24 (hashArr c) (0, 0) _ C2.out Tryd.underlying24 rfl (hash_info _ HL.out) ?_))
        with_reducible refine (L2.out _).mono ?_
        rintro e w3 ⟨rfl, hb3⟩
        have LA := Lib.hid (hash_load HA1.out (heap_below A2.out hb3))
        have LC := Lib.hid (hash_load HL.out (heap_below C2.out hb3))
        have HB3 := Lib.hid (below_join hb2 hb3)
        clear hb2 hb3
        go_wp2_with fail
        refine wp_region_quiet_below (by kernel_rfl) (by kernel_rfl) ?_
        repeat (first | (refine quiet_load_row (by rfl) _ _ rfl _ _ rfl _ LA.out ?_; simp only [Act.put, List.setIfInBounds_toArray, List.set_cons_zero, List.set_cons_succ]) | (refine quiet_load_row (by rfl) _ _ rfl _ _ rfl _ LC.out ?_; simp only [Act.put, List.setIfInBounds_toArray, List.set_cons_zero, List.set_cons_succ]) | go_big_quiet_step ((first | with_reducible exact Calls.regrown_of (R1.out _) | with_reducible exact Calls.regrown_of (R2.out _) | with_reducible exact Calls.regrown_of (T1.out _) | with_reducible exact Calls.regrown_of (T2.out _))))
        refine wpQuiet_nil ?_
        intro _ hw'
        obtain ⟨⟨dq, osq⟩, hw''⟩ := hw'
        subst hw''
        go_wp2_with fail
        go_ret
        exact ⟨by first | rfl | exact ret_bool (by simp), HBW.out.trans ((below_join HB3.out (below_regrown w3 dq osq)).mono HBW.out.size)⟩
theorem walk_DigestLess (x : List Int) (lx : x.length = 32) (y : List Int) (ly : y.length = 32) (same : Int) (wx : ∀ z ∈ x, (Lit.int .u8 z).wf = true) (wy : ∀ z ∈ y, (Lit.int .u8 z).wf = true) (hm : (Lit.int .i64 same).wf = true) (w : World) (hT : Tabs w) :
    Calls Tryd.prog 9 #[.agg (x.map (Value.int .u8)).toArray, .agg (y.map (Value.int .u8)).toArray, .int .i64 same] w fun e w' => e = .returned (.bool true) ∧ Below w.heap.size w w' := by
  obtain ⟨a, ha, ea⟩ := hash_of_ints x wx
  obtain ⟨b, hb, eb⟩ := hash_of_ints y wy
  rw [ea, eb]
  exact walk_DigestLess' a b (by omega) (by omega) same (by simpa [Lit.wf, IntKind.min, IntKind.max, IntKind.signed, IntKind.bits] using hm) w hT
end Go.Proofs.YtkebipklcpplaaaDoor
