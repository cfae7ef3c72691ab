/- The walk of the law DigestReads. -/
import Derived.Test.YtkebipklcpplaaaDoorRefRead
import Derived.Deep.RegionHeld3
import Derived.Deep.DeepCutAuto
namespace Go.Proofs.YtkebipklcpplaaaDoor
open Go.RowKit Go.Sort
set_option linter.unusedVariables false

theorem conv_cell {P : Program} {S D E : TypeId} (hs : P.underlying S = some (.slice E)) (he : P.underlying E = some (.int .u8)) (hd : P.underlying D = some .string) (W : World) (b : Nat) (x : Int) (hc : W.cell? ⟨b, 0, none⟩ = some (.int .u8 x)) :
    (convert S D (.slice (some ⟨b, 0, none⟩) 1 1)).run P W = .ok (.string ⟨#[UInt8.ofNat x.toNat]⟩) W := by
  rw [run_convert_bytes_string _ S D E _ 1 1 hs he hd, run_bytesToString _ ⟨b, 0, none⟩ 1 1 [x] ?_]
  · rfl
  · have h := run_loadCells_list (P := P) W ⟨b, 0, none⟩ [Value.int .u8 x] (fun j v hv => by
      match j with
      | 0 =>
        injection hv with hv
        subst hv
        rw [add_none]; exact hc
      | j + 1 => simp at hv)
    exact h
/-- what the five texts leave -/
def FiveTexts (W : World) (v : Value) (wx : World) : Prop :=
  ∃ (g : Nat) (xs : Nat → ByteArray), v = .pointer (some ⟨g, 0, none⟩) ∧ wx.rowIs g 39 5 (fun j => .string (xs j)) ∧ (∀ j, j < 5 → (xs j).size ≤ maxLen) ∧ Below W.heap.size W wx
theorem five_mk {W wx : World} {g : Nat} (x0 x1 x2 x3 x4 : ByteArray) (h : wx.heap[g]? = some (.cells #[.string x0, .string x1, .string x2, .string x3, .string x4] 39 (0, 0))) (h0 : x0.size ≤ maxLen) (h1 : x1.size ≤ 200) (h2 : x2.size ≤ 200) (h3 : x3.size ≤ 200) (h4 : x4.size ≤ 200) (hb : Below W.heap.size W wx) :
    FiveTexts W (.pointer (some ⟨g, 0, none⟩)) wx := by
  refine ⟨g, fun j => [x0, x1, x2, x3, x4].getD j x0, rfl, ⟨_, h, rfl, fun i hi => ?_⟩, fun j hj => ?_, hb⟩
  · match i, hi with
    | 0, _ => rfl
    | 1, _ => rfl
    | 2, _ => rfl
    | 3, _ => rfl
    | 4, _ => rfl
  · unfold maxLen at *
    match j, hj with
    | 0, _ => exact h0
    | 1, _ => show x1.size ≤ _; omega
    | 2, _ => show x2.size ≤ _; omega
    | 3, _ => show x3.size ≤ _; omega
    | 4, _ => show x4.size ≤ _; omega
theorem hash_neq (a : List UInt8) (ha : a.length = 32) (w : World) : (binOp .neq 24 (.agg (hashArr a)) (.agg (hashArr a))).run Tryd.prog w = .ok (.bool false) w := by
  have := run_equalIn_bytes (P := Tryd.prog) w 9998 24 5 32 Tryd.underlying24 Tryd.underlying5 Tryd.sizeOf5 a a ha ha
  rw [run_neq_struct]
  show (Result.andThen ((Op.equalIn (9998 + 2) 24 (.agg (hashArr a)) (.agg (hashArr a))).run Tryd.prog w) _) = _
  rw [show hashArr a = (a.map Extern.Stop.cell).toArray from rfl, this]
  simp
theorem rowIs_below {W w1 : World} {b : Nat} {t : TypeId} {n : Nat} {f : Nat → Value} (h : W.rowIs b t n f) (hb : Below W.heap.size W w1) : w1.rowIs b t n f := h.of_block (hb.block b h.lt)
set_option maxHeartbeats 2000000 in
set_option maxRecDepth 100000 in
theorem walk_DigestReads' (h : List UInt8) (hh : h.length = 32) (q0 q1 : Int) (hq0 : -9223372036854775808 ≤ q0 ∧ q0 ≤ 9223372036854775807) (hq1 : -9223372036854775808 ≤ q1 ∧ q1 ≤ 9223372036854775807) (s : ByteArray) (hs : s.size ≤ maxLen) (w : World) (hT : Tabs w) :
    Calls Tryd.prog 10 #[.agg (hashArr h), .agg #[.int .i64 q0, .int .i64 q1], .string s] w fun e w' => e = .returned (.bool true) ∧ Below w.heap.size w w' := by
  have HT := Lib.hid hT
  have HS := Lib.hid hs
  unfold maxLen at hs
  clear hT
  go_enter Tryd.func10, Tryd.ntmps10
  go_wp2_with fail
  have HT0 : Hid (Tabs ((w.alloc (.cells (hashArr h) 24)).alloc (.cells #[.int .i64 q0, .int .i64 q1] 36))) := HT.out.below (((Below.refl _ _).alloc (Nat.le_refl _) _).alloc (by simp) _)
  have hbl0 : Below w.heap.size w ((w.alloc (.cells (hashArr h) 24)).alloc (.cells #[.int .i64 q0, .int .i64 q1] 36)) := ((Below.refl _ _).alloc (Nat.le_refl _) _).alloc (by simp) _
  have ba0 := heap_alloc2_old w (.cells (hashArr h) 24) (.cells #[.int .i64 q0, .int .i64 q1] 36)
  have bb0 := heap_alloc2_new w (.cells (hashArr h) 24) (.cells #[.int .i64 q0, .int .i64 q1] 36)
  generalize (w.alloc (.cells (hashArr h) 24)).alloc (.cells #[.int .i64 q0, .int .i64 q1] 36) = W0 at *
  refine (sanity3_any _ HT0.out).mono ?_
  rintro e w1 ⟨rfl, hb1⟩
  have BA := Lib.hid (heap_below ba0 hb1)
  have BB := Lib.hid (heap_below bb0 hb1)
  have HB := Lib.hid (hbl0.trans (hb1.mono hbl0.size))
  have HH := Lib.hid hh
  clear ba0 bb0 HT0 HT hbl0 hb1 hh
  obtain ⟨t, et⟩ : ∃ t : ByteArray, (⟨(Sha.text h).toArray⟩ : ByteArray) = t := ⟨_, rfl⟩
  have htz : t.size = 64 := by rw [← et]; show (Sha.text h).toArray.size = 64; simp [text_length, HH.out]
  have htl : t.data.toList = Sha.text h := by rw [← et]
  obtain ⟨r1, r2⟩ := Sha.read_text h HH.out (by rw [text_length, HH.out])
  have ct : ∀ W, Calls Tryd.prog 20 #[.agg (hashArr h)] W fun e w' => e = .returned (.string t) ∧ Below W.heap.size W w' := fun W => by rw [← et]; exact text_any h HH.out W
  have cr : ∀ W, Calls Tryd.prog 24 #[.string t] W fun e w' => e = .returned (.tuple #[.agg (hashArr h), .bool true]) ∧ Below W.heap.size W w' := fun W => (read_any t (by unfold maxLen; omega) W).mono fun e w' ⟨he, hb⟩ => ⟨by rw [he, htl]; unfold Sha.readH; rw [r1, if_pos rfl, r2], hb⟩
  have CT := Lib.hid ct
  have CR := Lib.hid cr
  have hne : ((t.size : Int) != 64) = false := by simp [htz]
  have ht1 : t.size ≤ 64 := by omega
  have ht2 : 64 ≤ t.size := by omega
  clear et htz htl r1 r2 ct cr
  go_wp2_with (refine wpList_load_row rfl 24 (.tmp 3) rfl w.heap.size rfl 24 (hashArr h) (0, 0) _ BA.out Tryd.underlying24 rfl (hash_info _ HH.out) ?_)
  with_reducible refine (CT.out _).mono ?_
  rintro e w2 ⟨rfl, hb2⟩
  have BA2 := Lib.hid (heap_below BA.out hb2)
  have bb2 := heap_below BB.out hb2
  have HB2 := Lib.hid (HB.out.trans (hb2.mono HB.out.size))
  have c0 : w2.cell? ⟨w.heap.size + 1, 0, none⟩ = some (.int .i64 q0) := by rw [cell_of_row _ _ _ _ _ _ bb2]; rfl
  have c1 : w2.cell? ⟨w.heap.size + 1, 1, none⟩ = some (.int .i64 q1) := by rw [cell_of_row _ _ _ _ _ _ bb2]; rfl
  have C1 := Lib.hid c1
  have BB2 := Lib.hid bb2
  clear BA BB HB hb2 bb2 c1
  go_wp2_with fail
  refine (mod_any _ _ _ (by omega) (by omega) (by omega) (by omega)).mono ?_
  rintro e w' ⟨rfl, rfl⟩
  obtain ⟨k, hk⟩ := Int.eq_ofNat_of_zero_le (show 0 ≤ q0 % 64 from Int.emod_nonneg _ (by omega))
  have hk2 : k < 64 := by omega
  rw [hk]
  clear hk c0
  go_wp2_with fail
  with_reducible refine (CR.out _).mono ?_
  rintro e w3 ⟨rfl, hb3⟩
  have BA3 := Lib.hid (heap_below BA2.out hb3)
  have BB3 := Lib.hid (heap_below BB2.out hb3)
  have HB3 := Lib.hid (HB2.out.trans (hb3.mono HB2.out.size))
  clear BA2 BB2 HB2 hb3 C1
  go_wp2_with (refine store_hash (l := h) HH.out rfl (.tmp 10) (.tmp 30) rfl rfl rfl rfl rfl ?_)
  have hb4 : Below w3.heap.size w3 (w3.alloc (.cells (hashArr h) 24)) := (Below.refl _ _).alloc (Nat.le_refl _) _
  have BC4 := Lib.hid (heap_alloc_new w3 (.cells (hashArr h) 24))
  have BA4 := Lib.hid (heap_below BA3.out hb4)
  have bb4 := heap_below BB3.out hb4
  have HB4 := Lib.hid (HB3.out.trans (hb4.mono HB3.out.size))
  have c1 : (w3.alloc (.cells (hashArr h) 24)).cell? ⟨w.heap.size + 1, 1, none⟩ = some (.int .i64 q1) := by rw [cell_of_row _ _ _ _ _ _ bb4]; rfl
  clear BA3 BB3 HB3 hb4 bb4
  generalize w3.alloc (.cells (hashArr h) 24) = W4 at *
  have hcv1 : ∀ (W : World) (x : Int) (T : TypeId), (convert 33 9 (.slice (some ⟨W.heap.size, 0, none⟩) 1 1)).run Tryd.prog (W.alloc (.cells #[.int .u8 x] T)).drew = .ok (.string ⟨#[UInt8.ofNat x.toNat]⟩) (W.alloc (.cells #[.int .u8 x] T)).drew := fun W x T => conv_cell Tryd.underlying33 Tryd.underlying5 Tryd.underlying9 _ _ x (by simp)
  have hcv2 : ∀ (W : World) (x : Int) (T : TypeId) (Z : Obj), (convert 33 9 (.slice (some ⟨W.heap.size, 0, none⟩) 1 1)).run Tryd.prog ((W.alloc (.cells #[.int .u8 x] T)).alloc Z).drew = .ok (.string ⟨#[UInt8.ofNat x.toNat]⟩) ((W.alloc (.cells #[.int .u8 x] T)).alloc Z).drew := fun W x T Z => conv_cell Tryd.underlying33 Tryd.underlying5 Tryd.underlying9 _ _ x (by
    show ((W.alloc (.cells #[.int .u8 x] T)).alloc Z).cell? _ = _
    rw [World.cell?_alloc_lt _ _ _ (by simp)]; simp)
  have hcv3 : ∀ (W : World) (x : Int) (T : TypeId) (Z : Obj), (convert 33 9 (.slice (some ⟨W.heap.size + 1, 0, none⟩) 1 1)).run Tryd.prog ((W.alloc Z).alloc (.cells #[.int .u8 x] T)).drew = .ok (.string ⟨#[UInt8.ofNat x.toNat]⟩) ((W.alloc Z).alloc (.cells #[.int .u8 x] T)).drew := fun W x T Z => conv_cell Tryd.underlying33 Tryd.underlying5 Tryd.underlying9 _ _ x (by
    have := heap_alloc_new (W.alloc Z) (.cells #[.int .u8 x] T)
    rw [show (W.alloc Z).heap.size = W.heap.size + 1 by simp] at this
    exact (cell_of_row _ _ 0 _ _ _ this).trans rfl)
  have c2 : ∀ Z, (W4.alloc Z).cell? ⟨w.heap.size + 1, 1, none⟩ = some (.int .i64 q1) := fun Z => by rw [World.cell?_alloc_lt _ _ _ (block_lt_of_cell c1)]; exact c1
  have n1 : ¬ 9223372036854775807 < t.size + 1 := by omega
  have n2 : ¬ 9223372036854775807 < min k t.size + 1 := by omega
  have n3 : ¬ 9223372036854775807 < min k t.size + 1 + (t.size - (k + 1)) := by omega
  have q3 : (0 : Int) ≤ (k : Int) := by omega
  have q4 : (k : Int) ≤ (t.size : Int) := by omega
  have q5 : (k : Int) + 1 ≤ (t.size : Int) := by omega
  have q6 : (0 : Int) ≤ (k : Int) + 1 := by omega
  have q7 : ((k : Int)).toNat = k := by omega
  have q8 : ((k : Int) + 1).toNat = k + 1 := by omega
  have q9 : IntKind.i64.wrap ((k : Int) + 1) = (k : Int) + 1 := IntWalk.i64_in _ (by omega)
  go_upto_region 7 with fail
  go_cut [12] (fun s12 wx => FiveTexts W4 s12 wx)
  case first =>
    go_region
    · go_wp2_with fail
      go_meet
      exact five_mk (g := W4.heap.size + 1) _ _ _ _ _ (by have := heap_alloc_new (W4.alloc (.cells #[.int .u8 (q1 % 256)] 5)) (.cells #[.string s, .string (t.extract 0 k ++ ⟨#[UInt8.ofNat (q1 % 256).toNat]⟩ ++ t.extract (k + 1) t.size), .string (t.extract 0 k), .string (t ++ ⟨#[48]⟩), .string (t.extract 0 k ++ ⟨#[65]⟩ ++ t.extract (k + 1) t.size)] 39); rw [show (W4.alloc (.cells #[.int .u8 (q1 % 256)] 5)).heap.size = W4.heap.size + 1 by simp] at this; exact this) HS.out
        (by simp only [ByteArray.size_append, ByteArray.size_extract]; rw [show (⟨#[UInt8.ofNat (q1 % 256).toNat]⟩ : ByteArray).size = 1 from rfl]; omega) (by simp only [ByteArray.size_extract]; omega) (by rw [ByteArray.size_append, show (⟨#[48]⟩ : ByteArray).size = 1 from rfl]; omega) (by simp only [ByteArray.size_append, ByteArray.size_extract]; rw [show (⟨#[65]⟩ : ByteArray).size = 1 from rfl]; omega)
        (((Below.refl _ _).alloc (Nat.le_refl _) _).alloc (by simp) _).drew
    · go_wp2_with fail
      go_meet
      exact five_mk (g := W4.heap.size) _ _ _ _ _ (heap_alloc2_old W4 _ _) HS.out
        (by simp only [ByteArray.size_append, ByteArray.size_extract]; rw [show (⟨#[UInt8.ofNat (q1 % 256).toNat]⟩ : ByteArray).size = 1 from rfl]; omega) (by simp only [ByteArray.size_extract]; omega) (by rw [ByteArray.size_append, show (⟨#[48]⟩ : ByteArray).size = 1 from rfl]; omega) (by simp only [ByteArray.size_append, ByteArray.size_extract]; rw [show (⟨#[65]⟩ : ByteArray).size = 1 from rfl]; omega)
        (((Below.refl _ _).alloc (Nat.le_refl _) _).alloc (by simp) _).drew
  case rest =>
    obtain ⟨g, xs, rfl, hr, hsz, hbc⟩ := hcut
    have BA5 := Lib.hid (heap_below BA4.out hbc)
    have BC5 := Lib.hid (heap_below BC4.out hbc)
    have HB5 := Lib.hid (HB4.out.trans (hbc.mono HB4.out.size))
    have HR := Lib.hid hr
    have HSZ := Lib.hid hsz
    clear hcv1 hcv2 hcv3 c1 c2 n1 n2 n3 q3 q4 q5 q6 q7 q8 q9 hr hsz hbc BA4 BC4 HB4
    go_wp2_with fail
    go_loopw [13, 14, 15, 16, 17] (fun i _ _ _ _ wr => ∃ k : Nat, k ≤ 5 ∧ i = .int .i64 k ∧ wr.heap[w.heap.size]? = some (.cells (hashArr h) 24 (0, 0)) ∧ wr.heap[w3.heap.size]? = some (.cells (hashArr h) 24 (0, 0)) ∧ wr.rowIs g 39 5 (fun j => .string (xs j)) ∧ Below w.heap.size w wr) (fun i _ _ _ _ _ => 5 - (intOf i).toNat)
    case atStart => exact ⟨0, by omega, rfl, BA5.out, BC5.out, HR.out, HB5.out⟩
    case round =>
      obtain ⟨k, hk, rfl, hra, hrc, hrx, hbw⟩ := hrel
      have HRA := Lib.hid hra
      have HRC := Lib.hid hrc
      clear BA5 BC5 HR HB5 hra hrc
      by_cases hlt : k < 5
      · have ck := hrx.cell (i := k) hlt
        have zk := HSZ.out k hlt
        have HRX := Lib.hid hrx
        clear hrx
        have rd := read_any (xs k) zk
        have rr := rread_any (xs k) zk
        unfold isRead at rd rr
        have LR := Lib.hid (Sha.readH_length (xs k).data.toList)
        generalize Sha.readH (xs k).data.toList = a at *
        generalize Sha.readOk (xs k).data.toList = ok at *
        obtain ⟨x, ex⟩ : ∃ x, xs k = x := ⟨_, rfl⟩
        rw [ex] at ck zk rd rr
        have EXK := Lib.hid ex
        clear ex
        have RD := Lib.hid rd
        have RR := Lib.hid rr
        clear rd rr zk
        have p1 : (0 : Int) ≤ (k : Int) := by omega
        have p2 : (k : Int) < 5 := by omega
        go_wp2_with fail
        with_reducible refine (RD.out _).mono ?_
        rintro e w5 ⟨rfl, hb5⟩
        have hrx5 := ((rowIs_below HRX.out hb5).alloc (.cells (hashArr a) 24))
        have ck5 := hrx5.cell (i := k) hlt
        rw [EXK.out] at ck5
        have HB6 := Lib.hid (hb5.alloc hb5.size (.cells (hashArr a) 24))
        have HRX5 := Lib.hid hrx5
        have ZA := Lib.hid (heap_alloc_new w5 (.cells (hashArr a) 24))
        have LT5 := Lib.hid hb5.size
        clear hrx5 ck
        go_wp2_with (first | (refine store_hash (l := a) LR.out rfl (.tmp 14) (.tmp 71) rfl rfl rfl rfl rfl ?_) | (go_at_call 25; (with_reducible refine (RR.out _).mono ?_)))
        rintro e w6 ⟨rfl, hb6⟩
        have ZA6 := Lib.hid (heap_below ZA.out hb6)
        have hb7 : Below w6.heap.size w6 (w6.alloc (.cells (hashArr a) 24)) := (Below.refl _ _).alloc (Nat.le_refl _) _
        have ZA7 := Lib.hid (heap_below ZA6.out hb7)
        have ZB7 := Lib.hid (heap_alloc_new w6 (.cells (hashArr a) 24))
        have HB67 := Lib.hid (below_join hb6 hb7)
        have hnq := fun W => hash_neq a LR.out W
        have HB57 := Lib.hid (HB6.out.trans (HB67.out.mono HB6.out.size))
        clear ck5 hb5 hb6 hb7 ZA ZA6
        cases ok
        all_goals
          go_wp2_with (first | (refine store_hash (l := a) LR.out rfl (.tmp 16) (.tmp 78) rfl rfl rfl rfl rfl ?_) | (refine wpList_load_row rfl 24 (.tmp 14) rfl w5.heap.size rfl 24 (hashArr a) (0, 0) _ ZA7.out Tryd.underlying24 rfl (hash_info _ LR.out) ?_) | (refine wpList_load_row rfl 24 (.tmp 16) rfl w6.heap.size rfl 24 (hashArr a) (0, 0) _ ZB7.out Tryd.underlying24 rfl (hash_info _ LR.out) ?_))
          go_roundw
          case rel => exact ⟨k + 1, by omega, by go_num, heap_below HRA.out HB57.out, heap_below HRC.out HB57.out, rowIs_below HRX.out HB57.out, hbw.trans (HB57.out.mono hbw.size)⟩
          case measure => simp [intOf]; omega
      · have hd5 : decide ((k : Int) < 5) = false := by simp; omega
        have heq := fun W => hash_eql h h HH.out HH.out W
        clear hrx
        go_wp2_with (first | (refine wpList_load_guarded (by rfl) 24 (.tmp 10) rfl w3.heap.size rfl 24 (hashArr h) (0, 0) _ HRC.out Tryd.underlying24 rfl (hash_info _ HH.out) ?_) | (refine wpList_load_guarded (by rfl) 24 (.tmp 3) rfl w.heap.size rfl 24 (hashArr h) (0, 0) _ HRA.out Tryd.underlying24 rfl (hash_info _ HH.out) ?_))
        go_ret
        exact ⟨ret_bool (by simp), hbw⟩
theorem walk_DigestReads (x : List Int) (lx : x.length = 32) (y : List Int) (ly : y.length = 2) (s : ByteArray) (wx : ∀ z ∈ x, (Lit.int .u8 z).wf = true) (wy : ∀ z ∈ y, (Lit.int .i64 z).wf = true) (hs : s.size ≤ maxLen) (w : World) (hT : Tabs w) :
    Calls Tryd.prog 10 #[.agg (x.map (Value.int .u8)).toArray, .agg (y.map (Value.int .i64)).toArray, .string s] w fun e w' => e = .returned (.bool true) ∧ Below w.heap.size w w' := by
  obtain ⟨a, ha, ea⟩ := hash_of_ints x wx
  rw [ea]
  match y, ly, wy with
  | [q0, q1], _, wy =>
    have h0 := wy q0 (by simp)
    have h1 := wy q1 (by simp)
    exact walk_DigestReads' a (by omega) q0 q1 (by simpa [Lit.wf, IntKind.min, IntKind.max, IntKind.signed, IntKind.bits] using h0) (by simpa [Lit.wf, IntKind.min, IntKind.max, IntKind.signed, IntKind.bits] using h1) s hs w hT
end Go.Proofs.YtkebipklcpplaaaDoor
