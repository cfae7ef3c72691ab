/- The contract of sanity. -/
import Derived.Test.YtpblfpnldbdncaaGreatDoorG21
namespace Go.Proofs.YtpblfpnldbdncaaGreatDoor
open Go.RowKit Go.Sort Go.Maps
open Sg (Rc)
open Mg (Mst Jd H Pap)
set_option linter.unusedVariables false
set_option maxRecDepth 100000
attribute [local go_sem ↓] wp_alloc_rc
theorem newSt_keeps (l : List Mb) : Keeps (newSt l) [] := fun k s r => ⟨fun h => (by cases h), fun h => (by cases h.1)⟩
theorem san_states : ∃ st1 st2 st3 st4 st5 st6 st7 st8 e8, San (cR 0) (cR 1) (cR 2) (cR 3) (cR 4) cD (newSt (kiosksL 4)) st1 st2 st3 st4 st5 st6 st7 st8 e8 :=
  san_plain five_chain pub4_4 (newSt_keeps _) rfl rfl
set_option maxHeartbeats 8000000 in
theorem sanity_any (w : World) (hE : Env w) :
    Calls Tryz.prog 10 #[] w fun e w' => e = .returned (.bool true) ∧ Below w.heap.size w w' := by
  have HE := Lib.hid hE
  have CK := Lib.hid (kiosks_any 4 (by omega) w)
  obtain ⟨c0, h0⟩ : ∃ c, cR 0 = c := ⟨_, rfl⟩
  obtain ⟨c1, h1⟩ : ∃ c, cR 1 = c := ⟨_, rfl⟩
  obtain ⟨c2, h2⟩ : ∃ c, cR 2 = c := ⟨_, rfl⟩
  obtain ⟨c3, h3⟩ : ∃ c, cR 3 = c := ⟨_, rfl⟩
  obtain ⟨c4, h4⟩ : ∃ c, cR 4 = c := ⟨_, rfl⟩
  obtain ⟨d, hd⟩ : ∃ c, cD = c := ⟨_, rfl⟩
  have CH := Lib.hid (chain_any)
  obtain ⟨st1, st2, st3, st4, st5, st6, st7, st8, e8, hsan⟩ := san_states
  have M0 := cR_sm 0 (by omega)
  have M1 := cR_sm 1 (by omega)
  have M2 := cR_sm 2 (by omega)
  have M3 := cR_sm 3 (by omega)
  have M4 := cR_sm 4 (by omega)
  have MD := cD_sm
  have ED : sgn 5012 { cR 1 with draw := june } = cD := rfl
  have EC := chainL_eq
  rw [h0, h1, h2, h3, h4] at EC
  rw [h0, h1, h2, h3, h4, hd] at hsan
  rw [h0] at M0
  rw [h1] at M1 ED
  rw [h2] at M2
  rw [h3] at M3
  rw [h4] at M4
  rw [hd] at MD ED
  rw [EC] at CH
  have M0 := Lib.hid M0
  have M1 := Lib.hid M1
  have M2 := Lib.hid M2
  have M3 := Lib.hid M3
  have M4 := Lib.hid M4
  have MD := Lib.hid MD
  have ED := Lib.hid ED
  obtain ⟨st0, hst0⟩ : ∃ st, newSt (kiosksL 4) = st := ⟨_, rfl⟩
  have PB0 := Lib.hid (show st0.pub = pubOf (kiosksL 4) by rw [← hst0]; rfl)
  rw [hst0] at hsan
  have S := Lib.hid hsan
  have HST0 := Lib.hid hst0
  have hmf : ∀ (fn : Fn) (first cap : Array Value) (w : World), (Instr.makeFunc fn first cap).run Tryz.prog w = .ok (.func fn first cap) w := fun _ _ _ _ => rfl
  clear hE h0 h1 h2 h3 h4 hd hsan EC hst0
  go_enter Tryz.func10, Tryz.ntmps10
  go_wp2_with fail
  refine CK.out.mono ?_
  rintro e w1 ⟨v6, rfl, o1, b1⟩
  have B1 := Lib.hid b1
  have CN := Lib.hid (new_any o1.lies (by decide))
  rw [HST0.out] at CN
  clear o1 b1 CK
  go_wp2_with fail
  refine CN.out.mono ?_
  rintro e w2 ⟨p, b, rfl, hm, b2, np, nb⟩
  have B2 := Lib.hid (B1.out.trans (b2.mono B1.out.size))
  have HM0 : Hid (Has (MrgT p st0 5) w w2) := ((Has.nil B1.out).newMrg b2 hm (fun k hk => by
    rcases hk with rfl | hk | hk | hk | hk
    · exact np
    · injection hk with hk; rw [← hk]; exact nb
    · cases hk
    · cases hk
    · cases hk)).right
  clear hm b2 np nb CN
  go_upto_region 2 with fail
  obtain ⟨c, hc⟩ : ∃ c, w2.heap.size = c := ⟨_, rfl⟩
  have bz3 : Below w2.heap.size w2 (w2.alloc (ptrRow p)) := (Below.refl _ _).alloc (Nat.le_refl _) _
  have HM3 := HM0.out.newBlk bz3 (heap_alloc_new w2 (ptrRow p)) (Nat.le_refl _)
  have B3 := B2.out.trans (bz3.mono B2.out.size)
  unfold ptrRow at HM3 B3
  rw [hc] at HM3 ⊢
  have HM3 := Lib.hid HM3
  have B3 := Lib.hid B3
  generalize w2.alloc (.cells #[.pointer (some ⟨p, 0, none⟩)] 34 (0, 0)) = w3 at *
  clear hc bz3 HM0 B2
  go_wp2_with fail
  refine (CH.out w3).mono ?_
  rintro e w4 ⟨v8, rfl, o4, b4⟩
  obtain ⟨g, cap, hv⟩ : ∃ g cap, v8 = .slice (some ⟨g, 0, none⟩) 5 cap := by
    rcases o4.2.2 with ⟨rfl, h⟩ | ⟨g, cap, cur, rfl, _⟩
    · simp at h
    · exact ⟨g, cap, rfl⟩
  subst hv
  obtain ⟨L, hL⟩ : ∃ L, [c0, c1, c2, c3, c4] = L := ⟨_, rfl⟩
  have HL := Lib.hid hL
  have HLN : Hid (L.length = 5) := by show _ = _; rw [← hL]; rfl
  rw [hL] at o4
  have H4 : Has ((MrgT p st0 5).both (SanQ c p g cap L)) w w4 := by
    have := (HM3.out.newRows b4 o4).assoc
    unfold SanQ
    rw [HLN.out]
    exact this
  have H4 := Lib.hid H4
  have X0 : Hid (L[0]? = some c0) := by show _ = _; rw [← hL]; rfl
  have X1 : Hid (L[1]? = some c1) := by show _ = _; rw [← hL]; rfl
  have X2 : Hid (L[2]? = some c2) := by show _ = _; rw [← hL]; rfl
  have X3 : Hid (L[3]? = some c3) := by show _ = _; rw [← hL]; rfl
  have X4 : Hid (L[4]? = some c4) := by show _ = _; rw [← hL]; rfl
  have hcap : 5 ≤ cap := by have := lies_cap o4.lies (by rw [HLN.out]; omega); rw [HLN.out] at this; exact this
  have hcap1 : (3 : Int) ≤ (cap : Int) := by omega
  have hcap2 : (0 : Int) ≤ (cap : Int) := by omega
  clear o4 b4 HM3 B3 CH hL
  go_upto_region 4 with fail
  refine wp_region_plan (SanS c p g cap L) [37, 38] [([0, 1, 2, 3], 4), ([], 5), ([6, 7, 8], 9), ([10, 11, 12, 13, 14, 15, 16, 17], 18), ([], 19), ([20, 21, 22, 23, 24, 25, 26], 27), ([], 28), ([29, 30, 31, 32, 34, 35], 33), ([], 36)] (by kernel_rfl) (by kernel_rfl) (by kernel_rfl) ((SanS.of_has H4.out).below (Below.refl _ _).drew) ?_
  simp only [List.map_cons, List.map_nil, opN, List.getD_cons_succ, List.getD_cons_zero]
  have HDH4 := Lib.hid (H4.out.below (Below.refl _ _).drew)
  clear H4
  refine segs_cons ?_
  repeat (first
    | (refine quiet_load_row (by rfl) _ (.tmp 12) rfl _ _ rfl (.agg (rcArr c2)) (fun w' h => h.load X2.out rfl) ?_; simp only [Act.put, List.setIfInBounds_toArray, List.set_cons_zero, List.set_cons_succ])
    | go_big_quiet_step (fail)
    | (go_big_quiet_want; go_big_quiet_op; refine ⟨_, fun _ _ => rfl, ?_⟩; go_big_quiet_on))
  refine wpQuiet_nil ?_
  refine segs_step (by rfl) fun K hK => ?_
  refine wp_of_list (wpList_build_r rcK rfl (.tmp 13) rfl M2.out.ok (.agg (rcArr c2)) rfl rfl ?_)
  refine hK _ _ ((SanS.of_has HDH4.out).below ((Below.refl _ _).alloc (Nat.le_refl _) _)) ?_
  clear hK K
  simp only [Act.put, List.setIfInBounds_toArray, List.set_cons_zero, List.set_cons_succ]
  refine segs_cons ?_
  refine wpQuiet_nil ?_
  have CT := Lib.hid (take4_new HDH4.out (SanS.of_has HDH4.out).1 HE.out (N := 1) (cs := [c2]) rfl (fun x hx => by simp only [List.mem_cons, List.not_mem_nil, or_false] at hx; subst hx; exact M2.out.ok) (by omega) S.out.t1)
  rw [cells_one] at CT
  refine segs_step (by rfl) fun K hK => ?_
  go_simp
  refine CT.out.mono ?_
  rintro e w5 ⟨rfl, h5⟩
  have H5 := Lib.hid h5
  refine hK _ _ (SanS.of_has H5.out) ?_
  clear hK K CT h5 HDH4
  refine segs_cons ?_
  repeat (first
    | (refine quiet_load_row (by rfl) _ (.tmp 1) rfl _ _ rfl (.pointer (some ⟨p, 0, none⟩)) (fun w' h => h.ptr) ?_; simp only [Act.put, List.setIfInBounds_toArray, List.set_cons_zero, List.set_cons_succ])
    | go_big_quiet_step (fail)
    | (go_big_quiet_want; go_big_quiet_op; refine ⟨_, fun _ _ => rfl, ?_⟩; go_big_quiet_on))
  refine wpQuiet_nil ?_
  have CR := Lib.hid (receipts_has H5.out.left (by omega) (few4 (S.out.p1.trans PB0.out)) (keys4 (S.out.p1.trans PB0.out)) may 1)
  rw [show picks _ _ (soon may 1) = _ from S.out.r1] at CR
  refine segs_step (by rfl) fun K hK => ?_
  go_simp
  refine CR.out.mono ?_
  rintro e w6 ⟨v9, rfl, o6, b6⟩
  obtain ⟨a9, k9, hv⟩ : ∃ ao cap, v9 = .slice ao 0 cap := by
    obtain ⟨ao, cap, h | h⟩ := o6.lies.slice (n := 0) rfl
    · exact ⟨ao, cap, h.1⟩
    · exact ⟨ao, cap, h.1⟩
  subst hv
  have H6 := Lib.hid (H5.out.below b6)
  refine hK _ _ (SanS.of_has H6.out) ?_
  clear hK K CR o6 b6 H5
  refine segs_cons ?_
  repeat (first
    | (refine quiet_load_row (by rfl) _ (.tmp 26) rfl _ _ rfl (.agg (rcArr c0)) (fun w' h => h.load X0.out rfl) ?_; simp only [Act.put, List.setIfInBounds_toArray, List.set_cons_zero, List.set_cons_succ])
    | go_big_quiet_step (fail)
    | (go_big_quiet_want; go_big_quiet_op; refine ⟨_, fun _ _ => rfl, ?_⟩; go_big_quiet_on))
  refine wpQuiet_nil ?_
  refine segs_step (by rfl) fun K hK => ?_
  refine wp_of_list (wpList_build_r rcK rfl (.tmp 27) rfl M0.out.ok (.agg (rcArr c0)) rfl rfl ?_)
  refine hK _ _ ((SanS.of_has H6.out).below ((Below.refl _ _).alloc (Nat.le_refl _) _)) ?_
  clear hK K
  simp only [Act.put, List.setIfInBounds_toArray, List.set_cons_zero, List.set_cons_succ]
  refine segs_cons ?_
  refine wpQuiet_nil ?_
  have CT := Lib.hid (take4_new H6.out (SanS.of_has H6.out).1 HE.out (N := 1) (cs := [c0]) rfl (fun x hx => by simp only [List.mem_cons, List.not_mem_nil, or_false] at hx; subst hx; exact M0.out.ok) (by omega) S.out.t2)
  rw [cells_one] at CT
  refine segs_step (by rfl) fun K hK => ?_
  go_simp
  refine CT.out.mono ?_
  rintro e w7 ⟨rfl, h7⟩
  have H7 := Lib.hid h7
  refine hK _ _ (SanS.of_has H7.out) ?_
  clear hK K CT h7 H6
  refine segs_cons ?_
  repeat (first
    | (refine quiet_load_row (by rfl) _ (.tmp 35) rfl _ _ rfl (.agg (rcArr c1)) (fun w' h => h.load X1.out rfl) ?_; simp only [Act.put, List.setIfInBounds_toArray, List.set_cons_zero, List.set_cons_succ])
    | go_big_quiet_step (fail)
    | (go_big_quiet_want; go_big_quiet_op; refine ⟨_, fun _ _ => rfl, ?_⟩; go_big_quiet_on))
  refine wpQuiet_nil ?_
  refine segs_step (by rfl) fun K hK => ?_
  refine wp_of_list (wpList_build_r rcK rfl (.tmp 36) rfl M1.out.ok (.agg (rcArr c1)) rfl rfl ?_)
  refine hK _ _ ((SanS.of_has H7.out).below ((Below.refl _ _).alloc (Nat.le_refl _) _)) ?_
  clear hK K
  simp only [Act.put, List.setIfInBounds_toArray, List.set_cons_zero, List.set_cons_succ]
  refine segs_cons ?_
  refine wpQuiet_nil ?_
  have CT := Lib.hid (take4_new H7.out (SanS.of_has H7.out).1 HE.out (N := 1) (cs := [c1]) rfl (fun x hx => by simp only [List.mem_cons, List.not_mem_nil, or_false] at hx; subst hx; exact M1.out.ok) (by omega) S.out.t3)
  rw [cells_one] at CT
  refine segs_step (by rfl) fun K hK => ?_
  go_simp
  refine CT.out.mono ?_
  rintro e w8 ⟨rfl, h8⟩
  have H8 := Lib.hid h8
  refine hK _ _ (SanS.of_has H8.out) ?_
  clear hK K CT h8 H7
  refine segs_cons ?_
  repeat (first
    | (refine quiet_load_row (by rfl) _ (.tmp 1) rfl _ _ rfl (.pointer (some ⟨p, 0, none⟩)) (fun w' h => h.ptr) ?_; simp only [Act.put, List.setIfInBounds_toArray, List.set_cons_zero, List.set_cons_succ])
    | go_big_quiet_step (fail)
    | (go_big_quiet_want; go_big_quiet_op; refine ⟨_, fun _ _ => rfl, ?_⟩; go_big_quiet_on))
  refine wpQuiet_nil ?_
  have CR := Lib.hid (receipts_has H8.out.left (by omega) (few4 (S.out.p3.trans PB0.out)) (keys4 (S.out.p3.trans PB0.out)) may 1)
  rw [show picks _ _ (soon may 1) = _ from S.out.r3] at CR
  refine segs_step (by rfl) fun K hK => ?_
  go_simp
  refine CR.out.mono ?_
  rintro e w9 ⟨v33, rfl, o9, b9⟩
  obtain ⟨a33, k33, hv⟩ : ∃ ao cap, v33 = .slice ao 3 cap := by
    obtain ⟨ao, cap, h | h⟩ := o9.lies.slice (n := 3) rfl
    · exact ⟨ao, cap, h.1⟩
    · exact ⟨ao, cap, h.1⟩
  subst hv
  have H9 := Lib.hid (H8.out.below b9)
  have O33 := Lib.hid o9
  refine hK _ _ (SanS.of_has H9.out) ?_
  clear hK K CR o9 b9 H8
  refine segs_cons ?_
  refine wpQuiet_nil ?_
  have CS := Lib.hid (same_rcs O33.out.lies (lies_take (k := 3) (SanS.of_has H9.out).2 (by rw [HLN.out]; omega)) (by simp) (by rw [List.length_take, HLN.out]; omega))
  rw [show decide ([c0, c1, c2] = L.take 3) = true by rw [← HL.out]; simp] at CS
  refine segs_step (by rfl) fun K hK => ?_
  go_simp
  refine CS.out.mono ?_
  rintro e w10 ⟨rfl, b10⟩
  have H10 := Lib.hid (H9.out.below b10)
  refine hK _ _ (SanS.of_has H10.out) ?_
  clear hK K CS b10 H9 O33
  refine segs_nil ?_
  repeat (first
    | go_big_quiet_step (fail)
    | (go_big_quiet_want; go_big_quiet_op; refine ⟨_, fun _ _ => rfl, ?_⟩; go_big_quiet_on))
  refine wpQuiet_nil ?_
  refine NoPanic.normal ?_
  go_upto_region 7 with (first
    | (refine wpList_load_c rfl (.tmp 50) rfl _ _ rfl M1.out.ok ((SanS.of_has H10.out).at X1.out rfl) ?_)
    | (refine wpList_store_row rfl 31 (.tmp 4) (.tmp 51) rfl w10.heap.size (rcArr c1) rfl rfl 31 _ (heap_alloc_new w10 (.cells (rcArr rc0) 31)) (rc_info M1.out.ok) (show (rcArr rc0).size = (rcArr c1).size by rw [rcArr_size rc0_ok, rcArr_size M1.out.ok]) (rcArr_one c1) ?_; rw [World.setRow_alloc_new w10 (rcArr rc0) (rcArr c1) 31]; simp only [Act.put]))
  obtain ⟨ob, hob⟩ : ∃ o, w10.heap.size = o := ⟨_, rfl⟩
  have bz : Below w10.heap.size w10 (w10.alloc (.cells (rcArr c1) 31)) := (Below.refl _ _).alloc (Nat.le_refl _) _
  have HA := (H10.out.newBlk bz (heap_alloc_new w10 (.cells (rcArr c1) 31)) (Nat.le_refl _))
  rw [hob] at HA ⊢
  have HA := Lib.hid HA
  generalize w10.alloc (.cells (rcArr c1) 31) = wa at *
  clear hob bz H10
  have kb : wa.cell? ⟨ob, 2, none⟩ = some (.string (bstr c1.draw)) := (cell_of_row _ _ 2 _ _ _ HA.out.right.blk).trans rfl
  have fb : wa.frozen? ⟨ob, 2, none⟩ = false := frozen_of_row _ _ _ _ _ HA.out.right.blk
  go_upto_region 8 with fail
  have X2b := heap_setCell_at (o := 2) HA.out.right.blk (.string ⟨#[74, 117, 110, 101]⟩)
  have X2c : (rcArr c1).setIfInBounds 2 (.string ⟨#[74, 117, 110, 101]⟩) = rcArr { c1 with draw := june } := rc_set_draw c1 june
  rw [X2c] at X2b
  have HB := Lib.hid (HA.out.setBlk (Turned.setCell (F := fun k => k = ob) (Turned.of_below (Below.refl _ _)) (.inl rfl) 2 (.string ⟨#[74, 117, 110, 101]⟩)) X2b)
  clear X2b X2c kb fb HA
  generalize wa.setCell ⟨ob, 2, none⟩ (.string ⟨#[74, 117, 110, 101]⟩) = wb at *
  have MJ := Lib.hid (june_sm M1.out)
  have CS := Lib.hid (fun W => signed_any 5012 1152921504606845789 2305843009213691579 _ MJ.out W rfl rfl (by omega))
  have ES : Hid (({ c1 with draw := june } : Rc).signed sc 1152921504606845789 2305843009213691579 5012 = d) := ED.out
  rw [ES.out] at CS
  have C0 : Hid (∀ W, Calls Tryz.prog 13 #[.int .i64 4] W fun e w' => e = .returned (.int .i64 5012) ∧ Below W.heap.size W w') := fun W => (secret_any 4 W (by omega)).mono fun e w' ⟨h1, h2⟩ => ⟨h1, by rw [← h2]; exact Below.refl _ _⟩
  have l1 := Lib.hid (load_rc_re MJ.out.ok (RcAt.of_row HB.out.right.blk) (rc_block_lt HB.out.right.blk))
  obtain ⟨R1, hR1⟩ : ∃ R1, ({ c1 with draw := june } : Rc) = R1 := ⟨_, rfl⟩
  rw [hR1] at HB MJ l1 CS
  clear hR1 ES
  refine wp_region_tail_below 3 (by kernel_rfl) (by kernel_rfl) ?_
  simp only [List.take_succ_cons, List.take_zero, List.drop_succ_cons, List.drop_zero]
  repeat (first
    | (refine quiet_load_row (by rfl) _ (.tmp 4) rfl _ _ rfl _ l1.out ?_; simp only [Act.put, List.setIfInBounds_toArray, List.set_cons_zero, List.set_cons_succ])
    | go_big_quiet_step ((first | with_reducible exact Calls.regrown_of (C0.out _) | with_reducible exact Calls.regrown_of (CS.out _))))
  refine wpQuiet_nil ?_
  intro _ hw'
  obtain ⟨⟨dq, osq⟩, hw''⟩ := hw'
  subst hw''
  have HC := Lib.hid (HB.out.below (below_regrown wb dq osq))
  generalize grow (redrawn wb dq) osq = wc0 at *
  clear HB CS C0 l1
  have RI2 := Lib.hid (rc_info MD.out.ok)
  have RO2 := Lib.hid (rcArr_one d)
  have RZ2 := Lib.hid (show (rcArr R1).size = (rcArr d).size by rw [rcArr_size MJ.out.ok, rcArr_size MD.out.ok])
  go_upto_region 9 with (refine wpList_store_row rfl 31 (.tmp 4) (.tmp 55) rfl ob (rcArr d) rfl rfl 31 _ HC.out.right.blk RI2.out RZ2.out RO2.out ?_; simp only [Act.put])
  have HD9 := Lib.hid ((HC.out.setBlk (Turned.setRow (F := fun k => k = ob) (Turned.of_below (Below.refl _ _)) (.inl rfl) (rcArr d)) (setRow_heap _ _ _ _ _ _ HC.out.right.blk)).assoc)
  clear HC RI2 RO2 RZ2 MJ
  generalize wc0.setRow ob (rcArr d) = wd at *
  have CO := Lib.hid (fun W => output_any 5 ⟨by omega, by omega⟩ W)
  have OO := Lib.hid (otOf_ok (n := 5) ⟨by omega, by omega⟩ (outHash_len 5))
  refine wp_region_plan (SanS2 c p g cap L ob d) [47, 48, 49] [([0, 1], 2), ([], 3), ([4, 5, 6, 7, 8, 9, 10, 11, 12], 13), ([], 14), ([15, 16, 17, 18, 19, 20, 21], 22), ([], 23), ([24, 25, 26, 27], 28), ([29, 30, 31, 32, 33], 34), ([], 35), ([36, 37, 38, 39], 40), ([41, 42, 43, 44, 45], 46)] (by kernel_rfl) (by kernel_rfl) (by kernel_rfl) ((SanS2.of_has HD9.out).below (Below.refl _ _).drew) ?_
  simp only [List.map_cons, List.map_nil, opN, List.getD_cons_succ, List.getD_cons_zero]
  have HDHD9 := Lib.hid (HD9.out.below (Below.refl _ _).drew)
  clear HD9
  refine segs_cons ?_
  repeat (first
    | (refine quiet_load_row (by rfl) _ (.tmp 4) rfl _ _ rfl (.agg (rcArr d)) (fun w' h => h.other MD.out.ok) ?_; simp only [Act.put, List.setIfInBounds_toArray, List.set_cons_zero, List.set_cons_succ])
    | go_big_quiet_step (fail)
    | (go_big_quiet_want; go_big_quiet_op; refine ⟨_, fun _ _ => rfl, ?_⟩; go_big_quiet_on))
  refine wpQuiet_nil ?_
  refine segs_step (by rfl) fun K hK => ?_
  refine wp_of_list (wpList_build_r rcK rfl (.tmp 57) rfl MD.out.ok (.agg (rcArr d)) rfl rfl ?_)
  refine hK _ _ ((SanS2.of_has HDHD9.out).below ((Below.refl _ _).alloc (Nat.le_refl _) _)) ?_
  clear hK K
  simp only [Act.put, List.setIfInBounds_toArray, List.set_cons_zero, List.set_cons_succ]
  refine segs_cons ?_
  refine wpQuiet_nil ?_
  have CT := Lib.hid (take4_new HDHD9.out (SanS2.of_has HDHD9.out).1.1 HE.out (N := 1) (cs := [d]) rfl (fun x hx => by simp only [List.mem_cons, List.not_mem_nil, or_false] at hx; subst hx; exact MD.out.ok) (by omega) S.out.t4)
  rw [cells_one] at CT
  refine segs_step (by rfl) fun K hK => ?_
  go_simp
  refine CT.out.mono ?_
  rintro e w11 ⟨rfl, h11⟩
  have H11 := Lib.hid h11
  refine hK _ _ (SanS2.of_has H11.out) ?_
  clear hK K CT h11 HDHD9
  refine segs_cons ?_
  repeat (first
    | (refine quiet_load_row (by rfl) _ (.tmp 64) rfl _ _ rfl (.agg (rcArr c0)) (fun w' h => h.1.load X0.out rfl) ?_; simp only [Act.put, List.setIfInBounds_toArray, List.set_cons_zero, List.set_cons_succ])
    | (refine quiet_load_row (by rfl) _ (.tmp 67) rfl _ _ rfl (.agg (rcArr c1)) (fun w' h => h.1.load X1.out rfl) ?_; simp only [Act.put, List.setIfInBounds_toArray, List.set_cons_zero, List.set_cons_succ])
    | go_big_quiet_step (fail)
    | (go_big_quiet_want; go_big_quiet_op; refine ⟨_, fun _ _ => rfl, ?_⟩; go_big_quiet_on))
  refine wpQuiet_nil ?_
  refine segs_step (by rfl) fun K hK => ?_
  refine wp_of_list (wpList_build_r2 rcK rfl (.tmp 65) (.tmp 68) rfl M0.out.ok M1.out.ok (.agg (rcArr c0)) (.agg (rcArr c1)) rfl rfl rfl rfl ?_)
  refine hK _ _ ((SanS2.of_has H11.out).below ((Below.refl _ _).alloc (Nat.le_refl _) _)) ?_
  clear hK K
  simp only [Act.put, List.setIfInBounds_toArray, List.set_cons_zero, List.set_cons_succ]
  refine segs_cons ?_
  refine wpQuiet_nil ?_
  have CT := Lib.hid (take4_new H11.out (SanS2.of_has H11.out).1.1 HE.out (N := 2) (cs := [c0, c1]) rfl (fun x hx => by simp only [List.mem_cons, List.not_mem_nil, or_false] at hx; rcases hx with rfl | rfl; exact M0.out.ok; exact M1.out.ok) (by omega) S.out.t5)
  refine segs_step (by rfl) fun K hK => ?_
  go_simp
  refine CT.out.mono ?_
  rintro e w12 ⟨rfl, h12⟩
  have H12 := Lib.hid h12
  refine hK _ _ (SanS2.of_has H12.out) ?_
  clear hK K CT h12 H11
  refine segs_cons ?_
  repeat (first
    | (refine quiet_load_row (by rfl) _ (.tmp 76) rfl _ _ rfl (.agg (rcArr c3)) (fun w' h => h.1.load X3.out rfl) ?_; simp only [Act.put, List.setIfInBounds_toArray, List.set_cons_zero, List.set_cons_succ])
    | go_big_quiet_step (fail)
    | (go_big_quiet_want; go_big_quiet_op; refine ⟨_, fun _ _ => rfl, ?_⟩; go_big_quiet_on))
  refine wpQuiet_nil ?_
  refine segs_step (by rfl) fun K hK => ?_
  refine wp_of_list (wpList_build_r rcK rfl (.tmp 77) rfl M3.out.ok (.agg (rcArr c3)) rfl rfl ?_)
  refine hK _ _ ((SanS2.of_has H12.out).below ((Below.refl _ _).alloc (Nat.le_refl _) _)) ?_
  clear hK K
  simp only [Act.put, List.setIfInBounds_toArray, List.set_cons_zero, List.set_cons_succ]
  refine segs_cons ?_
  refine wpQuiet_nil ?_
  have CT := Lib.hid (take4_new H12.out (SanS2.of_has H12.out).1.1 HE.out (N := 1) (cs := [c3]) rfl (fun x hx => by simp only [List.mem_cons, List.not_mem_nil, or_false] at hx; subst hx; exact M3.out.ok) (by omega) S.out.t6)
  rw [cells_one] at CT
  refine segs_step (by rfl) fun K hK => ?_
  go_simp
  refine CT.out.mono ?_
  rintro e w13 ⟨rfl, h13⟩
  have H13 := Lib.hid h13
  refine hK _ _ (SanS2.of_has H13.out) ?_
  clear hK K CT h13 H12
  refine segs_cons ?_
  repeat (first
    | (refine quiet_load_row (by rfl) _ (.tmp 1) rfl _ _ rfl (.pointer (some ⟨p, 0, none⟩)) (fun w' h => h.1.ptr) ?_; simp only [Act.put, List.setIfInBounds_toArray, List.set_cons_zero, List.set_cons_succ])
    | go_big_quiet_step (fail)
    | (go_big_quiet_want; go_big_quiet_op; refine ⟨_, fun _ _ => rfl, ?_⟩; go_big_quiet_on))
  refine wpQuiet_nil ?_
  have CR := Lib.hid (receipts_has H13.out.left (by omega) (few4 (S.out.p6.trans PB0.out)) (keys4 (S.out.p6.trans PB0.out)) may 9)
  rw [show picks _ _ (soon may 9) = _ from S.out.r6] at CR
  refine segs_step (by rfl) fun K hK => ?_
  go_simp
  refine CR.out.mono ?_
  rintro e w14 ⟨v84, rfl, o14, b14⟩
  obtain ⟨a84, k84, hv⟩ : ∃ ao cap, v84 = .slice ao 3 cap := by
    obtain ⟨ao, cap, h | h⟩ := o14.lies.slice (n := 3) rfl
    · exact ⟨ao, cap, h.1⟩
    · exact ⟨ao, cap, h.1⟩
  subst hv
  have H14 := Lib.hid (H13.out.below b14)
  refine hK _ _ (SanS2.of_has H14.out) ?_
  clear hK K CR o14 b14 H13
  refine segs_cons ?_
  repeat (first
    | (refine quiet_load_row (by rfl) _ (.tmp 1) rfl _ _ rfl (.pointer (some ⟨p, 0, none⟩)) (fun w' h => h.1.ptr) ?_; simp only [Act.put, List.setIfInBounds_toArray, List.set_cons_zero, List.set_cons_succ])
    | go_big_quiet_step (fail)
    | (go_big_quiet_want; go_big_quiet_op; refine ⟨_, fun _ _ => rfl, ?_⟩; go_big_quiet_on))
  refine wpQuiet_nil ?_
  refine segs_step (by rfl) fun K hK => ?_
  go_simp
  refine (CO.out _).mono ?_
  rintro e w15 ⟨rfl, b15⟩
  have H15 := Lib.hid (H14.out.below b15)
  refine hK _ _ (SanS2.of_has H15.out) ?_
  clear hK K b15 H14
  refine segs_cons ?_
  refine wpQuiet_nil ?_
  have CL := Lib.hid (learn_has H15.out (otOf 5 (outHash 5)) OO.out (by omega))
  rw [show (otOf 5 (outHash 5)).rd = 5 from rfl, show (otOf 5 (outHash 5)).hash = outHash 5 from rfl, S.out.t7, show learnErr ((st7, 0) : Mst × Nat).2 = 0 from rfl] at CL
  refine segs_step (by rfl) fun K hK => ?_
  go_simp
  refine CL.out.mono ?_
  rintro e w16 ⟨rfl, h16⟩
  have H16 := Lib.hid h16
  refine hK _ _ (SanS2.of_has H16.out) ?_
  clear hK K CL h16 H15 CO
  refine segs_cons ?_
  repeat (first
    | (refine quiet_load_row (by rfl) _ (.tmp 1) rfl _ _ rfl (.pointer (some ⟨p, 0, none⟩)) (fun w' h => h.1.ptr) ?_; simp only [Act.put, List.setIfInBounds_toArray, List.set_cons_zero, List.set_cons_succ])
    | go_big_quiet_step (fail)
    | (go_big_quiet_want; go_big_quiet_op; refine ⟨_, fun _ _ => rfl, ?_⟩; go_big_quiet_on))
  refine wpQuiet_nil ?_
  have CR := Lib.hid (receipts_has H16.out.left (by omega) (few4 (S.out.p7.trans PB0.out)) (keys4 (S.out.p7.trans PB0.out)) may 9)
  rw [show picks _ _ (soon may 9) = _ from S.out.r7] at CR
  refine segs_step (by rfl) fun K hK => ?_
  go_simp
  refine CR.out.mono ?_
  rintro e w17 ⟨v96, rfl, o17, b17⟩
  obtain ⟨a96, k96, hv⟩ : ∃ ao cap, v96 = .slice ao 4 cap := by
    obtain ⟨ao, cap, h | h⟩ := o17.lies.slice (n := 4) rfl
    · exact ⟨ao, cap, h.1⟩
    · exact ⟨ao, cap, h.1⟩
  subst hv
  have H17 := Lib.hid (H16.out.below b17)
  refine hK _ _ (SanS2.of_has H17.out) ?_
  clear hK K CR o17 b17 H16
  refine segs_cons ?_
  repeat (first
    | (refine quiet_load_row (by rfl) _ (.tmp 1) rfl _ _ rfl (.pointer (some ⟨p, 0, none⟩)) (fun w' h => h.1.ptr) ?_; simp only [Act.put, List.setIfInBounds_toArray, List.set_cons_zero, List.set_cons_succ])
    | go_big_quiet_step (fail)
    | (go_big_quiet_want; go_big_quiet_op; refine ⟨_, fun _ _ => rfl, ?_⟩; go_big_quiet_on))
  refine wpQuiet_nil ?_
  have CR := Lib.hid (lates_has H17.out.left (by omega) (few4 (S.out.p7.trans PB0.out)) (keys4 (S.out.p7.trans PB0.out)) may 5)
  rw [show picks _ _ (late may 5) = _ from S.out.l7] at CR
  refine segs_step (by rfl) fun K hK => ?_
  go_simp
  refine CR.out.mono ?_
  rintro e w18 ⟨v102, rfl, o18, b18⟩
  obtain ⟨a102, k102, hv⟩ : ∃ ao cap, v102 = .slice ao 1 cap := by
    obtain ⟨ao, cap, h | h⟩ := o18.lies.slice (n := 1) rfl
    · exact ⟨ao, cap, h.1⟩
    · exact ⟨ao, cap, h.1⟩
  subst hv
  have H18 := Lib.hid (H17.out.below b18)
  refine hK _ _ (SanS2.of_has H18.out) ?_
  clear hK K CR o18 b18 H17
  refine segs_nil ?_
  repeat (first
    | go_big_quiet_step (fail)
    | (go_big_quiet_want; go_big_quiet_op; refine ⟨_, fun _ _ => rfl, ?_⟩; go_big_quiet_on))
  refine wpQuiet_nil ?_
  refine NoPanic.normal ?_
  go_upto_region 11 with fail
  have CT := Lib.hid (take4_new H18.out (SanS2.of_has H18.out).1.1 HE.out (N := 1) (cs := [c4]) rfl (fun x hx => by simp only [List.mem_cons, List.not_mem_nil, or_false] at hx; subst hx; exact M4.out.ok) (by omega) S.out.t8)
  rw [cells_one] at CT
  go_wp2_with (first
    | (refine wpList_load_c rfl (.tmp 108) rfl _ _ rfl M4.out.ok ((SanS2.of_has H18.out).1.at X4.out rfl) ?_)
    | (refine wpList_build_r rcK rfl (.tmp 109) rfl M4.out.ok (.agg (rcArr c4)) rfl rfl ?_))
  refine CT.out.mono ?_
  rintro e w19 ⟨rfl, h19⟩
  have H19 := Lib.hid h19
  clear CT h19 H18
  have LP := Lib.hid ((SanS2.of_has H19.out).1.ptr)
  have lp := LP.out
  have CE := Lib.hid (evids_has H19.out.left (by omega) (few4 (S.out.p8.trans PB0.out)) (keys4 (S.out.p8.trans PB0.out)) HE.out)
  rw [show evids _ _ = _ from S.out.ev] at CE
  have P1 : w19.cell? ⟨c, 0, none⟩ = some (.pointer (some ⟨p, 0, none⟩)) := (cell_of_row _ _ 0 _ _ _ (SanS2.of_has H19.out).1.1).trans rfl
  go_wp2_with fail
  refine CE.out.mono ?_
  rintro e w20 ⟨v5, rfl, o20, b20⟩
  obtain ⟨ge, ce, rfl⟩ := keys_nil_slice (n := 2) o20 rfl (by omega)
  obtain ⟨E, hE⟩ : ∃ E, [evOf 7 4 c1 d, evOf 6 4 c3 c4] = E := ⟨_, rfl⟩
  have E0 : Hid (E[0]? = some (evOf 7 4 c1 d)) := by show _ = _; rw [← hE]; rfl
  have E1 : Hid (E[1]? = some (evOf 6 4 c3 c4)) := by show _ = _; rw [← hE]; rfl
  have EN : Hid (E.length = 2) := by show _ = _; rw [← hE]; rfl
  rw [hE] at o20
  have H20 := Lib.hid (H19.out.below b20)
  have S3 : Hid (SanS3 c p g cap L ob d ge ce E w20) := ⟨SanS2.of_has H20.out, by rw [EN.out]; exact o20.lies⟩
  have BW := Lib.hid H20.out.base
  have CX1 := Lib.hid (fun W => rctext_any c1 M1.out W)
  obtain ⟨x1, hx1⟩ : ∃ x, bstr c1.text = x := ⟨_, rfl⟩
  rw [hx1] at CX1
  have HX1 := Lib.hid hx1
  have CX2 := Lib.hid (fun W => rctext_any d MD.out W)
  obtain ⟨x2, hx2⟩ : ∃ x, bstr d.text = x := ⟨_, rfl⟩
  rw [hx2] at CX2
  have HX2 := Lib.hid hx2
  have CX3 := Lib.hid (fun W => rctext_any c3 M3.out W)
  obtain ⟨x3, hx3⟩ : ∃ x, bstr c3.text = x := ⟨_, rfl⟩
  rw [hx3] at CX3
  have HX3 := Lib.hid hx3
  have CX4 := Lib.hid (fun W => rctext_any c4 M4.out W)
  obtain ⟨x4, hx4⟩ : ∃ x, bstr c4.text = x := ⟨_, rfl⟩
  rw [hx4] at CX4
  have HX4 := Lib.hid hx4
  clear CE lp LP P1 o20 b20 hE hx1 hx2 hx3 hx4 H19 H20 S
  go_upto_region 13 with fail
  refine wp_region_plan (SanS3 c p g cap L ob d ge ce E) [61, 62, 63] [([0, 1, 2, 3, 4, 5, 6, 7, 8, 9, 10, 11, 12, 13, 14, 15, 16, 17, 18], 19), ([20, 21, 22, 23, 24, 25, 26, 27, 28], 29), ([30, 31, 32, 33, 34, 35, 36, 37, 38, 39, 40, 41, 42, 43, 44, 45, 46, 47], 48), ([49, 50, 51, 52, 53, 54, 55, 56, 57, 58, 59], 60)] (by kernel_rfl) (by kernel_rfl) (by kernel_rfl) (S3.out.below (Below.refl _ _).drew) ?_
  simp only [List.map_cons, List.map_nil, opN, List.getD_cons_succ, List.getD_cons_zero]
  have S4 := Lib.hid (S3.out.below (Below.refl w20.heap.size w20).drew)
  have BD : Hid (Below w.heap.size w w20.drew) := BW.out.drew
  clear S3 BW
  generalize w20.drew = v0 at *
  refine segs_cons ?_
  repeat (first
    | (refine quiet_load_row (by rfl) _ (.tmp 120) rfl _ _ rfl (.int .i64 7) (fun w' h => h.kind E0.out rfl rfl) ?_; simp only [Act.put, List.setIfInBounds_toArray, List.set_cons_zero, List.set_cons_succ])
    | (refine quiet_load_row (by rfl) _ (.tmp 128) rfl _ _ rfl (.string x1) (fun w' h => h.ta E0.out rfl HX1.out) ?_; simp only [Act.put, List.setIfInBounds_toArray, List.set_cons_zero, List.set_cons_succ])
    | (refine quiet_load_row (by rfl) _ (.tmp 131) rfl _ _ rfl (.agg (rcArr c1)) (fun w' h => h.1.1.load X1.out rfl) ?_; simp only [Act.put, List.setIfInBounds_toArray, List.set_cons_zero, List.set_cons_succ])
    | go_big_quiet_step (fail)
    | (go_big_quiet_want; go_big_quiet_op; refine ⟨_, fun _ _ => rfl, ?_⟩; go_big_quiet_on))
  refine wpQuiet_nil ?_
  refine segs_step (by rfl) fun K hK => ?_
  go_simp
  refine (CX1.out _).mono ?_
  rintro e v1 ⟨rfl, b1⟩
  have S5 := Lib.hid (S4.out.below b1)
  have BD1 := Lib.hid (BD.out.trans (b1.mono BD.out.size))
  refine hK _ _ S5.out ?_
  clear hK K b1 CX1 S4 BD
  refine segs_cons ?_
  repeat (first
    | (refine quiet_load_row (by rfl) _ (.tmp 140) rfl _ _ rfl (.string x2) (fun w' h => h.tb E0.out rfl HX2.out) ?_; simp only [Act.put, List.setIfInBounds_toArray, List.set_cons_zero, List.set_cons_succ])
    | (refine quiet_load_row (by rfl) _ (.tmp 4) rfl _ _ rfl (.agg (rcArr d)) (fun w' h => h.1.other MD.out.ok) ?_; simp only [Act.put, List.setIfInBounds_toArray, List.set_cons_zero, List.set_cons_succ])
    | go_big_quiet_step (fail)
    | (go_big_quiet_want; go_big_quiet_op; refine ⟨_, fun _ _ => rfl, ?_⟩; go_big_quiet_on))
  refine wpQuiet_nil ?_
  refine segs_step (by rfl) fun K hK => ?_
  go_simp
  refine (CX2.out _).mono ?_
  rintro e v2 ⟨rfl, b2⟩
  have S6 := Lib.hid (S5.out.below b2)
  have BD2 := Lib.hid (BD1.out.trans (b2.mono BD1.out.size))
  refine hK _ _ S6.out ?_
  clear hK K b2 CX2 S5 BD1
  refine segs_cons ?_
  repeat (first
    | (refine quiet_load_row (by rfl) _ (.tmp 149) rfl _ _ rfl (.int .i64 6) (fun w' h => h.kind E1.out rfl rfl) ?_; simp only [Act.put, List.setIfInBounds_toArray, List.set_cons_zero, List.set_cons_succ])
    | (refine quiet_load_row (by rfl) _ (.tmp 157) rfl _ _ rfl (.string x3) (fun w' h => h.ta E1.out rfl HX3.out) ?_; simp only [Act.put, List.setIfInBounds_toArray, List.set_cons_zero, List.set_cons_succ])
    | (refine quiet_load_row (by rfl) _ (.tmp 160) rfl _ _ rfl (.agg (rcArr c3)) (fun w' h => h.1.1.load X3.out rfl) ?_; simp only [Act.put, List.setIfInBounds_toArray, List.set_cons_zero, List.set_cons_succ])
    | go_big_quiet_step (fail)
    | (go_big_quiet_want; go_big_quiet_op; refine ⟨_, fun _ _ => rfl, ?_⟩; go_big_quiet_on))
  refine wpQuiet_nil ?_
  refine segs_step (by rfl) fun K hK => ?_
  go_simp
  refine (CX3.out _).mono ?_
  rintro e v3 ⟨rfl, b3⟩
  have S7 := Lib.hid (S6.out.below b3)
  have BD3 := Lib.hid (BD2.out.trans (b3.mono BD2.out.size))
  refine hK _ _ S7.out ?_
  clear hK K b3 CX3 S6 BD2
  refine segs_cons ?_
  repeat (first
    | (refine quiet_load_row (by rfl) _ (.tmp 169) rfl _ _ rfl (.string x4) (fun w' h => h.tb E1.out rfl HX4.out) ?_; simp only [Act.put, List.setIfInBounds_toArray, List.set_cons_zero, List.set_cons_succ])
    | (refine quiet_load_row (by rfl) _ (.tmp 172) rfl _ _ rfl (.agg (rcArr c4)) (fun w' h => h.1.1.load X4.out rfl) ?_; simp only [Act.put, List.setIfInBounds_toArray, List.set_cons_zero, List.set_cons_succ])
    | go_big_quiet_step (fail)
    | (go_big_quiet_want; go_big_quiet_op; refine ⟨_, fun _ _ => rfl, ?_⟩; go_big_quiet_on))
  refine wpQuiet_nil ?_
  refine segs_step (by rfl) fun K hK => ?_
  go_simp
  refine (CX4.out _).mono ?_
  rintro e v4 ⟨rfl, b4⟩
  have S8 := Lib.hid (S7.out.below b4)
  have BD4 := Lib.hid (BD3.out.trans (b4.mono BD3.out.size))
  refine hK _ _ S8.out ?_
  clear hK K b4 CX4 S7 BD3
  refine segs_nil ?_
  repeat (first
    | go_big_quiet_step (fail)
    | (go_big_quiet_want; go_big_quiet_op; refine ⟨_, fun _ _ => rfl, ?_⟩; go_big_quiet_on))
  refine wpQuiet_nil ?_
  refine NoPanic.normal ?_
  go_wp2_with fail
  go_ret
  exact ⟨rfl, BD4.out⟩
end Go.Proofs.YtpblfpnldbdncaaGreatDoor
