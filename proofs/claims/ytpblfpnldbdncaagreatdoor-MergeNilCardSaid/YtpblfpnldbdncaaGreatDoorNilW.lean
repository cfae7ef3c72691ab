/- The walk of the law MergeNil. -/
import Derived.Test.YtpblfpnldbdncaaGreatDoorG23
import Derived.Test.YtpblfpnldbdncaaGreatDoorG20
import Derived.Test.YtpblfpnldbdncaaGreatDoorNilP
import Derived.Test.YtpblfpnldbdncaaGreatDoorLrnM
namespace Go.Proofs.YtpblfpnldbdncaaGreatDoor
open Go.RowKit Go.Sort Go.Maps
open Sg (Rc)
open Mg (Mst Jd H Pap Sale Pos zeroH)
set_option linter.unusedVariables false
set_option maxRecDepth 100000
theorem nsales_le (l : List Sale) : ∀ st, (gsales st l).length ≤ 2 * l.length := by
  induction l with
  | nil => intro st; exact Nat.le_refl _
  | cons x l ih =>
    intro st
    have h1 : (gextra x (st (x.kiosk % 4))).length ≤ 1 := by
      unfold gextra
      split <;> simp
    rw [gsales, List.length_append, List.length_cons, List.length_cons]
    have := ih (Mg.put st (x.kiosk % 4) (gnext x (st (x.kiosk % 4))))
    omega
theorem ngall_le (l : List Sale) : (gall l).length ≤ 48 := by
  have := nsales_le (l.take 24) pos0
  rw [List.length_take] at this
  unfold gall
  omega
/-- what the last region looks at: the output and the batch in variables -/
def NilS (qo : Nat) (V : Array Value) (qb : Nat) (vb : Value) (W : World) : Prop := W.heap[qo]? = some (.cells V 42 (0, 0)) ∧ W.heap[qb]? = some (.cells #[.int .i64 1, vb] 46 (0, 0))
theorem batch_info (ao : Option Addr) (N cap : Nat) : (Tryz.prog.info? 46).map (·.size) = some (#[Value.int .i64 1, Value.slice ao N cap] : Array Value).size := by
  show _ = some 2
  kernel_rfl
set_option maxHeartbeats 8000000 in
theorem walk_MergeNil {w : World} (hE : Env w) (o : Ot) (ho : OtOk o) {v : Value} {l : List Sale} (hA : LiesR saleK w v l) (hreach : l.length * 5 ≤ 140737488351232) :
    Calls Tryz.prog 7 #[.agg (otArr o), v] w fun e w' => e = .returned (.bool true) ∧ Below w.heap.size w w' := by
  obtain ⟨WB, hWB⟩ : ∃ W, w.alloc (.cells (otArr o) 42) = W := ⟨_, rfl⟩
  obtain ⟨qo, hqo⟩ : ∃ b, w.heap.size = b := ⟨_, rfl⟩
  have b0 : Below w.heap.size w WB := by rw [← hWB]; exact (Below.refl _ _).alloc (Nat.le_refl _) _
  have HB0 : Has (BlkT qo (.cells (otArr o) 42 (0, 0))) w WB := by
    rw [← hqo]
    exact ((Has.nil (Below.refl _ _)).newBlk b0 (by rw [← hWB]; exact heap_alloc_new w _) (Nat.le_refl _)).right
  have CSAN := Lib.hid (sanity_any WB (hE.below b0))
  have HA0 := Lib.hid (hA.below b0)
  have HE := Lib.hid hE
  have HO := Lib.hid ho
  have HL := Lib.hid (show l.length ≤ 9000000000000000000 by omega)
  have A48 := ngall_le l
  obtain ⟨A, hAA⟩ : ∃ A, gall l = A := ⟨_, rfl⟩
  rw [hAA] at A48
  have HAA := Lib.hid hAA
  have V2I := ot_info ho
  obtain ⟨V, hV⟩ : ∃ V, otArr o = V := ⟨_, rfl⟩
  have LV : Hid (∀ qb vb W, NilS qo V qb vb W → (loadVar 42 ⟨qo, 0, none⟩).run Tryz.prog W = .ok (.agg V) W) := fun qb vb W hr => by
    have := run_loadVar_mid W qo 0 42 (otList o) _ (fun j v hv => by
      rw [Nat.zero_add, cell_of_row _ _ _ _ _ _ hr.1, ← hV, otArr, List.getElem?_toArray]; exact hv) Tryz.underlying42 rfl (by rw [V2I]; simp [otArr])
    rw [show (otList o).toArray = V from hV] at this
    exact this
  rw [hV] at V2I HB0 hWB ⊢
  have CNL : Hid (∀ W, Calls Tryz.prog 16 #[.pointer none, .agg V] W fun e w' => e = .returned (.int .i64 1) ∧ Below W.heap.size W w') := fun W => by rw [← hV]; exact nil_learn W
  have VI := Lib.hid V2I
  have HB1 := Lib.hid HB0
  have HWB := Lib.hid hWB
  have HQO := Lib.hid hqo
  have HV := Lib.hid hV
  clear hE ho hA hreach hAA V2I HB0 hWB hqo hV b0
  go_enter Tryz.func7, Tryz.ntmps7
  go_upto_region 1 with fail
  rw [HWB.out, HQO.out]
  go_wp2_with fail
  refine CSAN.out.mono ?_
  rintro e w1 ⟨rfl, b1⟩
  have H1 := Lib.hid (HB1.out.below b1)
  have CS := Lib.hid (sales_any (HA0.out.below b1) HL.out)
  rw [HAA.out] at CS
  clear b1 CSAN HA0 HL HAA HB1 HWB
  go_wp2_with fail
  refine CS.out.mono ?_
  rintro e w2 ⟨v4, rfl, o2, b2⟩
  obtain ⟨N, hN⟩ : ∃ N, A.length = N := ⟨_, rfl⟩
  obtain ⟨ao, cap, hv⟩ : ∃ ao cap, v4 = .slice ao N cap := by
    obtain ⟨ao, cap, h | h⟩ := o2.lies.slice hN
    · exact ⟨ao, cap, h.1⟩
    · exact ⟨ao, cap, h.1⟩
  subst hv
  have bzv : Below w2.heap.size w2 (w2.alloc (.cells #[.int .i64 1, .slice ao N cap] 46)) := (Below.refl _ _).alloc (Nat.le_refl _) _
  have H2 := Lib.hid (((H1.out.newRows b2 o2).newBlk bzv (heap_alloc_new w2 (.cells #[.int .i64 1, .slice ao N cap] 46)) (Nat.le_refl _)).assoc)
  have E3 := Lib.hid (World.setRow_alloc_new w2 #[.int .i64 0, .slice none 0 0] #[.int .i64 1, .slice ao N cap] 46)
  have F3 := Lib.hid (heap_alloc_new w2 (.cells #[.int .i64 0, .slice none 0 0] 46))
  have RI := Lib.hid (batch_info ao N cap)
  have HN := Lib.hid hN
  have N48 : N ≤ 48 := by omega
  clear b2 o2 CS H1 bzv hN A48
  go_upto_region 3 with (refine wpList_store_row rfl 46 (.tmp 6) (.tmp 13) rfl w2.heap.size #[.int .i64 1, .slice ao N cap] rfl rfl 46 _ F3.out RI.out rfl rfl ?_; rw [E3.out]; simp only [Act.put])
  obtain ⟨qb, hqb⟩ : ∃ z, w2.heap.size = z := ⟨_, rfl⟩
  rw [hqb] at H2 ⊢
  generalize w2.alloc (.cells #[.int .i64 1, .slice ao N cap] 46) = w3 at *
  clear hqb E3 F3 RI
  have BK := Lib.hid H2.out.left.blk
  have CNT : Hid (∀ W, Calls Tryz.prog 18 #[.pointer none, .agg #[.int .i64 1, .slice ao N cap]] W fun e w' => e = .returned (.int .i64 1) ∧ Below W.heap.size W w') := fun W => nil_take rfl W
  go_wp2_with (refine wpList_load_row rfl 42 (.tmp 2) rfl qo rfl 42 V (0, 0) _ BK.out Tryz.underlying42 rfl VI.out ?_)
  refine (CNL.out _).mono ?_
  rintro e w4 ⟨rfl, b4⟩
  have H4 := Lib.hid (H2.out.below b4)
  have k0 : w4.cell? ⟨qb, 0, none⟩ = some (.int .i64 1) := (cell_of_row _ _ 0 _ _ _ H4.out.right.right.blk).trans rfl
  have k1 : w4.cell? ⟨qb, 1, none⟩ = some (.slice ao N cap) := (cell_of_row _ _ 1 _ _ _ H4.out.right.right.blk).trans rfl
  clear b4 H2 BK CNL
  go_wp2_with fail
  refine (CNT.out _).mono ?_
  rintro e w5 ⟨rfl, b5⟩
  have H5 := Lib.hid (H4.out.below b5)
  clear b5 H4 k0 k1 CNT
  go_wp2_with fail
  refine (nil_receipts _).mono ?_
  rintro e w6 ⟨rfl, b6⟩
  have H6 := Lib.hid (H5.out.below b6)
  clear b6 H5
  go_wp2_with fail
  refine (nil_late _).mono ?_
  rintro e w7 ⟨rfl, b7⟩
  have H7 := Lib.hid (H6.out.below b7)
  clear b7 H6
  go_wp2_with fail
  refine (nil_evidence _).mono ?_
  rintro e w8 ⟨rfl, b8⟩
  have H8 := Lib.hid (H7.out.below b8)
  clear b8 H7
  go_wp2_with fail
  refine (nil_encode _).mono ?_
  rintro e w9 ⟨rfl, b9⟩
  have H9 := Lib.hid (H8.out.below b9)
  have HZ := Lib.hid (zero_has H9.out)
  have CR := Lib.hid (rnew_has HZ.out)
  clear b9 H8 H9
  go_wp2_with fail
  refine CR.out.mono ?_
  rintro e w10 ⟨q, rfl, h10⟩
  obtain ⟨p, hp⟩ : ∃ p, w9.heap.size = p := ⟨_, rfl⟩
  rw [hp] at h10 ⊢
  have H10 : Hid (Has (((MrgT p (newSt []) 0).both (RMT q [])).both ((BlkT qo (.cells V 42 (0, 0))).both ((RowsT rcK (.slice ao N cap) A).both (BlkT qb (.cells #[.int .i64 1, .slice ao N cap] 46 (0, 0)))))) w w10) := ((h10.assoc'.swap.mapRight Thing.swap).swap)
  clear h10 hp CR HZ
  have LBT : Hid (∀ W, NilS qo V qb (.slice ao N cap) W → (loadVar 46 ⟨qb, 0, none⟩).run Tryz.prog W = .ok (.agg #[.int .i64 1, .slice ao N cap]) W) := fun W h => by
    have c0 : W.cell? ⟨qb, 0, none⟩ = some (.int .i64 1) := (cell_of_row _ _ 0 _ _ _ h.2).trans rfl
    have c1 : W.cell? ⟨qb, 1, none⟩ = some (.slice ao N cap) := (cell_of_row _ _ 1 _ _ _ h.2).trans rfl
    go_simp
  have LV : Hid (∀ W, NilS qo V qb (.slice ao N cap) W → (loadVar 42 ⟨qo, 0, none⟩).run Tryz.prog W = .ok (.agg V) W) := fun W h => LV.out _ _ W h
  obtain ⟨hs1, he1⟩ := lrn_new.learn HO.out
  obtain ⟨st1, hst1⟩ : ∃ s, ((newSt []).learn o.rd o.hash).1 = s := ⟨_, rfl⟩
  obtain ⟨L1, hL1⟩ : ∃ s, (rlearnO [] o).1 = s := ⟨_, rfl⟩
  have l1 := rlearnO_len [] o
  rw [hst1, hL1] at hs1
  rw [hL1] at l1
  have l1 : L1.length ≤ 1 := l1
  obtain ⟨hs2, he2⟩ := hs1.learn HO.out
  obtain ⟨st2, hst2⟩ : ∃ s, (st1.learn o.rd o.hash).1 = s := ⟨_, rfl⟩
  obtain ⟨L2, hL2⟩ : ∃ s, (rlearnO L1 o).1 = s := ⟨_, rfl⟩
  have l2 := rlearnO_len L1 o
  rw [hst2, hL2] at hs2
  rw [hL2] at l2
  obtain ⟨E1, hE1⟩ : ∃ e, learnErr (rlearnO [] o).2 = e := ⟨_, rfl⟩
  obtain ⟨E2, hE2⟩ : ∃ e, learnErr (rlearnO L1 o).2 = e := ⟨_, rfl⟩
  have CL1 : Hid (∀ W m, m ≤ 100000 → Has (((MrgT p (newSt []) m).both (RMT q [])).both ((BlkT qo (.cells V 42 (0, 0))).both ((RowsT rcK (.slice ao N cap) A).both (BlkT qb (.cells #[.int .i64 1, .slice ao N cap] 46 (0, 0)))))) w W → Calls Tryz.prog 16 #[.pointer (some ⟨p, 0, none⟩), .agg V] W (Out1 (((MrgT p st1 (m + 1)).both (RMT q [])).both ((BlkT qo (.cells V 42 (0, 0))).both ((RowsT rcK (.slice ao N cap) A).both (BlkT qb (.cells #[.int .i64 1, .slice ao N cap] 46 (0, 0)))))) w (.int .i64 E1))) := fun W m hm h => by
    have := learn_mid h o HO.out hm
    rw [he1, hE1, hst1, HV.out] at this
    exact this
  have CR1 : Hid (∀ W m, Has (((MrgT p st1 m).both (RMT q [])).both ((BlkT qo (.cells V 42 (0, 0))).both ((RowsT rcK (.slice ao N cap) A).both (BlkT qb (.cells #[.int .i64 1, .slice ao N cap] 46 (0, 0)))))) w W → Calls Tryz.prog 28 #[.pointer (some ⟨q, 0, none⟩), .agg V] W (Out1 (((MrgT p st1 m).both (RMT q L1)).both ((BlkT qo (.cells V 42 (0, 0))).both ((RowsT rcK (.slice ao N cap) A).both (BlkT qb (.cells #[.int .i64 1, .slice ao N cap] 46 (0, 0)))))) w (.int .i64 E1))) := fun W m h => by
    have := rlearn_mid h o HO.out List.Pairwise.nil (by simp)
    rw [hE1, hL1, HV.out] at this
    exact this
  have CL2 : Hid (∀ W m, m ≤ 100000 → Has (((MrgT p st1 m).both (RMT q L1)).both ((BlkT qo (.cells V 42 (0, 0))).both ((RowsT rcK (.slice ao N cap) A).both (BlkT qb (.cells #[.int .i64 1, .slice ao N cap] 46 (0, 0)))))) w W → Calls Tryz.prog 16 #[.pointer (some ⟨p, 0, none⟩), .agg V] W (Out1 (((MrgT p st2 (m + 1)).both (RMT q L1)).both ((BlkT qo (.cells V 42 (0, 0))).both ((RowsT rcK (.slice ao N cap) A).both (BlkT qb (.cells #[.int .i64 1, .slice ao N cap] 46 (0, 0)))))) w (.int .i64 E2))) := fun W m hm h => by
    have := learn_mid h o HO.out hm
    rw [he2, hE2, hst2, HV.out] at this
    exact this
  have CR2 : Hid (∀ W m, Has (((MrgT p st2 m).both (RMT q L1)).both ((BlkT qo (.cells V 42 (0, 0))).both ((RowsT rcK (.slice ao N cap) A).both (BlkT qb (.cells #[.int .i64 1, .slice ao N cap] 46 (0, 0)))))) w W → Calls Tryz.prog 28 #[.pointer (some ⟨q, 0, none⟩), .agg V] W (Out1 (((MrgT p st2 m).both (RMT q L2)).both ((BlkT qo (.cells V 42 (0, 0))).both ((RowsT rcK (.slice ao N cap) A).both (BlkT qb (.cells #[.int .i64 1, .slice ao N cap] 46 (0, 0)))))) w (.int .i64 E2))) := fun W m h => by
    have := rlearn_mid h o HO.out hs1.sorted (by omega)
    rw [hE2, hL2, HV.out] at this
    exact this
  have HS2 := Lib.hid hs2
  have L2L : Hid (L2.length ≤ 2) := by show _ ≤ _; omega
  obtain ⟨T, hT⟩ : ∃ T, bstr (L2.flatMap oLine) = T := ⟨_, rfl⟩
  have HT := Lib.hid hT
  have d1 : (E1 == E1) = true := by simp
  have d2 : (E2 == E2) = true := by simp
  have SX : Hid (∀ W (T : Thing), Has (T.both ((BlkT qo (.cells V 42 (0, 0))).both ((RowsT rcK (.slice ao N cap) A).both (BlkT qb (.cells #[.int .i64 1, .slice ao N cap] 46 (0, 0)))))) w W → NilS qo V qb (.slice ao N cap) W) := fun W T h => ⟨h.right.left.blk, h.right.right.right.blk⟩
  have CT : Hid (∀ W, Has (((MrgT p (newSt []) 0).both (RMT q [])).both ((BlkT qo (.cells V 42 (0, 0))).both ((RowsT rcK (.slice ao N cap) A).both (BlkT qb (.cells #[.int .i64 1, .slice ao N cap] 46 (0, 0)))))) w W → Calls Tryz.prog 18 #[.pointer (some ⟨p, 0, none⟩), .agg #[.int .i64 1, .slice ao N cap]] W (Out1 (((MrgT p (newSt []) N).both (RMT q [])).both ((BlkT qo (.cells V 42 (0, 0))).both ((RowsT rcK (.slice ao N cap) A).both (BlkT qb (.cells #[.int .i64 1, .slice ao N cap] 46 (0, 0)))))) w (.int .i64 34))) := fun W h => by
    have := take_rows h.assoc HE.out 1 (by decide) h.right.right.left.rows.lies h.right.right.left.rows.typed' (by rw [HN.out]; omega)
    rw [Mg.take_none (by rfl), HN.out, Nat.zero_add] at this
    exact this.mono fun e w' ⟨a, b⟩ => ⟨a, b.assoc'⟩
  clear hs1 he1 hst1 hL1 l1 hs2 he2 hst2 hL2 l2 hE1 hE2 hT HO HV VI
  go_upto_region 8 with fail
  refine wp_region_tree (NilS qo V qb (.slice ao N cap)) (.one [0, 1, 2, 3] 4 (.one [5, 6, 7, 8, 9, 11, 12] 10 (.one [] 13 (.one [14, 15, 16, 17, 18, 20, 21] 19 (.one [] 22 (.one [23, 24, 25, 26, 28] 27 (.one [] 29 (.one [30, 31, 32, 33] 34 (.last [35, 36, 37, 38]))))))))) (by kernel_rfl) (by kernel_rfl) (by kernel_rfl) (SX.out _ _ (H10.out.below (Below.refl _ _).drew)) ?_
  have Hv0 := Lib.hid (H10.out.below (Below.refl _ _).drew)
  clear H10
  generalize w10.drew = v0 at *
  refine tree_one ?_
  simp only [List.map_cons, List.map_nil, opN, List.getD_cons_succ, List.getD_cons_zero]
  repeat (first
    | (refine quiet_load_row (by rfl) _ (.tmp 6) rfl _ _ rfl (.agg #[.int .i64 1, .slice ao N cap]) (fun w' h => LBT.out w' h) ?_; simp only [Act.put, List.setIfInBounds_toArray, List.set_cons_zero, List.set_cons_succ])
    | go_big_quiet_step (fail)
    | (go_big_quiet_want; go_big_quiet_op; refine ⟨_, fun _ _ => rfl, ?_⟩; go_big_quiet_on))
  refine wpQuiet_nil ?_
  refine tree_step (by rfl) fun K hK => ?_
  go_simp
  refine (CT.out _ Hv0.out).mono ?_
  rintro e v1 ⟨rfl, h⟩
  have Hv1 := Lib.hid h
  refine hK _ _ (SX.out _ _ h) ?_
  clear hK K h Hv0
  refine tree_one ?_
  simp only [List.map_cons, List.map_nil, opN, List.getD_cons_succ, List.getD_cons_zero]
  repeat (first
    | (refine quiet_load_row (by rfl) _ (.tmp 2) rfl _ _ rfl (.agg V) (fun w' h => LV.out w' h) ?_; simp only [Act.put, List.setIfInBounds_toArray, List.set_cons_zero, List.set_cons_succ])
    | go_big_quiet_step (fail)
    | (go_big_quiet_want; go_big_quiet_op; refine ⟨_, fun _ _ => rfl, ?_⟩; go_big_quiet_on))
  refine wpQuiet_nil ?_
  refine tree_step (by rfl) fun K hK => ?_
  go_simp
  refine (CL1.out _ _ (by omega) Hv1.out).mono ?_
  rintro e v2 ⟨rfl, h⟩
  have Hv2 := Lib.hid h
  refine hK _ _ (SX.out _ _ h) ?_
  clear hK K h Hv1
  refine tree_one ?_
  simp only [List.map_nil, opN, List.getD_cons_succ, List.getD_cons_zero]
  repeat (first
    | go_big_quiet_step (fail)
    | (go_big_quiet_want; go_big_quiet_op; refine ⟨_, fun _ _ => rfl, ?_⟩; go_big_quiet_on))
  refine wpQuiet_nil ?_
  refine tree_step (by rfl) fun K hK => ?_
  go_simp
  refine (CR1.out _ _ Hv2.out).mono ?_
  rintro e v3 ⟨rfl, h⟩
  have Hv3 := Lib.hid h
  refine hK _ _ (SX.out _ _ h) ?_
  clear hK K h Hv2
  refine tree_one ?_
  simp only [List.map_cons, List.map_nil, opN, List.getD_cons_succ, List.getD_cons_zero]
  repeat (first
    | (refine quiet_load_row (by rfl) _ (.tmp 2) rfl _ _ rfl (.agg V) (fun w' h => LV.out w' h) ?_; simp only [Act.put, List.setIfInBounds_toArray, List.set_cons_zero, List.set_cons_succ])
    | go_big_quiet_step (fail)
    | (go_big_quiet_want; go_big_quiet_op; refine ⟨_, fun _ _ => rfl, ?_⟩; go_big_quiet_on))
  refine wpQuiet_nil ?_
  refine tree_step (by rfl) fun K hK => ?_
  go_simp
  refine (CL2.out _ _ (by omega) Hv3.out).mono ?_
  rintro e v4 ⟨rfl, h⟩
  have Hv4 := Lib.hid h
  refine hK _ _ (SX.out _ _ h) ?_
  clear hK K h Hv3
  refine tree_one ?_
  simp only [List.map_nil, opN, List.getD_cons_succ, List.getD_cons_zero]
  repeat (first
    | go_big_quiet_step (fail)
    | (go_big_quiet_want; go_big_quiet_op; refine ⟨_, fun _ _ => rfl, ?_⟩; go_big_quiet_on))
  refine wpQuiet_nil ?_
  refine tree_step (by rfl) fun K hK => ?_
  go_simp
  refine (CR2.out _ _ Hv4.out).mono ?_
  rintro e v5 ⟨rfl, h⟩
  have Hv5 := Lib.hid h
  refine hK _ _ (SX.out _ _ h) ?_
  clear hK K h Hv4
  refine tree_one ?_
  simp only [List.map_cons, List.map_nil, opN, List.getD_cons_succ, List.getD_cons_zero]
  repeat (first
    | go_big_quiet_step (fail)
    | (go_big_quiet_want; go_big_quiet_op; refine ⟨_, fun _ _ => rfl, ?_⟩; go_big_quiet_on))
  refine wpQuiet_nil ?_
  refine tree_step (by rfl) fun K hK => ?_
  obtain ⟨vp, vo, vk, vc, hm5⟩ := Hv5.out.left.left.mrg
  have EW := HE.out.below Hv5.out.base
  have CE := Lib.hid (encode_any hm5 (by omega) EW.1 EW.2)
  clear hm5 EW
  go_simp
  refine CE.out.mono ?_
  rintro e v6 ⟨ko, ks, kc, k1, k2, k3, rfl, b6⟩
  rw [HS2.out.text k1 k2 k3, HT.out]
  have Hv6 := Lib.hid (Hv5.out.below b6)
  refine hK _ _ (SX.out _ _ Hv6.out) ?_
  clear hK K k1 k2 k3 b6 CE Hv5
  refine tree_one ?_
  simp only [List.map_nil, opN, List.getD_cons_succ, List.getD_cons_zero]
  repeat (first
    | go_big_quiet_step (fail)
    | (go_big_quiet_want; go_big_quiet_op; refine ⟨_, fun _ _ => rfl, ?_⟩; go_big_quiet_on))
  refine wpQuiet_nil ?_
  refine tree_step (by rfl) fun K hK => ?_
  obtain ⟨vr, hr6⟩ := Hv6.out.left.right.rm
  have CE := Lib.hid (rencode_any hr6 (by have := L2L.out; omega) fun o ho => (HS2.out.ok o ho).2)
  rw [HT.out] at CE
  clear hr6
  go_simp
  refine CE.out.mono ?_
  rintro e v7 ⟨rfl, b7⟩
  have Hv7 := Lib.hid (Hv6.out.below b7)
  refine hK _ _ (SX.out _ _ Hv7.out) ?_
  clear hK K b7 CE Hv6
  refine tree_one ?_
  simp only [List.map_cons, List.map_nil, opN, List.getD_cons_succ, List.getD_cons_zero]
  repeat (first
    | go_big_quiet_step (fail)
    | (go_big_quiet_want; go_big_quiet_op; refine ⟨_, fun _ _ => rfl, ?_⟩; go_big_quiet_on))
  refine wpQuiet_nil ?_
  refine tree_step (by rfl) fun K hK => ?_
  have CP := Lib.hid (receipts_has (d := [77, 97, 121]) (rd := 9) Hv7.out.left.left (by omega) HS2.out.few HS2.out.keys)
  rw [show bstr [77, 97, 121] = ⟨#[77, 97, 121]⟩ from rfl] at CP
  go_simp
  refine CP.out.mono ?_
  rintro e v8 ⟨v9, rfl, o9, b9⟩
  have o9 : OwnsR rcK v8 v7.heap.size v9 [] := o9
  obtain ⟨a9, c9, rfl⟩ := own_nil_slice o9
  have Hv8 := Lib.hid (Hv7.out.below b9)
  refine hK _ _ (SX.out _ _ Hv8.out) ?_
  clear hK K b9 o9 CP Hv7
  refine tree_last ?_
  simp only [List.map_cons, List.map_nil, opN, List.getD_cons_succ, List.getD_cons_zero]
  repeat (first
    | go_big_quiet_step (fail)
    | (go_big_quiet_want; go_big_quiet_op; refine ⟨_, fun _ _ => rfl, ?_⟩; go_big_quiet_on))
  refine wpQuiet_nil ?_
  refine NoPanic.normal ?_
  have BF := Lib.hid Hv8.out.base
  clear Hv8
  go_wp2_with fail
  go_ret
  exact ⟨rfl, BF.out⟩
end Go.Proofs.YtpblfpnldbdncaaGreatDoor
