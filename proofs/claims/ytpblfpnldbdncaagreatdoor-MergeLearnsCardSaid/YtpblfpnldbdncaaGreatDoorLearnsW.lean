/- The walk of the law MergeLearns. -/
import Derived.Test.YtpblfpnldbdncaaGreatDoorG23
import Derived.Test.YtpblfpnldbdncaaGreatDoorSameW
import Derived.Test.YtpblfpnldbdncaaGreatDoorLrnM
namespace Go.Proofs.YtpblfpnldbdncaaGreatDoor
open Go.RowKit Go.Sort Go.Maps
open Sg (Rc)
open Mg (Mst Jd H)
set_option linter.unusedVariables false
set_option maxRecDepth 100000
attribute [local go_sem ↓] wp_alloc_ot
theorem ot_set_hash {o : Ot} (ho : OtOk o) (k : Nat) (hk : k < 32) (b : UInt8) : (otArr o).setIfInBounds (35 + k) (.int .u8 (b.toNat : Int)) = otArr { o with hash := o.hash.set k b } := by
  obtain ⟨e1, e2⟩ := hcl_split o.hash k (by rw [ho.hash]; exact hk) b
  have := set_mid ([.int .i64 o.rd, .int .i64 o.val, .string o.fin] ++ (hcl o.locked ++ hcl (o.hash.take k))) (hcl (o.hash.drop (k + 1))) (.int .u8 ((o.hash[k]'(by rw [ho.hash]; exact hk)).toNat : Int)) (.int .u8 (b.toNat : Int)) (35 + k) (by simp [hcl_length, ho.locked, ho.hash]; omega)
  simp only [otArr, otList, e1, e2]
  simp only [List.append_assoc, List.cons_append] at this ⊢
  exact this
theorem ot_byte {w : World} {r : Nat} {o : Ot} {t : TypeId} (ho : OtOk o) (h : w.heap[r]? = some (.cells (otArr o) t (0, 0))) {k : Nat} (hk : k < 32) : w.cell? ⟨r, 35 + k, none⟩ = some (.int .u8 ((o.hash.getD k 0).toNat : Int)) :=
  (ot_cells ho h).2 k _ (hcl_get (by rw [ho.hash]; exact hk))
theorem ot_flip {o : Ot} (ho : OtOk o) : OtOk { o with hash := flip o.hash 31 } := ⟨ho.rd, ho.val, ho.fin, ho.locked, by rw [flip_length]; exact ho.hash⟩
theorem nat_u32 {a : Int} (h : (Lit.int .u32 a).wf = true) : ∃ u : Nat, a = (u : Int) ∧ u ≤ 4294967295 := by
  have hz : 0 ≤ a ∧ a ≤ 4294967295 := by simpa [Lit.wf, IntKind.min, IntKind.max, IntKind.signed, IntKind.bits] using h
  exact ⟨a.toNat, by omega, by omega⟩
/-- New of no kiosks -/
theorem new_nil_has {T : Thing} {w0 w : World} (h : Has T w0 w) :
    Calls Tryz.prog 14 #[.slice none 0 0] w fun e w' => ∃ p, e = .returned (.pointer (some ⟨p, 0, none⟩)) ∧ Has ((MrgT p (newSt []) 0).both T) w0 w' := by
  refine (new_any (ms := []) (LiesR.nil none 0) (by simp)).mono ?_
  rintro e w' ⟨p, b, rfl, hm, hb, np, nb⟩
  refine ⟨p, rfl, (h.newMrg hb hm (fun k hk => ?_)).swap⟩
  rcases hk with rfl | hk | hk | hk | hk
  · exact np
  · injection hk with hk; rw [← hk]; exact nb
  · cases hk
  · cases hk
  · cases hk
set_option maxHeartbeats 8000000 in
theorem walk_MergeLearns {w : World} (hE : Env w) (ao : Option Addr) (n c : Nat) (zs : List Int) (hx : IntsIn w ao n c zs) (bits : Nat) (hbits : bits ≤ 4294967295) :
    Calls Tryz.prog 6 #[.slice ao n c, .int .u32 (bits : Int)] w fun e w' => e = .returned (.bool true) ∧ Below w.heap.size w w' := by
  have CSAN := Lib.hid (sanity_any w hE)
  have HE := Lib.hid hE
  have HX := Lib.hid hx
  obtain ⟨HX1, hHX⟩ : ∃ h, Sha.sum [120] = h := ⟨_, rfl⟩
  have HXL := Lib.hid (show HX1.length = 32 by rw [← hHX]; exact Sha.sum_length _)
  have CS := Lib.hid (fun W => rsum_is ⟨#[120]⟩ HX1 W (by decide) hHX)
  have n0 : (0 : Int) ≤ (n : Int) := by omega
  clear hE hx hHX
  go_enter Tryz.func6, Tryz.ntmps6
  go_wp2_with fail
  refine CSAN.out.mono ?_
  rintro e w1 ⟨rfl, b1⟩
  have H1 := Lib.hid (Has.nil b1)
  have CN := Lib.hid (new_nil_has H1.out)
  clear b1 CSAN
  go_wp2_with fail
  refine CN.out.mono ?_
  rintro e w2 ⟨p, rfl, h2⟩
  have CR := Lib.hid (rnew_has h2)
  clear h2 CN H1
  go_wp2_with fail
  refine CR.out.mono ?_
  rintro e w3 ⟨q, rfl, h3⟩
  have H3 : Hid (Has ((MrgT p (newSt []) 0).both (RMT q [])) w w3) := h3.assoc'.left.swap
  clear h3 CR
  go_upto_block 0 with fail
  go_cut [] (fun wx => ∃ st L m, m ≤ 20 ∧ L.length ≤ 20 ∧ LrnS st L ∧ Has ((MrgT p st m).both (RMT q L)) w wx)
  case first =>
    go_wp2_with fail
    go_loopw [8] (fun v8 wx => ∃ k st L m, k ≤ 20 ∧ v8 = .int .i64 ((k : Nat) : Int) ∧ m ≤ k ∧ L.length ≤ k ∧ LrnS st L ∧ Has ((MrgT p st m).both (RMT q L)) w wx) (fun v8 _ => 20 - (intOf v8).toNat)
    case atStart => exact ⟨0, newSt [], [], 0, by omega, rfl, by omega, by simp, lrn_new, H3.out⟩
    case round =>
      obtain ⟨k, st, L, m, hk, rfl, hm, hL, hs, hh⟩ := hrel
      have HH := Lib.hid hh
      have HS := Lib.hid hs
      have HLL := Lib.hid hL
      clear hh hs hL H3
      by_cases c1 : k < n
      · have d1 : decide ((k : Int) < (n : Int)) = true := decide_eq_true (by omega)
        have d1' : decide (k < n) = true := decide_eq_true c1
        by_cases c2 : k < 20
        · have d2 : decide ((k : Int) < 20) = true := decide_eq_true (by omega)
          obtain ⟨bo, oo, e1, hc⟩ := HX.out.some (by omega)
          subst e1
          obtain ⟨z, hz⟩ : ∃ z, zs.getD k 0 = z := ⟨_, rfl⟩
          have ck := hc k c1
          have ZI : Hid (I64 z) := by
            show I64 z
            rw [← hz, List.getD_eq_getElem?_getD, List.getElem?_eq_getElem (by rw [HX.out.len]; exact c1)]
            exact HX.out.wf _ (List.getElem_mem _)
          rw [hz] at ck
          have LZ : Hid (∀ W, Below wr.heap.size wr W → (loadVar 3 ⟨bo, oo + k, none⟩).run Tryz.prog W = .ok (.int .i64 z) W) := fun W hb =>
            load_i64 ((hb.cell (p := ⟨bo, oo + k, none⟩) (Nat.lt_of_lt_of_le (block_lt_of_cell ck) HH.out.size)).trans ((HH.out.base.cell (p := ⟨bo, oo + k, none⟩) (block_lt_of_cell ck)).trans ck))
          have z0 : (0 : Int) ≤ (k : Int) := by omega
          have z1 : (k : Int) < (n : Int) := by omega
          have BO := Lib.hid (fun W => run_build_ot z HXL.out W)
          have OK := Lib.hid (otOf_ok ZI.out HXL.out)
          obtain ⟨O1, hO1⟩ : ∃ x, otOf z HX1 = x := ⟨_, rfl⟩
          have ORD : Hid (O1.rd = z) := by show _ = _; rw [← hO1]; rfl
          rw [hO1] at OK BO
          obtain ⟨V, hV⟩ : ∃ V, otArr O1 = V := ⟨_, rfl⟩
          have VI := ot_info OK.out
          have VO := otArr_one O1
          have VS := otArr_size OK.out
          rw [hV] at BO VI VO VS
          have VI := Lib.hid VI
          have VO := Lib.hid VO
          have VS := Lib.hid (show (otArr ot0).size = V.size by rw [VS, otArr_size ot0_ok])
          have HV := Lib.hid hV
          clear hc ck hz hV hO1
          go_upto_region 6 with fail
          go_cut [9] (fun v9 wx => ∃ b, v9 = .pointer (some ⟨b, 0, none⟩) ∧ Has (((MrgT p st m).both (RMT q L)).both (BlkT b (.cells V 42 (0, 0)))) w wx)
          case first =>
            refine wp_region_tree (fun W => Below wr.heap.size wr W) (.two [0, 1, 2, 3] 4 (.one [5] 6 (.one [] 7 (.last []))) 6 (.one [] 4 (.one [5] 7 (.last [])))) (by kernel_rfl) (by kernel_rfl) (by kernel_rfl) (Below.refl _ _).drew ?_
            have FRv0 : Hid (Below wr.heap.size wr wr.drew) := (Below.refl _ _).drew
            generalize wr.drew = v0 at *
            refine tree_two ?_
            simp only [List.map_cons, List.map_nil, opN, List.getD_cons_succ, List.getD_cons_zero]
            repeat (first
              | (refine quiet_load_row (by rfl) _ (.tmp 25) rfl _ _ rfl (.int .i64 z) (fun w' h => LZ.out w' h) ?_; simp only [Act.put, List.setIfInBounds_toArray, List.set_cons_zero, List.set_cons_succ])
              | go_big_quiet_step (fail)
              | (go_big_quiet_want; go_big_quiet_op; refine ⟨_, fun _ _ => rfl, ?_⟩; go_big_quiet_on))
            refine wpQuiet_nil ?_
            refine ⟨tree_step (by rfl) fun K hK => ?_, tree_step (by rfl) fun K hK => ?_⟩
            · go_simp
              refine (CS.out _).mono ?_
              rintro e v1 ⟨rfl, bq⟩
              have FRv1 := Lib.hid (below_join FRv0.out bq)
              refine hK _ _ FRv1.out ?_
              clear hK K bq
              refine tree_one ?_
              simp only [List.map_cons, List.map_nil, opN, List.getD_cons_succ, List.getD_cons_zero]
              repeat (first
                | (refine quiet_build (by rfl) 42 #[(0, .tmp 26), (4, .tmp 27)] rfl #[(0, .int .i64 z), (4, .agg (hashArr HX1))] (by simp only [List.map_toArray, List.map_cons, List.map_nil]; rfl) _ BO.out ?_; simp only [Act.put, List.setIfInBounds_toArray, List.set_cons_zero, List.set_cons_succ])
                | go_big_quiet_step (fail)
                | (go_big_quiet_want; go_big_quiet_op; refine ⟨_, fun _ _ => rfl, ?_⟩; go_big_quiet_on))
              refine wpQuiet_nil ?_
              refine tree_step (by rfl) fun K hK => ?_
              go_simp
              have bz : Below v1.heap.size v1 (v1.alloc (.cells (otArr ot0) 42)) := (Below.refl _ _).alloc (Nat.le_refl _) _
              have F0 := Lib.hid (heap_alloc_new v1 (.cells (otArr ot0) 42))
              have FRv2 := Lib.hid (below_join FRv1.out bz)
              have ZS : Hid (wr.heap.size ≤ v1.heap.size) := FRv1.out.size
              refine hK _ _ FRv2.out ?_
              clear hK K bz
              obtain ⟨b, hb⟩ : ∃ b, v1.heap.size = b := ⟨_, rfl⟩
              rw [hb] at F0 ZS ⊢
              generalize v1.alloc (.cells (otArr ot0) 42) = v2 at *
              clear hb
              refine tree_one ?_
              simp only [List.map_nil, opN, List.getD_cons_succ, List.getD_cons_zero]
              refine wpQuiet_nil ?_
              refine tree_step (by rfl) fun K hK => ?_
              refine wp_of_list (wpList_store_row rfl 42 (.tmp 9) (.tmp 28) rfl b V rfl rfl 42 _ F0.out VI.out VS.out VO.out ?_)
              have FB := Lib.hid (below_setRow FRv2.out ZS.out V)
              have FN := Lib.hid (setRow_heap _ _ _ V _ _ F0.out)
              refine hK _ _ FB.out ?_
              clear hK K
              refine tree_last ?_
              refine wpQuiet_nil ?_
              refine NoPanic.normal ?_
              have HB := Lib.hid (HH.out.newBlk FB.out FN.out ZS.out)
              go_wp2_with fail
              go_meet
              exact ⟨b, rfl, HB.out⟩
            · go_simp
              have bz : Below v0.heap.size v0 (v0.alloc (.cells (otArr ot0) 42)) := (Below.refl _ _).alloc (Nat.le_refl _) _
              have F0 := Lib.hid (heap_alloc_new v0 (.cells (otArr ot0) 42))
              have FRv1 := Lib.hid (below_join FRv0.out bz)
              have ZS : Hid (wr.heap.size ≤ v0.heap.size) := FRv0.out.size
              refine hK _ _ FRv1.out ?_
              clear hK K bz
              obtain ⟨b, hb⟩ : ∃ b, v0.heap.size = b := ⟨_, rfl⟩
              rw [hb] at F0 ZS ⊢
              generalize v0.alloc (.cells (otArr ot0) 42) = v1 at *
              clear hb
              refine tree_one ?_
              simp only [List.map_nil, opN, List.getD_cons_succ, List.getD_cons_zero]
              refine wpQuiet_nil ?_
              refine tree_step (by rfl) fun K hK => ?_
              go_simp
              refine (CS.out _).mono ?_
              rintro e v2 ⟨rfl, bq⟩
              have FRv2 := Lib.hid (below_join FRv1.out bq)
              have F0 := Lib.hid (heap_below F0.out bq)
              refine hK _ _ FRv2.out ?_
              clear hK K bq
              refine tree_one ?_
              simp only [List.map_cons, List.map_nil, opN, List.getD_cons_succ, List.getD_cons_zero]
              repeat (first
                | (refine quiet_build (by rfl) 42 #[(0, .tmp 26), (4, .tmp 27)] rfl #[(0, .int .i64 z), (4, .agg (hashArr HX1))] (by simp only [List.map_toArray, List.map_cons, List.map_nil]; rfl) _ BO.out ?_; simp only [Act.put, List.setIfInBounds_toArray, List.set_cons_zero, List.set_cons_succ])
                | go_big_quiet_step (fail)
                | (go_big_quiet_want; go_big_quiet_op; refine ⟨_, fun _ _ => rfl, ?_⟩; go_big_quiet_on))
              refine wpQuiet_nil ?_
              refine tree_step (by rfl) fun K hK => ?_
              refine wp_of_list (wpList_store_row rfl 42 (.tmp 9) (.tmp 28) rfl b V rfl rfl 42 _ F0.out VI.out VS.out VO.out ?_)
              have FB := Lib.hid (below_setRow FRv2.out ZS.out V)
              have FN := Lib.hid (setRow_heap _ _ _ V _ _ F0.out)
              refine hK _ _ FB.out ?_
              clear hK K
              refine tree_last ?_
              refine wpQuiet_nil ?_
              refine NoPanic.normal ?_
              have HB := Lib.hid (HH.out.newBlk FB.out FN.out ZS.out)
              go_wp2_with fail
              go_meet
              exact ⟨b, rfl, HB.out⟩
          case rest =>
            obtain ⟨b, rfl, hh⟩ := hcut
            have HB := Lib.hid hh
            rw [← HV.out] at HB
            clear hh HH VI VO VS BO LZ HV
            go_upto_if 33 with fail
            go_cut [] (fun wx => ∃ O2, OtOk O2 ∧ Has (((MrgT p st m).both (RMT q L)).both (BlkT b (.cells (otArr O2) 42 (0, 0)))) w wx)
            case first =>
              obtain ⟨b9, hb9⟩ : ∃ x, O1.hash.getD 31 0 = x := ⟨_, rfl⟩
              have kb : wc.cell? ⟨b, 66, none⟩ = some (.int .u8 (b9.toNat : Int)) := by
                have := ot_byte OK.out HB.out.right.blk (k := 31) (by omega)
                rw [hb9] at this
                exact this
              have fb : wc.frozen? ⟨b, 66, none⟩ = false := frozen_of_row _ _ _ _ _ HB.out.right.blk
              have HB9 := Lib.hid hb9
              clear hb9
              generalize (Go.bits BinOp.and IntKind.u32 ((bits : Int) / 2 ^ k) 1 == 1) = bb
              cases bb
              · go_wp2_with fail
                go_meet
                exact ⟨O1, OK.out, HB.out⟩
              · go_wp2_with fail
                go_meet
                have X3 := heap_setCell_at (o := 35 + 31) HB.out.right.blk (.int .u8 ((b9 ^^^ 1).toNat : Int))
                rw [ot_set_hash OK.out 31 (by omega)] at X3
                have EF : ({ O1 with hash := O1.hash.set 31 (b9 ^^^ 1) } : Ot) = { O1 with hash := flip O1.hash 31 } := by unfold flip; rw [HB9.out]
                rw [EF] at X3
                have e66 := flip_byte b9
                rw [e66]
                exact ⟨_, ot_flip OK.out, HB.out.setBlk (Turned.setCell (F := fun k => k = b) (Turned.of_below (Below.refl _ _)) (.inl rfl) 66 (.int .u8 ((b9 ^^^ 1).toNat : Int))) X3⟩
            case rest =>
              obtain ⟨O2, ho2, hh⟩ := hcut
              obtain ⟨hs2, he2⟩ := HS.out.learn ho2
              have CL : Hid (∀ W, Has (((MrgT p st m).both (RMT q L)).both (BlkT b (.cells (otArr O2) 42 (0, 0)))) w W → Calls Tryz.prog 16 #[.pointer (some ⟨p, 0, none⟩), .agg (otArr O2)] W (Out1 (((MrgT p (st.learn O2.rd O2.hash).1 (m + 1)).both (RMT q L)).both (BlkT b (.cells (otArr O2) 42 (0, 0)))) w (.int .i64 (learnErr (st.learn O2.rd O2.hash).2)))) := fun W h => learn_mid h O2 ho2 (by omega)
              have CRL : Hid (∀ W st m, Has (((MrgT p st m).both (RMT q L)).both (BlkT b (.cells (otArr O2) 42 (0, 0)))) w W → Calls Tryz.prog 28 #[.pointer (some ⟨q, 0, none⟩), .agg (otArr O2)] W (Out1 (((MrgT p st m).both (RMT q (rlearnO L O2).1)).both (BlkT b (.cells (otArr O2) 42 (0, 0)))) w (.int .i64 (learnErr (rlearnO L O2).2)))) := fun W st m h => rlearn_mid h O2 ho2 HS.out.sorted (by have := HLL.out; omega)
              have L2l := rlearnO_len L O2
              rw [he2] at CL
              obtain ⟨E1, hE1⟩ : ∃ e, learnErr (rlearnO L O2).2 = e := ⟨_, rfl⟩
              obtain ⟨st2, hst2⟩ : ∃ s, (st.learn O2.rd O2.hash).1 = s := ⟨_, rfl⟩
              obtain ⟨L2, hL2⟩ : ∃ s, (rlearnO L O2).1 = s := ⟨_, rfl⟩
              obtain ⟨V2, hV2⟩ : ∃ s, otArr O2 = s := ⟨_, rfl⟩
              rw [hE1, hst2, hV2] at CL
              rw [hE1, hL2, hV2] at CRL
              rw [hst2, hL2] at hs2
              rw [hL2] at L2l
              rw [hV2] at hh
              have V2I := ot_info ho2
              rw [hV2] at V2I
              have LV : Hid (∀ W : World, W.heap[b]? = some (.cells V2 42 (0, 0)) → (loadVar 42 ⟨b, 0, none⟩).run Tryz.prog W = .ok (.agg V2) W) := fun W hr => by
                have := run_loadVar_mid W b 0 42 (otList O2) _ (fun j v hv => by
                  rw [Nat.zero_add, cell_of_row _ _ _ _ _ _ hr, ← hV2, otArr, List.getElem?_toArray]; exact hv) Tryz.underlying42 rfl (by rw [V2I, ← hV2]; simp [otArr])
                rw [show (otList O2).toArray = V2 from hV2] at this
                exact this
              have H2 := Lib.hid hh
              have HS2 := Lib.hid hs2
              have L2L : Hid (L2.length ≤ k + 1) := by show _ ≤ _; have := HLL.out; omega
              have dE : (E1 != E1) = false := by simp
              obtain ⟨T, hT⟩ : ∃ T, bstr (L2.flatMap oLine) = T := ⟨_, rfl⟩
              have HT := Lib.hid hT
              clear hh ho2 HB OK ORD hE1 hst2 hL2 hV2 hs2 he2 L2l V2I HS HLL hT
              go_upto_region 9 with fail
              refine wp_region_tree (fun W => W.heap[b]? = some (.cells V2 42 (0, 0))) (.one [0, 1, 3, 4] 2 (.one [] 5 (.one [6, 7, 8, 10] 9 (.one [] 11 (.last [12, 13]))))) (by kernel_rfl) (by kernel_rfl) (by kernel_rfl) (H2.out.below (Below.refl _ _).drew).right.blk ?_
              have H3 := Lib.hid (H2.out.below (Below.refl _ _).drew)
              clear H2
              generalize wc.drew = v0 at *
              refine tree_one ?_
              simp only [List.map_cons, List.map_nil, opN, List.getD_cons_succ, List.getD_cons_zero]
              repeat (first
                | (refine quiet_load_row (by rfl) _ (.tmp 9) rfl _ _ rfl (.agg V2) (fun w' h => LV.out w' h) ?_; simp only [Act.put, List.setIfInBounds_toArray, List.set_cons_zero, List.set_cons_succ])
                | go_big_quiet_step (fail)
                | (go_big_quiet_want; go_big_quiet_op; refine ⟨_, fun _ _ => rfl, ?_⟩; go_big_quiet_on))
              refine wpQuiet_nil ?_
              refine tree_step (by rfl) fun K hK => ?_
              go_simp
              refine (CL.out _ H3.out).mono ?_
              rintro e v1 ⟨rfl, h4⟩
              have H4 := Lib.hid h4
              refine hK _ _ H4.out.right.blk ?_
              clear hK K h4 CL H3
              refine tree_one ?_
              simp only [List.map_nil, opN, List.getD_cons_succ, List.getD_cons_zero]
              refine wpQuiet_nil ?_
              refine tree_step (by rfl) fun K hK => ?_
              go_simp
              refine (CRL.out _ _ _ H4.out).mono ?_
              rintro e v2 ⟨rfl, h5⟩
              have H5 := Lib.hid h5
              refine hK _ _ H5.out.right.blk ?_
              clear hK K h5 CRL H4
              refine tree_one ?_
              simp only [List.map_cons, List.map_nil, opN, List.getD_cons_succ, List.getD_cons_zero]
              repeat (first
                | go_big_quiet_step (fail)
                | (go_big_quiet_want; go_big_quiet_op; refine ⟨_, fun _ _ => rfl, ?_⟩; go_big_quiet_on))
              refine wpQuiet_nil ?_
              refine tree_step (by rfl) fun K hK => ?_
              obtain ⟨vp, vo, vk, vc, hm5⟩ := H5.out.left.left.mrg
              have EW := HE.out.below H5.out.base
              have CE := Lib.hid (encode_any hm5 (by omega) EW.1 EW.2)
              clear hm5 EW
              go_simp
              refine CE.out.mono ?_
              rintro e v3 ⟨ko, ks, kc, k1, k2, k3, rfl, b3⟩
              rw [HS2.out.text k1 k2 k3, HT.out]
              have H6 := Lib.hid (H5.out.below b3)
              refine hK _ _ H6.out.right.blk ?_
              clear hK K k1 k2 k3 b3 CE H5
              refine tree_one ?_
              simp only [List.map_nil, opN, List.getD_cons_succ, List.getD_cons_zero]
              refine wpQuiet_nil ?_
              refine tree_step (by rfl) fun K hK => ?_
              obtain ⟨vr, hr6⟩ := H6.out.left.right.rm
              have CE := Lib.hid (rencode_any hr6 (by have := L2L.out; omega) fun o ho => (HS2.out.ok o ho).2)
              rw [HT.out] at CE
              clear hr6
              go_simp
              refine CE.out.mono ?_
              rintro e v4 ⟨rfl, b4⟩
              have H7 := Lib.hid (H6.out.below b4)
              refine hK _ _ H7.out.right.blk ?_
              clear hK K b4 CE H6
              refine tree_last ?_
              simp only [List.map_cons, List.map_nil, opN, List.getD_cons_succ, List.getD_cons_zero]
              repeat (first
                | go_big_quiet_step (fail)
                | (go_big_quiet_want; go_big_quiet_op; refine ⟨_, fun _ _ => rfl, ?_⟩; go_big_quiet_on))
              refine wpQuiet_nil ?_
              refine NoPanic.normal ?_
              go_wp2_with fail
              refine ⟨⟨k + 1, st2, L2, m + 1, by omega, rfl, by omega, L2L.out, HS2.out, H7.out.left⟩, by simp [intOf]; omega⟩
        · have d2 : decide ((k : Int) < 20) = false := decide_eq_false (by omega)
          clear c2
          go_wp2_with fail
          go_meet
          exact ⟨st, L, m, by omega, by have := HLL.out; omega, HS.out, HH.out⟩
      · have d1 : decide ((k : Int) < (n : Int)) = false := decide_eq_false (by omega)
        have d1' : decide (k < n) = false := decide_eq_false c1
        clear c1
        go_wp2_with fail
        go_meet
        exact ⟨st, L, m, by omega, by have := HLL.out; omega, HS.out, HH.out⟩
  case rest =>
    obtain ⟨st, L, m, hm, hL, hs, hh⟩ := hcut
    have H6 := Lib.hid hh
    have CSM := Lib.hid (same_has hh hs (by omega) (by omega) HE.out)
    clear hh hs H3 HX
    go_wp2_with fail
    refine CSM.out.mono ?_
    rintro e w8 ⟨rfl, b8⟩
    have BF := Lib.hid (H6.out.below b8).base
    clear b8 CSM H6
    go_wp2_with fail
    go_ret
    exact ⟨rfl, BF.out⟩
end Go.Proofs.YtpblfpnldbdncaaGreatDoor
