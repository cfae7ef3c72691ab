/- The walk of the law MergeBroken. -/
import Derived.Test.YtpblfpnldbdncaaGreatDoorG24
import Derived.Test.YtpblfpnldbdncaaGreatDoorG23
namespace Go.Proofs.YtpblfpnldbdncaaGreatDoor
open Go.RowKit Go.Sort Go.Maps
open Sg (Rc)
open Mg (Mst Jd H Pap Sale Pos zeroH)
set_option linter.unusedVariables false
set_option maxRecDepth 100000
attribute [local go_sem ↓] wp_alloc_rc
theorem own_snoc (n : Nat) (A : List Rc) (x : Rc) : Mg.own n (A ++ [x]) = Mg.own n A ++ if x.kiosk = (n : Int) then [x] else [] := by
  unfold Mg.own
  rw [List.filter_append]
  by_cases h : x.kiosk = (n : Int)
  · simp [h]
  · simp [h]
set_option maxHeartbeats 8000000 in
theorem walk_MergeBroken {w : World} (hE : Env w) {v : Value} {l : List Sale} (hA : LiesR saleK w v l) (hreach : l.length * 5 ≤ 140737488351232) (u : Nat) (hu : u ≤ 255) :
    Calls Tryz.prog 4 #[v, .int .u8 (u : Int)] w fun e w' => e = .returned (.bool true) ∧ Below w.heap.size w w' := by
  have CSAN := Lib.hid (sanity_any w hE)
  have HE := Lib.hid hE
  have HA := Lib.hid hA
  have HR := Lib.hid hreach
  have OWN := Lib.hid (ownL 2 l)
  obtain ⟨Lh, hLh⟩ : ∃ L, honL l = L := ⟨_, rfl⟩
  have HHON := Lib.hid (honL_hon l)
  have HLEN := Lib.hid (honL_len l)
  have HLH := Lib.hid hLh
  rw [hLh] at OWN HHON HLEN
  clear hE hA hreach hLh
  go_enter Tryz.func4, Tryz.ntmps4
  go_wp2_with fail
  refine CSAN.out.mono ?_
  rintro e w1 ⟨rfl, b1⟩
  have B1 := Lib.hid b1
  have CH := Lib.hid (honest_any (HA.out.below b1) HR.out)
  rw [HLH.out] at CH
  clear b1 CSAN
  go_wp2_with fail
  refine CH.out.mono ?_
  rintro e w2 ⟨v20, rfl, o2, b2⟩
  obtain ⟨N, hN⟩ : ∃ N, Lh.length = N := ⟨_, rfl⟩
  obtain ⟨ao, cap, hv⟩ : ∃ ao cap, v20 = .slice ao N cap := by
    obtain ⟨ao, cap, h | h⟩ := o2.lies.slice hN
    · exact ⟨ao, cap, h.1⟩
    · exact ⟨ao, cap, h.1⟩
  subst hv
  have B2 := Lib.hid (B1.out.trans (b2.mono B1.out.size))
  have LI := Lib.hid o2.lies
  have HN := Lib.hid hN
  have N24 : N ≤ 24 := by rw [← hN]; exact HLEN.out
  clear b2 o2 CH hN B1
  go_wp2_with fail
  go_loopw [6, 22] (fun v6 v22 wx => ∃ i : Nat, i ≤ N ∧ v22 = .int .i64 i ∧ OwnsR rcK wx w2.heap.size v6 (Mg.own 2 (Lh.take i)) ∧ (Mg.own 2 (Lh.take i)).length ≤ i ∧ Below w2.heap.size w2 wx) (fun _ v22 _ => N - (intOf v22).toNat)
  case atStart => exact ⟨0, Nat.zero_le _, rfl, OwnsR.nil _ _ _, Nat.le_refl 0, Below.refl _ _⟩
  case round =>
    obtain ⟨i, hi, rfl, ho, hlen, hb⟩ := hrel
    have HO := Lib.hid ho
    have HN2 := Lib.hid hlen
    have HB := Lib.hid hb
    clear ho hlen hb
    by_cases hlt : i < N
    · have d1 : decide ((i : Int) < (N : Int)) = true := decide_eq_true (by omega)
      have d2 : decide (i < N) = true := decide_eq_true hlt
      obtain ⟨x, hx⟩ : ∃ x, Lh[i]? = some x := ⟨Lh[i]'(by rw [HN.out]; exact hlt), List.getElem?_eq_getElem _⟩
      obtain ⟨g, o, cap', e, _, glt, rg, xok⟩ := LI.out.at hx
      injection e with e e2 e3
      clear e2
      subst e e3
      have HX := Lib.hid hx
      have OK := Lib.hid xok
      have RG : Hid (RcAt wr g (o + i * 102) x) := fun j v hv => (HB.out.cell (p := ⟨g, o + i * 102 + j, none⟩) glt).trans (rg j v hv)
      have RI := Lib.hid (rc_info xok)
      have RO := Lib.hid (rcArr_one x)
      have RZ := Lib.hid (show (rcArr rc0).size = (rcArr x).size by rw [rcArr_size rc0_ok, rcArr_size xok])
      have E3 := Lib.hid (World.setRow_alloc_new wr (rcArr rc0) (rcArr x) 31)
      have F3 := Lib.hid (heap_alloc_new wr (.cells (rcArr rc0) 31))
      have F4 := Lib.hid (heap_alloc_new wr (.cells (rcArr x) 31))
      have BZ : Hid (Below wr.heap.size wr (wr.alloc (.cells (rcArr x) 31))) := (Below.refl _ _).alloc (Nat.le_refl _) _
      clear hx rg xok
      go_upto_region 6 with (first
        | (refine wpList_load_c rfl (.tmp 24) rfl g (o + i * 102) rfl OK.out RG.out ?_)
        | (refine wpList_store_row rfl 31 (.tmp 8) (.tmp 25) rfl wr.heap.size (rcArr x) rfl rfl 31 _ F3.out RI.out RZ.out RO.out ?_; rw [E3.out]; simp only [Act.put]))
      obtain ⟨q, hq⟩ : ∃ q, wr.heap.size = q := ⟨_, rfl⟩
      have HO2 := Lib.hid (HO.out.below BZ.out)
      have HB2 := Lib.hid (HB.out.trans (BZ.out.mono HB.out.size))
      rw [hq] at F4 ⊢
      generalize wr.alloc (.cells (rcArr x) 31) = W2 at *
      clear hq E3 F3 RZ RG BZ HO HB
      obtain ⟨kk, hkk⟩ : ∃ k, x.kiosk = k := ⟨_, rfl⟩
      have k0 : W2.cell? ⟨q, 0, none⟩ = some (.int .i64 kk) := by
        rw [← hkk]; exact (cell_of_row _ _ 0 _ _ _ F4.out).trans rfl
      have KS : Hid (Mg.own 2 (Lh.take (i + 1)) = Mg.own 2 (Lh.take i) ++ if kk = 2 then [x] else []) := by
        show _ = _
        rw [take_succ_get HX.out, own_snoc, hkk]
        rfl
      clear hkk
      by_cases h2 : kk = 2
      · subst h2
        rw [if_pos rfl] at KS
        have bz : Below W2.heap.size W2 (W2.alloc (.cells (rcK.enc x).toArray rcK.ty)) := (Below.refl _ _).alloc (Nat.le_refl _) _
        have OZ := Lib.hid (HO2.out.below bz)
        have BZ := Lib.hid (HB2.out.trans (bz.mono HB2.out.size))
        have NZ := Lib.hid (heap_alloc_new W2 (.cells (rcK.enc x).toArray rcK.ty))
        have LZ : Hid ((Mg.own 2 (Lh.take i)).length ≤ 100000) := by show _ ≤ _; have := HN2.out; omega
        clear bz
        go_wp2_with (first
          | (refine wpList_load_row rfl 31 (.tmp 8) rfl q rfl 31 (rcArr x) (0, 0) _ F4.out Tryz.underlying31 rfl RI.out ?_)
          | (refine wpList_build_r rcK rfl (.tmp 30) rfl OK.out (.agg (rcArr x)) rfl rfl ?_)
          | (at_builtin; refine wpList_append_r rcK rfl (.tmp 29) (.tmp 31) rfl w2.heap.size u6 (Mg.own 2 (Lh.take i)) x W2.heap.size rfl rfl OZ.out OK.out NZ.out LZ.out BZ.out.size ?_; intro v5' w8 hown8 hg8))
        refine ⟨⟨i + 1, hlt, rfl, by rw [KS.out]; exact hown8, by rw [KS.out, List.length_append]; have := HN2.out; simp; omega, BZ.out.grown hg8 BZ.out.size (fun b e => (OZ.out.base_le b e).1)⟩, by simp [intOf]; omega⟩
      · have h2' : (kk == 2) = false := by simpa using h2
        rw [if_neg h2, List.append_nil] at KS
        clear h2
        go_wp2_with fail
        refine ⟨⟨i + 1, hlt, rfl, by rw [KS.out]; exact HO2.out, by rw [KS.out]; have := HN2.out; omega, HB2.out⟩, by simp [intOf]; omega⟩
    · have ei : i = N := by omega
      have d1 : decide ((i : Int) < (N : Int)) = false := decide_eq_false (by omega)
      have d2 : decide (i < N) = false := decide_eq_false hlt
      have ET := Lib.hid (show Lh.take i = Lh by rw [ei, ← HN.out]; exact List.take_length)
      obtain ⟨L, hL⟩ : ∃ L, Mg.own 2 Lh = L := ⟨_, rfl⟩
      rw [ET.out, hL] at HO HN2
      rw [hL] at OWN
      obtain ⟨n, hn⟩ : ∃ n, L.length = n := ⟨_, rfl⟩
      obtain ⟨ao6, cap6, hv6⟩ : ∃ ao cap, u6 = .slice ao n cap := by
        obtain ⟨ao, cap, h | h⟩ := HO.out.lies.slice hn
        · exact ⟨ao, cap, h.1⟩
        · exact ⟨ao, cap, h.1⟩
      subst hv6
      have n24 : n ≤ 24 := by rw [← hn]; exact OWN.out.len
      have HNL := Lib.hid hn
      have HT : Hid (Has (RowsT rcK (.slice ao6 n cap6) L) w wr) := ((Has.nil B2.out).newRows HB.out HO.out).right
      have BW := Lib.hid HT.out.base
      clear hL hn ei hlt ET HN2 LI HLEN HHON HO HB B2
      by_cases hz : n = 0
      · subst hz
        go_wp2_with fail
        go_ret
        exact ⟨rfl, BW.out⟩
      · have hz' : ((n : Int) == 0) = false := by simp; omega
        obtain ⟨g, cap, e⟩ : ∃ g cap, ao6 = some ⟨g, 0, none⟩ ∧ cap6 = cap := by
          obtain ⟨g, cap, e⟩ := keys_nil_slice (HT.out.rows) HNL.out (by omega)
          injection e with e1 e2 e3
          exact ⟨g, cap, e1, e3⟩
        obtain ⟨rfl, rfl⟩ := e
        obtain ⟨k, hk⟩ : ∃ k, u % n = k := ⟨_, rfl⟩
        have kn : k < n := by rw [← hk]; exact Nat.mod_lt _ (by omega)
        have e2 : (u : Int).tmod (n : Int) = (k : Int) := by rw [Int.tmod_eq_emod_of_nonneg (by omega)]; omega
        have ku0 : (0 : Int) ≤ (u : Int) := by omega
        have ku1 : (u : Int) ≤ 255 := by omega
        have CK := Lib.hid (fun W => kiosks_any 3 (by omega) W)
        clear hk hz
        go_upto_region 12 with fail
        go_wp2_with fail
        refine (CK.out _).mono ?_
        rintro e w4 ⟨v43, rfl, o4, b4⟩
        have CN := Lib.hid (new_has (HT.out.below b4) o4 (by decide))
        clear o4 b4
        go_wp2_with fail
        refine CN.out.mono ?_
        rintro e w5 ⟨p1, rfl, h5⟩
        have H5 := Lib.hid h5
        clear h5 CN
        go_wp2_with fail
        refine (CK.out _).mono ?_
        rintro e w6 ⟨v45, rfl, o6, b6⟩
        have CN := Lib.hid (new_has (H5.out.below b6) o6 (by decide))
        clear o6 b6 H5
        go_wp2_with fail
        refine CN.out.mono ?_
        rintro e w7 ⟨p2, rfl, h7⟩
        have H7 : Hid (Has ((MrgT p2 (stUp 0) (4 + 0)).both ((MrgT p1 (stUp 0) (4 + 0)).both (RowsT rcK (.slice (some ⟨g, 0, none⟩) n cap6) L))) w w7) := h7
        clear h7 CN CK HT BW
        go_wp2_with fail
        go_loopw [12, 47] (fun _ v47 wx => ∃ i : Nat, i ≤ 50 ∧ v47 = .int .i64 i ∧ Has ((MrgT p2 (stUp i) (4 + i)).both ((MrgT p1 (stUp i) (4 + i)).both (RowsT rcK (.slice (some ⟨g, 0, none⟩) n cap6) L))) w wx) (fun _ v47 _ => 50 - (intOf v47).toNat)
        case atStart => exact ⟨0, Nat.zero_le _, rfl, H7.out⟩
        case round =>
          obtain ⟨j, hj, rfl, hh⟩ := hrel
          have HH := Lib.hid hh
          clear hh
          by_cases hjt : j < 50
          · have d3 : decide ((j : Int) < 50) = true := decide_eq_true (by omega)
            have CO := Lib.hid (fun W => output_any ((j : Int) + 1) ⟨by omega, by omega⟩ W)
            have OO := Lib.hid (otOf_ok (n := (j : Int) + 1) ⟨by omega, by omega⟩ (outHash_len ((j : Int) + 1)))
            have ES := Lib.hid (stUp_succ j)
            go_wp2_with fail
            refine (CO.out _).mono ?_
            rintro e w8 ⟨rfl, b8⟩
            have CL := Lib.hid (learn_has (HH.out.below b8).rot (otOf ((j : Int) + 1) (outHash ((j : Int) + 1))) OO.out (by omega))
            obtain ⟨V, hV⟩ : ∃ V, otArr (otOf ((j : Int) + 1) (outHash ((j : Int) + 1))) = V := ⟨_, rfl⟩
            rw [hV] at CL CO
            rw [hV]
            have HV := Lib.hid hV
            clear b8 hV
            go_wp2_with fail
            refine CL.out.mono ?_
            rintro e w9 ⟨rfl, h9⟩
            have H9 := Lib.hid h9.rot.rot
            clear h9 CL
            go_wp2_with fail
            refine (CO.out _).mono ?_
            rintro e w10 ⟨rfl, b10⟩
            have CL := Lib.hid (learn_has (H9.out.below b10) (otOf ((j : Int) + 1) (outHash ((j : Int) + 1))) OO.out (by omega))
            rw [HV.out] at CL
            clear b10
            go_wp2_with fail
            refine CL.out.mono ?_
            rintro e w11 ⟨rfl, h11⟩
            have H11 := Lib.hid h11
            clear h11 CL
            go_wp2_with fail
            refine ⟨⟨j + 1, hjt, rfl, ?_⟩, by simp [intOf]; omega⟩
            rw [ES.out]
            exact H11.out
          · have ej : j = 50 := by omega
            subst ej
            have HQ := Lib.hid HH.out
            clear hjt hj HH
            obtain ⟨a, ha⟩ : ∃ a, L[k]? = some a := ⟨L[k]'(by rw [HNL.out]; exact kn), List.getElem?_eq_getElem _⟩
            have HaH := Lib.hid (OWN.out.hon a (List.mem_of_getElem? ha))
            obtain ⟨bb, hbb⟩ : ∃ b, sgn 5006 { a with prev := flip a.prev 9 } = b := ⟨_, rfl⟩
            have HBB := Lib.hid hbb
            have hbr : ∃ st1 st2 st3, BrokenA L k a bb (stUp 50) st1 st2 st3 := by
              obtain ⟨s1, s2, s3⟩ := stUp_base 50 (by omega)
              refine broken_plain OWN.out ha ?_ ?_ ?_ ?_ ?_ s1 s2 s3
              · rw [← hbb]; exact (OWN.out.all a (List.mem_of_getElem? ha)).1
              · rw [← hbb]; rfl
              · rw [← hbb]; rfl
              · rw [← hbb]; exact flip_ne (by rw [HaH.out.sm.ok.prev]; omega)
              · rw [← hbb]; exact rver_k 2 _
            obtain ⟨st1, st2, st3, hbr⟩ := hbr
            have S := Lib.hid hbr
            obtain ⟨R, hR⟩ : ∃ R, L.take k ++ L.drop (k + 1) = R := ⟨_, rfl⟩
            have HRR := Lib.hid hR
            have HAA := Lib.hid ha
            have RL : Hid (R.length + 1 = n) := by
              show _ = _
              rw [← hR, List.length_append, List.length_take, List.length_drop, HNL.out]
              omega
            have hcp := lies_cap HQ.out.right.right.rows.lies (by rw [HNL.out]; omega)
            rw [HNL.out] at hcp
            have HCP := Lib.hid hcp
            clear hbr hbb ha hR hcp
            have z0 : (0 : Int) ≤ (k : Int) := by omega
            have z1 : (k : Int) ≤ (cap6 : Int) := by have := HCP.out; omega
            have z2 : (0 : Int) ≤ (k : Int) + 1 := by omega
            have z3 : (k : Int) + 1 ≤ (n : Int) := by omega
            have z4 : (n : Int) ≤ (cap6 : Int) := by have := HCP.out; omega
            have z5 : (k : Int) ≤ 100 := by omega
            obtain ⟨ad, had⟩ : ∃ ad : Addr, (if cap6 = k + 1 then some (⟨g, 0, none⟩ : Addr) else some ⟨g, (k + 1) * 102, none⟩) = some ad ∧ (k + 1 < n → ad = ⟨g, (k + 1) * 102, none⟩) := by
              by_cases e : cap6 = k + 1
              · exact ⟨⟨g, 0, none⟩, if_pos e, fun h => by have := HCP.out; omega⟩
              · exact ⟨⟨g, (k + 1) * 102, none⟩, if_neg e, fun _ => rfl⟩
            have HAD := Lib.hid had
            clear had
            go_upto_region 20 with fail
            go_cut [14] (fun v14 wx => Has ((MrgT p2 (stUp 50) (4 + 50)).both ((MrgT p1 (stUp 50) (4 + 50)).both ((RowsT rcK (.slice (some ⟨g, 0, none⟩) n cap6) L).both (RowsT rcK v14 R)))) w wx)
            case first =>
              refine wp_region_plan (fun _ => True) [10] [([1, 2, 3, 5, 6, 7, 8], 0), ([], 4), ([], 9)] (by kernel_rfl) (by kernel_rfl) (by kernel_rfl) trivial ?_
              simp only [List.map_cons, List.map_nil, opN, List.getD_cons_succ, List.getD_cons_zero]
              have HD := Lib.hid (HQ.out.below (Below.refl _ _).drew)
              generalize World.drew _ = wd at *
              refine segs_cons ?_
              repeat (first
                | go_big_quiet_step (fail)
                | (go_big_quiet_want; go_big_quiet_op; refine ⟨_, fun _ _ => rfl, ?_⟩; go_big_quiet_on))
              rw [HAD.out.1]
              refine wpQuiet_nil ?_
              refine segs_step (by rfl) fun K hK => ?_
              go_simp
              have bz : Below wd.heap.size wd (wd.alloc (.cells #[] 31)) := (Below.refl _ _).alloc (Nat.le_refl _) _
              refine hK _ _ trivial ?_
              clear hK K
              have OE := Lib.hid (OwnsR.empty rcK wd)
              have HE1 := Lib.hid (HD.out.below bz)
              obtain ⟨z, hz⟩ : ∃ z, wd.heap.size = z := ⟨_, rfl⟩
              have BZ := Lib.hid bz
              rw [hz] at OE BZ ⊢
              have OE : Hid (OwnsR rcK (wd.alloc (.cells #[] 31)) z (.slice (some ⟨z, 0, none⟩) 0 0) []) := OE
              have hzz := Lib.hid hz
              clear hz bz
              generalize wd.alloc (.cells #[] 31) = we at *
              have CA := Lib.hid (part_cells HE1.out.right.right.rows HNL.out (Nat.zero_le k) (show k ≤ n by omega) (ad := ⟨g, 0, none⟩) (fun _ => by rw [Nat.zero_mul]))
              rw [List.drop_zero] at CA
              have LK := Lib.hid (show (L.take k).length = k by rw [List.length_take, HNL.out]; omega)
              have OKL := Lib.hid (HE1.out.right.right.rows.1)
              have ZS := Lib.hid (show z ≤ we.heap.size by have := BZ.out.size; have := hzz.out; omega)
              refine segs_cons ?_
              refine wpQuiet_nil ?_
              refine segs_step (by rfl) fun K hK => ?_
              refine wp_of_list (wpList_append_rs rcK rfl (.tmp 61) (.tmp 64) rfl z (.slice (some ⟨z, 0, none⟩) 0 0) [] (L.take k) ⟨g, 0, none⟩ k cap6 rfl rfl OE.out (fun y hy => OKL.out y (List.mem_of_mem_take hy)) LK.out CA.out (by simp; omega) ZS.out ?_)
              intro v65 w65 hown65 hg65
              refine hK _ _ trivial ?_
              clear hK K
              have hb65 : Below z wd w65 := BZ.out.grown hg65 (by rw [← hzz.out]; exact BZ.out.size) (fun b e => by
                have e : z = b := by simpa [Value.ownBlock] using e
                omega)
              have B65 := Lib.hid hb65
              have O65 : Hid (OwnsR rcK w65 z v65 (L.take k)) := hown65
              have H65 := Lib.hid (HD.out.below (by rw [hzz.out]; exact hb65))
              have ZS2 := Lib.hid (show z ≤ w65.heap.size by have := hg65.size; have := ZS.out; omega)
              clear hown65 hb65 HE1 CA OE
              have CA := Lib.hid (part_cells H65.out.right.right.rows HNL.out (show k + 1 ≤ n by omega) (Nat.le_refl n) HAD.out.2)
              rw [show L.take n = L by rw [← HNL.out]; exact List.take_length] at CA
              simp only [Act.put, List.setIfInBounds_toArray, List.set_cons_zero, List.set_cons_succ]
              refine segs_cons ?_
              refine wpQuiet_nil ?_
              refine segs_step (by rfl) fun K hK => ?_
              refine wp_of_list (wpList_append_rs rcK rfl (.tmp 65) (.tmp 69) rfl z v65 (L.take k) (L.drop (k + 1)) ad (n - (k + 1)) (cap6 - (k + 1)) rfl rfl O65.out (fun y hy => OKL.out y (List.mem_of_mem_drop hy)) (by rw [List.length_drop, HNL.out]) CA.out (by rw [LK.out]; omega) ZS2.out ?_)
              intro v70 w70 hown70 hg70
              rw [HRR.out] at hown70
              refine hK _ _ trivial ?_
              have hb70 : Below z wd w70 := B65.out.grown hg70 (by rw [← hzz.out]; exact B65.out.size) (fun b e => (O65.out.base_le b e).1)
              have H70 := Lib.hid (HD.out.newRows (by rw [hzz.out]; exact hb70) (by rw [hzz.out]; exact hown70)).assoc3
              clear hK K hown70 hg70 hb70 hg65
              simp only [Act.put, List.setIfInBounds_toArray, List.set_cons_zero, List.set_cons_succ]
              refine segs_nil ?_
              repeat (go_big_quiet_step (fail))
              refine wpQuiet_nil ?_
              refine NoPanic.normal ?_
              go_wp2_with fail
              go_meet
              exact H70.out
            case rest =>
              have HQ2 := Lib.hid hcut
              obtain ⟨ao14, cap14, hv⟩ : ∃ ao cap, u14 = .slice ao (n - 1) cap := by
                obtain ⟨ao, cap, h | h⟩ := hcut.right.right.right.rows.lies.slice (n := n - 1) (by have := RL.out; omega)
                · exact ⟨ao, cap, h.1⟩
                · exact ⟨ao, cap, h.1⟩
              subst hv
              clear hcut HQ HAD
              have T1 : Hid ((stUp 50).take rver rch 2 R = (st1, if k + 1 < n then 36 else 0)) := by
                show _ = _
                have := S.out.t1
                rw [HRR.out, HNL.out] at this
                exact this
              obtain ⟨e1, he1⟩ : ∃ e : Int, (if k + 1 < n then 36 else 0) = e := ⟨_, rfl⟩
              rw [he1] at T1
              obtain ⟨c, hc⟩ : ∃ c, decide ((k : Int) < (n : Int) - 1) = c := ⟨_, rfl⟩
              have hec : (e1 == 36) = c := by
                rw [← hc, ← he1]
                by_cases h : k + 1 < n
                · rw [if_pos h, decide_eq_true (by omega)]; rfl
                · rw [if_neg h, decide_eq_false (by omega)]; rfl
              have hcc : (c != c) = false := by cases c <;> rfl
              have CT := Lib.hid (take_rows HQ2.out.rot HE.out 2 (by decide) HQ2.out.right.right.right.rows.lies HQ2.out.right.right.right.rows.typed' (by have := RL.out; omega))
              rw [T1.out] at CT
              clear he1
              go_wp2_with fail
              refine CT.out.mono ?_
              rintro e w3 ⟨rfl, h3⟩
              have H3 := Lib.hid h3
              have CC := Lib.hid (cnt_has h3.left S.out.b1 (by have := RL.out; omega) (by rw [S.out.c1]; omega))
              rw [S.out.c1] at CC
              clear h3 CT HQ2
              go_wp2_with fail
              refine CC.out.mono ?_
              rintro e w4 ⟨rfl, b4⟩
              have H4 := Lib.hid (H3.out.below b4)
              clear b4 CC H3 hec hcc hc
              have y0 : ¬ cap6 = k := by have := HCP.out; omega
              have LP := Lib.hid (lies_part H4.out.right.left.left.rows HNL.out k (k + 1) (by omega) (by omega) (by
                obtain ⟨cs, fr, h⟩ := H4.out.right.left.left.rows.typed g rfl
                exact (Array.getElem?_eq_some_iff.1 h).1) (cap6 - k) (by have := HCP.out; omega))
              rw [one_part HAA.out, show k + 1 - k = 1 by omega] at LP
              have CT := Lib.hid (take_rows H4.out HE.out 2 (by decide) LP.out (fun b hb => by
                have e : g = b := by simpa [sliceBlk] using hb
                subst e
                exact H4.out.right.left.left.rows.typed g rfl) (by have := RL.out; simp; omega))
              rw [S.out.t2] at CT
              go_wp2_with fail
              refine CT.out.mono ?_
              rintro e w5 ⟨rfl, h5⟩
              have H5 := Lib.hid h5
              have CC := Lib.hid (cnt_has h5.left S.out.b2 (by have := RL.out; simp; omega) (by rw [S.out.c2, HNL.out]; omega))
              rw [S.out.c2, HNL.out] at CC
              clear h5 CT LP H4
              go_wp2_with fail
              refine CC.out.mono ?_
              rintro e w6 ⟨rfl, b6⟩
              have H6 := Lib.hid (H5.out.below b6)
              clear b6 CC H5
              have RA := Lib.hid ((H6.out.right.left.left.rows).rcAt HAA.out)
              have SMA := Lib.hid HaH.out.sm
              have OKA := Lib.hid HaH.out.sm.ok
              have RI := Lib.hid (rc_info OKA.out)
              have RO := Lib.hid (rcArr_one a)
              have RZ := Lib.hid (show (rcArr rc0).size = (rcArr a).size by rw [rcArr_size rc0_ok, rcArr_size OKA.out])
              have E3 := Lib.hid (World.setRow_alloc_new w6 (rcArr rc0) (rcArr a) 31)
              have F3 := Lib.hid (heap_alloc_new w6 (.cells (rcArr rc0) 31))
              have bz : Below w6.heap.size w6 (w6.alloc (.cells (rcArr a) 31)) := (Below.refl _ _).alloc (Nat.le_refl _) _
              have HA7 := Lib.hid (H6.out.newBlk bz (heap_alloc_new w6 (.cells (rcArr a) 31)) (Nat.le_refl _))
              clear bz H6
              go_upto_region 27 with (first
                | (refine wpList_load_c rfl (.tmp 109) rfl g (k * 102) rfl OKA.out RA.out ?_)
                | (refine wpList_store_row rfl 31 (.tmp 16) (.tmp 110) rfl w6.heap.size (rcArr a) rfl rfl 31 _ F3.out RI.out RZ.out RO.out ?_; rw [E3.out]; simp only [Act.put]))
              obtain ⟨ob, hob⟩ : ∃ q, w6.heap.size = q := ⟨_, rfl⟩
              rw [hob] at HA7 ⊢
              generalize w6.alloc (.cells (rcArr a) 31) = wa at *
              clear hob E3 F3 RA
              obtain ⟨b9, hb9⟩ : ∃ b, a.prev.getD 9 0 = b := ⟨_, rfl⟩
              have kb : wa.cell? ⟨ob, 77, none⟩ = some (.int .u8 (b9.toNat : Int)) := by
                have := (rc_byte OKA.out HA7.out.right.blk (k := 9) (by omega)).2.2
                rw [hb9] at this
                exact this
              have fb : wa.frozen? ⟨ob, 77, none⟩ = false := frozen_of_row _ _ _ _ _ HA7.out.right.blk
              have HB9 := Lib.hid hb9
              clear hb9
              go_upto_region 28 with fail
              rw [flip_byte]
              have X3 := heap_setCell_at (o := 68 + 9) HA7.out.right.blk (.int .u8 ((b9 ^^^ 1).toNat : Int))
              rw [rc_set_prev OKA.out 9 (by omega)] at X3
              have EF : ({ a with prev := a.prev.set 9 (b9 ^^^ 1) } : Rc) = { a with prev := flip a.prev 9 } := by unfold flip; rw [HB9.out]
              rw [EF] at X3
              have HA8 := Lib.hid (HA7.out.setBlk (Turned.setCell (F := fun k => k = ob) (Turned.of_below (Below.refl _ _)) (.inl rfl) 77 (.int .u8 ((b9 ^^^ 1).toNat : Int))) X3)
              clear X3 EF kb fb HA7
              generalize wa.setCell ⟨ob, 77, none⟩ (.int .u8 ((b9 ^^^ 1).toNat : Int)) = wb at *
              have SMF := Lib.hid (sm_prev SMA.out (o := flip a.prev 9) (by rw [flip_length]; exact OKA.out.prev))
              have CS := Lib.hid (fun W => signed_any 5006 1152921504606845789 2305843009213691579 _ SMF.out W rfl rfl (by omega))
              have SMB := Lib.hid (signed_sm 1152921504606845789 2305843009213691579 5006 rfl rfl SMF.out)
              have ES : Hid (({ a with prev := flip a.prev 9 } : Rc).signed sc 1152921504606845789 2305843009213691579 5006 = bb) := HBB.out
              rw [ES.out] at CS SMB
              have C0 : Hid (∀ W, Calls Tryz.prog 13 #[.int .i64 2] W fun e w' => e = .returned (.int .i64 5006) ∧ Below W.heap.size W w') := fun W => (secret_any 2 W (by omega)).mono fun e w' ⟨h1, h2⟩ => ⟨h1, by rw [← h2]; exact Below.refl _ _⟩
              have l1 := Lib.hid (load_rc_re SMF.out.ok (RcAt.of_row HA8.out.right.blk) (rc_block_lt HA8.out.right.blk))
              obtain ⟨R1, hR1⟩ : ∃ R1, ({ a with prev := flip a.prev 9 } : Rc) = R1 := ⟨_, rfl⟩
              rw [hR1] at HA8 SMF l1 CS
              clear hR1 ES
              refine wp_region_tail_below 3 (by kernel_rfl) (by kernel_rfl) ?_
              simp only [List.take_succ_cons, List.take_zero, List.drop_succ_cons, List.drop_zero]
              repeat (first
                | (refine quiet_load_row (by rfl) _ (.tmp 16) rfl _ _ rfl _ l1.out ?_; simp only [Act.put, List.setIfInBounds_toArray, List.set_cons_zero, List.set_cons_succ])
                | go_big_quiet_step ((first | with_reducible exact Calls.regrown_of (C0.out _) | with_reducible exact Calls.regrown_of (CS.out _))))
              refine wpQuiet_nil ?_
              intro _ hw'
              obtain ⟨⟨dq, osq⟩, hw''⟩ := hw'
              subst hw''
              have HC := Lib.hid (HA8.out.below (below_regrown wb dq osq))
              generalize grow (redrawn wb dq) osq = wc0 at *
              clear HA8 CS C0 l1
              have RI2 := Lib.hid (rc_info SMB.out.ok)
              have RO2 := Lib.hid (rcArr_one bb)
              have RZ2 := Lib.hid (show (rcArr R1).size = (rcArr bb).size by rw [rcArr_size SMF.out.ok, rcArr_size SMB.out.ok])
              go_upto_region 29 with (refine wpList_store_row rfl 31 (.tmp 16) (.tmp 119) rfl ob (rcArr bb) rfl rfl 31 _ HC.out.right.blk RI2.out RZ2.out RO2.out ?_; simp only [Act.put])
              have HC2 := Lib.hid (HC.out.setBlk (Turned.setRow (F := fun k => k = ob) (Turned.of_below (Below.refl _ _)) (.inl rfl) (rcArr bb)) (setRow_heap _ _ _ _ _ _ HC.out.right.blk))
              clear HC RO2 RZ2
              generalize wc0.setRow ob (rcArr bb) = wd at *
              have OKB := Lib.hid SMB.out.ok
              have RB := Lib.hid HC2.out.right.blk
              have bz : Below wd.heap.size wd (wd.alloc (.cells (rcK.enc bb).toArray rcK.ty)) := (Below.refl _ _).alloc (Nat.le_refl _) _
              have NZ := Lib.hid (heap_alloc_new wd (.cells (rcK.enc bb).toArray rcK.ty))
              have HC3 := Lib.hid (HC2.out.below bz).left.right.swap.assoc'
              have OZ := Lib.hid HC3.out.right.rows
              have LZ : Hid (R.length ≤ 100000) := by show _ ≤ _; have := RL.out; omega
              clear bz HC2
              have T3 : Hid ((stUp 50).take rver rch 2 (R ++ [bb]) = (st3, 36)) := by
                show _ = _
                rw [← HRR.out]; exact S.out.t3
              go_wp2_with (first
                | (refine wpList_load_row rfl 31 (.tmp 16) rfl ob rfl 31 (rcArr bb) (0, 0) _ RB.out Tryz.underlying31 rfl RI2.out ?_)
                | (refine wpList_build_r rcK rfl (.tmp 122) rfl OKB.out (.agg (rcArr bb)) rfl rfl ?_)
                | (at_builtin; refine wpList_append_r rcK rfl (.tmp 121) (.tmp 123) rfl 0 (.slice ao14 (n - 1) cap14) R bb wd.heap.size rfl rfl OZ.out OKB.out NZ.out LZ.out (Nat.zero_le _) ?_; intro v5' w8' hown8 hg8; obtain ⟨ao8, cap8, hv8⟩ := form_app hown8 RL.out; subst hv8))
              have H8 := HC3.out.dropGrown hg8
              have CT := Lib.hid (take_rows H8 HE.out 2 (by decide) hown8.lies hown8.typed' (by rw [List.length_append]; have := RL.out; simp; omega))
              rw [T3.out] at CT
              clear H8 hown8 hg8 HC3 OZ NZ
              refine CT.out.mono ?_
              rintro e w9 ⟨rfl, h9⟩
              have H9 := Lib.hid h9
              have CC := Lib.hid (cnt_has h9.left S.out.b3 (by rw [List.length_append]; have := RL.out; simp; omega) (by rw [S.out.c3]; omega))
              rw [S.out.c3] at CC
              clear h9 CT
              go_wp2_with fail
              refine CC.out.mono ?_
              rintro e w10 ⟨rfl, b10⟩
              have H10 := Lib.hid (H9.out.below b10)
              have CE := Lib.hid (evids_has H10.out.left (by rw [List.length_append]; have := RL.out; simp; omega) S.out.b3.few S.out.b3.keys HE.out)
              rw [show evids _ _ = _ from S.out.ev] at CE
              clear b10 CC H9
              go_wp2_with fail
              refine CE.out.mono ?_
              rintro e w11 ⟨v141, rfl, o11, b11⟩
              obtain ⟨ao, cap, hv⟩ : ∃ ao cap, v141 = .slice ao 0 cap := by
                obtain ⟨ao, cap, h | h⟩ := o11.lies.slice (n := 0) rfl
                · exact ⟨ao, cap, h.1⟩
                · exact ⟨ao, cap, h.1⟩
              subst hv
              have BF := Lib.hid (H10.out.below b11).base
              clear o11 b11 CE H10
              go_wp2_with fail
              go_ret
              exact ⟨rfl, BF.out⟩
end Go.Proofs.YtpblfpnldbdncaaGreatDoor
