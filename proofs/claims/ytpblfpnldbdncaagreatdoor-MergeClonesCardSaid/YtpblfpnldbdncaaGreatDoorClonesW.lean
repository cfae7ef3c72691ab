/- The walk of the law MergeClones. -/
import Derived.Test.YtpblfpnldbdncaaGreatDoorBrokenW
import Derived.Test.YtpblfpnldbdncaaGreatDoorCloneK
namespace Go.Proofs.YtpblfpnldbdncaaGreatDoor
open Go.RowKit Go.Sort Go.Maps
open Sg (Rc)
open Mg (Mst Jd H Pap Sale Pos zeroH)
set_option linter.unusedVariables false
set_option maxRecDepth 100000
attribute [local go_sem ↓] wp_alloc_rc
set_option maxHeartbeats 8000000 in
theorem walk_MergeClones {w : World} (hE : Env w) {v : Value} {l : List Sale} (hA : LiesR saleK w v l) (hreach : l.length * 5 ≤ 140737488351232) (u : Nat) (hu : u ≤ 255) (fb : Bool) :
    Calls Tryz.prog 3 #[v, .int .u8 (u : Int), .bool fb] w fun e w' => e = .returned (.bool true) ∧ Below w.heap.size w w' := by
  have CSAN := Lib.hid (sanity_any w hE)
  have HE := Lib.hid hE
  have HA := Lib.hid hA
  have HR := Lib.hid hreach
  have OWN := Lib.hid (ownL 1 l)
  obtain ⟨Lh, hLh⟩ : ∃ L, honL l = L := ⟨_, rfl⟩
  have HHON := Lib.hid (honL_hon l)
  have HLEN := Lib.hid (honL_len l)
  have HLH := Lib.hid hLh
  rw [hLh] at OWN HHON HLEN
  clear hE hA hreach hLh
  go_enter Tryz.func3, Tryz.ntmps3
  go_wp2_with fail
  refine CSAN.out.mono ?_
  rintro e w1 ⟨rfl, b1⟩
  have B1 := Lib.hid b1
  have CH := Lib.hid (honest_any (HA.out.below b1) HR.out)
  rw [HLH.out] at CH
  clear b1 CSAN
  go_wp2_with fail
  refine CH.out.mono ?_
  rintro e w2 ⟨v24, rfl, o2, b2⟩
  obtain ⟨N, hN⟩ : ∃ N, Lh.length = N := ⟨_, rfl⟩
  obtain ⟨ao, cap, hv⟩ : ∃ ao cap, v24 = .slice ao N cap := by
    obtain ⟨ao, cap, h | h⟩ := o2.lies.slice hN
    · exact ⟨ao, cap, h.1⟩
    · exact ⟨ao, cap, h.1⟩
  subst hv
  have B2 := Lib.hid (B1.out.trans (b2.mono B1.out.size))
  have LI := Lib.hid o2.lies
  have HN := Lib.hid hN
  have N24 : N ≤ 24 := by rw [← hN]; exact HLEN.out
  clear b2 o2 CH hN B1
  go_wp2_with fail
  go_loopw [8, 26] (fun v8 v26 wx => ∃ i : Nat, i ≤ N ∧ v26 = .int .i64 i ∧ OwnsR rcK wx w2.heap.size v8 (Mg.own 1 (Lh.take i)) ∧ (Mg.own 1 (Lh.take i)).length ≤ i ∧ Below w2.heap.size w2 wx) (fun _ v26 _ => N - (intOf v26).toNat)
  case atStart => exact ⟨0, Nat.zero_le _, rfl, OwnsR.nil _ _ _, Nat.le_refl 0, Below.refl _ _⟩
  case round =>
    obtain ⟨i, hi, rfl, ho, hlen, hb⟩ := hrel
    have HO := Lib.hid ho
    have HN2 := Lib.hid hlen
    have HB := Lib.hid hb
    clear ho hlen hb
    by_cases hlt : i < N
    · have d1 : decide ((i : Int) < (N : Int)) = true := decide_eq_true (by omega)
      have d2 : decide (i < N) = true := decide_eq_true hlt
      obtain ⟨x, hx⟩ : ∃ x, Lh[i]? = some x := ⟨Lh[i]'(by rw [HN.out]; exact hlt), List.getElem?_eq_getElem _⟩
      obtain ⟨g, o, cap', e, _, glt, rg, xok⟩ := LI.out.at hx
      injection e with e e2 e3
      clear e2
      subst e e3
      have HX := Lib.hid hx
      have OK := Lib.hid xok
      have RG : Hid (RcAt wr g (o + i * 102) x) := fun j v hv => (HB.out.cell (p := ⟨g, o + i * 102 + j, none⟩) glt).trans (rg j v hv)
      have RI := Lib.hid (rc_info xok)
      have RO := Lib.hid (rcArr_one x)
      have RZ := Lib.hid (show (rcArr rc0).size = (rcArr x).size by rw [rcArr_size rc0_ok, rcArr_size xok])
      have E3 := Lib.hid (World.setRow_alloc_new wr (rcArr rc0) (rcArr x) 31)
      have F3 := Lib.hid (heap_alloc_new wr (.cells (rcArr rc0) 31))
      have F4 := Lib.hid (heap_alloc_new wr (.cells (rcArr x) 31))
      have BZ : Hid (Below wr.heap.size wr (wr.alloc (.cells (rcArr x) 31))) := (Below.refl _ _).alloc (Nat.le_refl _) _
      clear hx rg xok
      go_upto_region 6 with (first
        | (refine wpList_load_c rfl (.tmp 28) rfl g (o + i * 102) rfl OK.out RG.out ?_)
        | (refine wpList_store_row rfl 31 (.tmp 10) (.tmp 29) rfl wr.heap.size (rcArr x) rfl rfl 31 _ F3.out RI.out RZ.out RO.out ?_; rw [E3.out]; simp only [Act.put]))
      obtain ⟨q, hq⟩ : ∃ q, wr.heap.size = q := ⟨_, rfl⟩
      have HO2 := Lib.hid (HO.out.below BZ.out)
      have HB2 := Lib.hid (HB.out.trans (BZ.out.mono HB.out.size))
      rw [hq] at F4 ⊢
      generalize wr.alloc (.cells (rcArr x) 31) = W2 at *
      clear hq E3 F3 RZ RG BZ HO HB
      obtain ⟨kk, hkk⟩ : ∃ k, x.kiosk = k := ⟨_, rfl⟩
      have k0 : W2.cell? ⟨q, 0, none⟩ = some (.int .i64 kk) := by
        rw [← hkk]; exact (cell_of_row _ _ 0 _ _ _ F4.out).trans rfl
      have KS : Hid (Mg.own 1 (Lh.take (i + 1)) = Mg.own 1 (Lh.take i) ++ if kk = 1 then [x] else []) := by
        show _ = _
        rw [take_succ_get HX.out, own_snoc, hkk]
        rfl
      clear hkk
      by_cases h2 : kk = 1
      · subst h2
        rw [if_pos rfl] at KS
        have bz : Below W2.heap.size W2 (W2.alloc (.cells (rcK.enc x).toArray rcK.ty)) := (Below.refl _ _).alloc (Nat.le_refl _) _
        have OZ := Lib.hid (HO2.out.below bz)
        have BZ := Lib.hid (HB2.out.trans (bz.mono HB2.out.size))
        have NZ := Lib.hid (heap_alloc_new W2 (.cells (rcK.enc x).toArray rcK.ty))
        have LZ : Hid ((Mg.own 1 (Lh.take i)).length ≤ 100000) := by show _ ≤ _; have := HN2.out; omega
        clear bz
        go_wp2_with (first
          | (refine wpList_load_row rfl 31 (.tmp 10) rfl q rfl 31 (rcArr x) (0, 0) _ F4.out Tryz.underlying31 rfl RI.out ?_)
          | (refine wpList_build_r rcK rfl (.tmp 34) rfl OK.out (.agg (rcArr x)) rfl rfl ?_)
          | (at_builtin; refine wpList_append_r rcK rfl (.tmp 33) (.tmp 35) rfl w2.heap.size u8 (Mg.own 1 (Lh.take i)) x W2.heap.size rfl rfl OZ.out OK.out NZ.out LZ.out BZ.out.size ?_; intro v5' w8 hown8 hg8))
        refine ⟨⟨i + 1, hlt, rfl, by rw [KS.out]; exact hown8, by rw [KS.out, List.length_append]; have := HN2.out; simp; omega, BZ.out.grown hg8 BZ.out.size (fun b e => (OZ.out.base_le b e).1)⟩, by simp [intOf]; omega⟩
      · have h2' : (kk == 1) = false := by simpa using h2
        rw [if_neg h2, List.append_nil] at KS
        clear h2
        go_wp2_with fail
        refine ⟨⟨i + 1, hlt, rfl, by rw [KS.out]; exact HO2.out, by rw [KS.out]; have := HN2.out; omega, HB2.out⟩, by simp [intOf]; omega⟩
    · have ei : i = N := by omega
      have d1 : decide ((i : Int) < (N : Int)) = false := decide_eq_false (by omega)
      have d2 : decide (i < N) = false := decide_eq_false hlt
      have ET := Lib.hid (show Lh.take i = Lh by rw [ei, ← HN.out]; exact List.take_length)
      obtain ⟨L, hL⟩ : ∃ L, Mg.own 1 Lh = L := ⟨_, rfl⟩
      rw [ET.out, hL] at HO HN2
      rw [hL] at OWN
      obtain ⟨n, hn⟩ : ∃ n, L.length = n := ⟨_, rfl⟩
      obtain ⟨ao6, cap6, hv6⟩ : ∃ ao cap, u8 = .slice ao n cap := by
        obtain ⟨ao, cap, h | h⟩ := HO.out.lies.slice hn
        · exact ⟨ao, cap, h.1⟩
        · exact ⟨ao, cap, h.1⟩
      subst hv6
      have n24 : n ≤ 24 := by rw [← hn]; exact OWN.out.len
      have HNL := Lib.hid hn
      have HT : Hid (Has (RowsT rcK (.slice ao6 n cap6) L) w wr) := ((Has.nil B2.out).newRows HB.out HO.out).right
      have BW := Lib.hid HT.out.base
      clear hL hn ei hlt ET HN2 LI HLEN HHON HO HB B2
      by_cases hz : n = 0
      · subst hz
        go_wp2_with fail
        go_ret
        exact ⟨rfl, BW.out⟩
      · have hz' : ((n : Int) == 0) = false := by simp; omega
        obtain ⟨g, cap, e⟩ : ∃ g cap, ao6 = some ⟨g, 0, none⟩ ∧ cap6 = cap := by
          obtain ⟨g, cap, e⟩ := keys_nil_slice (HT.out.rows) HNL.out (by omega)
          injection e with e1 e2 e3
          exact ⟨g, cap, e1, e3⟩
        obtain ⟨rfl, rfl⟩ := e
        obtain ⟨k, hk⟩ : ∃ k, u % n = k := ⟨_, rfl⟩
        have kn : k < n := by rw [← hk]; exact Nat.mod_lt _ (by omega)
        have e2 : (u : Int).tmod (n : Int) = (k : Int) := by rw [Int.tmod_eq_emod_of_nonneg (by omega)]; omega
        have ku0 : (0 : Int) ≤ (u : Int) := by omega
        have ku1 : (u : Int) ≤ 255 := by omega
        clear hk hz
        obtain ⟨a, ha⟩ : ∃ a, L[k]? = some a := ⟨L[k]'(by rw [HNL.out]; exact kn), List.getElem?_eq_getElem _⟩
        have HAA := Lib.hid ha
        have HaH := Lib.hid (OWN.out.hon a (List.mem_of_getElem? ha))
        have RA := Lib.hid (HT.out.rows.rcAt ha)
        have SMA := Lib.hid HaH.out.sm
        have OKA := Lib.hid HaH.out.sm.ok
        have RI := Lib.hid (rc_info OKA.out)
        have RO := Lib.hid (rcArr_one a)
        have RZ := Lib.hid (show (rcArr rc0).size = (rcArr a).size by rw [rcArr_size rc0_ok, rcArr_size OKA.out])
        have E3 := Lib.hid (World.setRow_alloc_new wr (rcArr rc0) (rcArr a) 31)
        have F3 := Lib.hid (heap_alloc_new wr (.cells (rcArr rc0) 31))
        have bz : Below wr.heap.size wr (wr.alloc (.cells (rcArr a) 31)) := (Below.refl _ _).alloc (Nat.le_refl _) _
        have HA7 := Lib.hid (HT.out.newBlk bz (heap_alloc_new wr (.cells (rcArr a) 31)) (Nat.le_refl _))
        have z0 : (0 : Int) ≤ (k : Int) := by omega
        have z1 : (k : Int) < (n : Int) := by omega
        have z5 : (k : Int) ≤ 100 := by omega
        clear bz HT BW ha
        go_upto_region 13 with (first
          | (refine wpList_load_c rfl (.tmp 49) rfl g (k * 102) rfl OKA.out RA.out ?_)
          | (refine wpList_store_row rfl 31 (.tmp 12) (.tmp 50) rfl wr.heap.size (rcArr a) rfl rfl 31 _ F3.out RI.out RZ.out RO.out ?_; rw [E3.out]; simp only [Act.put]))
        obtain ⟨ob, hob⟩ : ∃ q, wr.heap.size = q := ⟨_, rfl⟩
        rw [hob] at HA7 ⊢
        generalize wr.alloc (.cells (rcArr a) 31) = wa at *
        clear hob E3 F3 RA
        obtain ⟨b9, hb9⟩ : ∃ b, a.hash.getD 7 0 = b := ⟨_, rfl⟩
        have kb : wa.cell? ⟨ob, 43, none⟩ = some (.int .u8 (b9.toNat : Int)) := by
          have := (rc_byte OKA.out HA7.out.right.blk (k := 7) (by omega)).2.1
          rw [hb9] at this
          exact this
        have fb9 : wa.frozen? ⟨ob, 43, none⟩ = false := frozen_of_row _ _ _ _ _ HA7.out.right.blk
        have HB9 := Lib.hid hb9
        clear hb9
        go_upto_region 14 with fail
        rw [flip_byte]
        have X3 := heap_setCell_at (o := 36 + 7) HA7.out.right.blk (.int .u8 ((b9 ^^^ 1).toNat : Int))
        rw [rc_set_hash OKA.out 7 (by omega)] at X3
        have EF : ({ a with hash := a.hash.set 7 (b9 ^^^ 1) } : Rc) = { a with hash := flip a.hash 7 } := by unfold flip; rw [HB9.out]
        rw [EF] at X3
        have HA8 := Lib.hid (HA7.out.setBlk (Turned.setCell (F := fun k => k = ob) (Turned.of_below (Below.refl _ _)) (.inl rfl) 43 (.int .u8 ((b9 ^^^ 1).toNat : Int))) X3)
        clear X3 EF kb fb9 HA7
        generalize wa.setCell ⟨ob, 43, none⟩ (.int .u8 ((b9 ^^^ 1).toNat : Int)) = wb at *
        have SMF := Lib.hid (sm_hash SMA.out (o := flip a.hash 7) (by rw [flip_length]; exact OKA.out.hash))
        obtain ⟨cc, hcc⟩ : ∃ b, sgn 5003 { a with hash := flip a.hash 7 } = b := ⟨_, rfl⟩
        have HCC := Lib.hid hcc
        have CS := Lib.hid (fun W => signed_any 5003 1152921504606845789 2305843009213691579 _ SMF.out W rfl rfl (by omega))
        have SMB := Lib.hid (signed_sm 1152921504606845789 2305843009213691579 5003 rfl rfl SMF.out)
        have ES : Hid (({ a with hash := flip a.hash 7 } : Rc).signed sc 1152921504606845789 2305843009213691579 5003 = cc) := HCC.out
        rw [ES.out] at CS SMB
        have C0 : Hid (∀ W, Calls Tryz.prog 13 #[.int .i64 1] W fun e w' => e = .returned (.int .i64 5003) ∧ Below W.heap.size W w') := fun W => (secret_any 1 W (by omega)).mono fun e w' ⟨h1, h2⟩ => ⟨h1, by rw [← h2]; exact Below.refl _ _⟩
        have l1 := Lib.hid (load_rc_re SMF.out.ok (RcAt.of_row HA8.out.right.blk) (rc_block_lt HA8.out.right.blk))
        obtain ⟨R1, hR1⟩ : ∃ R1, ({ a with hash := flip a.hash 7 } : Rc) = R1 := ⟨_, rfl⟩
        rw [hR1] at HA8 SMF l1 CS
        have HR1 := Lib.hid hR1
        clear hR1 ES hcc
        refine wp_region_tail_below 3 (by kernel_rfl) (by kernel_rfl) ?_
        simp only [List.take_succ_cons, List.take_zero, List.drop_succ_cons, List.drop_zero]
        repeat (first
          | (refine quiet_load_row (by rfl) _ (.tmp 12) rfl _ _ rfl _ l1.out ?_; simp only [Act.put, List.setIfInBounds_toArray, List.set_cons_zero, List.set_cons_succ])
          | go_big_quiet_step ((first | with_reducible exact Calls.regrown_of (C0.out _) | with_reducible exact Calls.regrown_of (CS.out _))))
        refine wpQuiet_nil ?_
        intro _ hw'
        obtain ⟨⟨dq, osq⟩, hw''⟩ := hw'
        subst hw''
        have HC := Lib.hid (HA8.out.below (below_regrown wb dq osq))
        generalize grow (redrawn wb dq) osq = wc0 at *
        clear HA8 CS C0 l1
        have RI2 := Lib.hid (rc_info SMB.out.ok)
        have RO2 := Lib.hid (rcArr_one cc)
        have RZ2 := Lib.hid (show (rcArr R1).size = (rcArr cc).size by rw [rcArr_size SMF.out.ok, rcArr_size SMB.out.ok])
        go_upto_region 15 with (refine wpList_store_row rfl 31 (.tmp 12) (.tmp 59) rfl ob (rcArr cc) rfl rfl 31 _ HC.out.right.blk RI2.out RZ2.out RO2.out ?_; simp only [Act.put])
        have HC2 : Hid (Has (RB g n cap6 L ob cc) w (wc0.setRow ob (rcArr cc))) := HC.out.setBlk (Turned.setRow (F := fun k => k = ob) (Turned.of_below (Below.refl _ _)) (.inl rfl) (rcArr cc)) (setRow_heap _ _ _ _ _ _ HC.out.right.blk)
        clear HC RO2 RZ2 RI2
        generalize wc0.setRow ob (rcArr cc) = wd at *
        have CK := Lib.hid (fun W => kiosks_any 3 (by omega) W)
        go_wp2_with fail
        refine (CK.out _).mono ?_
        rintro e w4 ⟨v43, rfl, o4, b4⟩
        have CN := Lib.hid (new_has (HC2.out.below b4) o4 (by decide))
        clear o4 b4 CK HC2
        go_wp2_with fail
        refine CN.out.mono ?_
        rintro e w5 ⟨p, rfl, h5⟩
        have H5 : Hid (Has ((MrgT p (stUp 0) (4 + 0)).both (RB g n cap6 L ob cc)) w w5) := h5
        clear h5 CN
        go_wp2_with fail
        go_loopw [14, 62] (fun _ v62 wx => ∃ i : Nat, i ≤ 50 ∧ v62 = .int .i64 i ∧ Has ((MrgT p (stUp i) (4 + i)).both (RB g n cap6 L ob cc)) w wx) (fun _ v62 _ => 50 - (intOf v62).toNat)
        case atStart => exact ⟨0, Nat.zero_le _, rfl, H5.out⟩
        case round =>
          obtain ⟨j, hj, rfl, hh⟩ := hrel
          have HH := Lib.hid hh
          clear hh
          by_cases hjt : j < 50
          · have d3 : decide ((j : Int) < 50) = true := decide_eq_true (by omega)
            have CO := Lib.hid (fun W => output_any ((j : Int) + 1) ⟨by omega, by omega⟩ W)
            have OO := Lib.hid (otOf_ok (n := (j : Int) + 1) ⟨by omega, by omega⟩ (outHash_len ((j : Int) + 1)))
            have ES := Lib.hid (stUp_succ j)
            go_wp2_with fail
            refine (CO.out _).mono ?_
            rintro e w8 ⟨rfl, b8⟩
            have CL := Lib.hid (learn_has (HH.out.below b8) (otOf ((j : Int) + 1) (outHash ((j : Int) + 1))) OO.out (by omega))
            obtain ⟨V, hV⟩ : ∃ V, otArr (otOf ((j : Int) + 1) (outHash ((j : Int) + 1))) = V := ⟨_, rfl⟩
            rw [hV] at CL CO
            rw [hV]
            have HV := Lib.hid hV
            clear b8 hV
            go_wp2_with fail
            refine CL.out.mono ?_
            rintro e w9 ⟨rfl, h9⟩
            have H9 := Lib.hid h9
            clear h9 CL
            go_wp2_with fail
            refine ⟨⟨j + 1, hjt, rfl, ?_⟩, by simp [intOf]; omega⟩
            rw [ES.out]
            exact H9.out
          · have ej : j = 50 := by omega
            subst ej
            have HQ := Lib.hid HH.out
            clear hjt hj HH
            obtain ⟨A, B, stX, stY, stZ, ee, ff, hU⟩ : ∃ A B stX stY stZ e f, ClonesU fb L k a cc A B (stUp 50) stX stY stZ e f := by
              obtain ⟨s1, s2, s3⟩ := stUp_base 50 (by omega)
              have hc1 : cc.kiosk = 1 := by rw [← HCC.out]; exact (OWN.out.all a (List.mem_of_getElem? HAA.out)).1
              refine clonesU_plain fb OWN.out HAA.out hc1 ?_ ?_ ?_ ?_ ?_ ?_ s1 s2 s3
              · rw [← HCC.out]; rfl
              · rw [← HCC.out]; rfl
              · rw [← HCC.out]; rfl
              · exact ⟨⟨1, by omega, hc1, by rw [← HCC.out]; exact rver_k 1 _⟩, by rw [← HCC.out]; exact HaH.out.ser, by rw [← HCC.out]; exact HaH.out.out, by rw [← HCC.out]; exact HaH.out.seen, by rw [← HCC.out]; exact HaH.out.draw, SMB.out⟩
              · intro e
                have e1 : cc.hash = a.hash := by rw [e]
                rw [← HCC.out] at e1
                exact flip_ne (h := a.hash) (i := 7) (by rw [OKA.out.hash]; omega) e1
              · rw [← HCC.out]; exact rver_k 1 _
            have U := Lib.hid hU
            clear hU
            have RIC := Lib.hid (rc_info SMB.out.ok)
            have ROC := Lib.hid (rcArr_one cc)
            have RZC := Lib.hid (show (rcArr rc0).size = (rcArr cc).size by rw [rcArr_size rc0_ok, rcArr_size SMB.out.ok])
            have RZX := Lib.hid (show (rcArr a).size = (rcArr cc).size by rw [rcArr_size OKA.out, rcArr_size SMB.out.ok])
            have RZY := Lib.hid (show (rcArr cc).size = (rcArr a).size by rw [rcArr_size OKA.out, rcArr_size SMB.out.ok])
            go_upto_region 21 with fail
            go_cut [15, 16] (fun v15 v16 wx => ∃ ra rb, v15 = .pointer (some ⟨ra, 0, none⟩) ∧ v16 = .pointer (some ⟨rb, 0, none⟩) ∧ Has ((((MrgT p (stUp 50) (4 + 50)).both (RB g n cap6 L ob cc)).both (BlkT ra (rcBlk a))).both (BlkT rb (rcBlk cc))) w wx)
            case first =>
              refine wp_region_tree (AtS g k a ob cc) (.two [0, 1, 2, 3, 4] 5 (.one [] 6 (.one [] 7 (.one [] 8 (.last [])))) 6 (.one [] 5 (.one [] 7 (.one [] 8 (.last []))))) (by kernel_rfl) (by kernel_rfl) (by kernel_rfl) ((AtS.of_has HQ.out.right HAA.out).below (Below.refl _ _).drew) ?_
              have HD := Lib.hid (HQ.out.below (Below.refl _ _).drew)
              clear HQ
              generalize World.drew _ = wd at *
              refine tree_two ?_
              simp only [List.map_cons, List.map_nil, opN, List.getD_cons_succ, List.getD_cons_zero]
              repeat (first
                | (refine quiet_load_row (by rfl) _ (.tmp 73) rfl _ _ rfl (.agg (rcArr a)) (fun w' h => h.one OKA.out) ?_; simp only [Act.put, List.setIfInBounds_toArray, List.set_cons_zero, List.set_cons_succ])
                | (refine quiet_load_row (by rfl) _ (.tmp 12) rfl _ _ rfl (.agg (rcArr cc)) (fun w' h => h.var SMB.out.ok) ?_; simp only [Act.put, List.setIfInBounds_toArray, List.set_cons_zero, List.set_cons_succ])
                | go_big_quiet_step (fail)
                | (go_big_quiet_want; go_big_quiet_op; refine ⟨_, fun _ _ => rfl, ?_⟩; go_big_quiet_on))
              refine wpQuiet_nil ?_
              refine ⟨tree_step (by rfl) fun K hK => ?_, tree_step (by rfl) fun K hK => ?_⟩
              · rw [wp_alloc_rc]
                have bz : Below wd.heap.size wd (wd.alloc (.cells (rcArr rc0) 31)) := (Below.refl _ _).alloc (Nat.le_refl _) _
                have H1 := Lib.hid (HD.out.newBlk bz (heap_alloc_new wd (.cells (rcArr rc0) 31)) (Nat.le_refl _))
                refine hK _ _ (AtS.of_has H1.out.left.right HAA.out) ?_
                clear hK K bz HD
                obtain ⟨ra, hra⟩ : ∃ z, wd.heap.size = z := ⟨_, rfl⟩
                rw [hra] at H1 ⊢
                generalize wd.alloc (.cells (rcArr rc0) 31) = wx1 at *
                clear hra
                refine tree_one ?_
                simp only [List.map_nil, opN, List.getD_cons_succ, List.getD_cons_zero]
                refine wpQuiet_nil ?_
                refine tree_step (by rfl) fun K hK => ?_
                rw [wp_alloc_rc]
                have bz : Below wx1.heap.size wx1 (wx1.alloc (.cells (rcArr rc0) 31)) := (Below.refl _ _).alloc (Nat.le_refl _) _
                have H2 := Lib.hid (H1.out.newBlk bz (heap_alloc_new wx1 (.cells (rcArr rc0) 31)) (Nat.le_refl _))
                refine hK _ _ (AtS.of_has H2.out.left.left.right HAA.out) ?_
                clear hK K bz H1
                obtain ⟨rb, hra⟩ : ∃ z, wx1.heap.size = z := ⟨_, rfl⟩
                rw [hra] at H2 ⊢
                generalize wx1.alloc (.cells (rcArr rc0) 31) = wx2 at *
                clear hra
                refine tree_one ?_
                simp only [List.map_nil, opN, List.getD_cons_succ, List.getD_cons_zero]
                refine wpQuiet_nil ?_
                refine tree_step (by rfl) fun K hK => ?_
                refine wp_of_list (wpList_store_row rfl 31 (.tmp 15) (.tmp 74) rfl ra (rcArr a) rfl rfl 31 _ H2.out.left.right.blk RI.out RZ.out RO.out ?_)
                have H3 := Lib.hid (H2.out.setBlk2 (Turned.setRow (F := fun k => k = ra) (Turned.of_below (Below.refl _ _)) (.inl rfl) (rcArr a)) (setRow_heap _ _ _ _ _ _ H2.out.left.right.blk))
                refine hK _ _ (AtS.of_has H3.out.left.left.right HAA.out) ?_
                clear hK K H2
                generalize wx2.setRow ra (rcArr a) = wx3 at *
                refine tree_one ?_
                simp only [List.map_nil, opN, List.getD_cons_succ, List.getD_cons_zero]
                refine wpQuiet_nil ?_
                refine tree_step (by rfl) fun K hK => ?_
                refine wp_of_list (wpList_store_row rfl 31 (.tmp 16) (.tmp 75) rfl rb (rcArr cc) rfl rfl 31 _ H3.out.right.blk RIC.out RZC.out ROC.out ?_)
                have H4 := Lib.hid (H3.out.setBlk (Turned.setRow (F := fun k => k = rb) (Turned.of_below (Below.refl _ _)) (.inl rfl) (rcArr cc)) (setRow_heap _ _ _ _ _ _ H3.out.right.blk))
                refine hK _ _ (AtS.of_has H4.out.left.left.right HAA.out) ?_
                clear hK K H3
                generalize wx3.setRow rb (rcArr cc) = wx4 at *
                refine tree_last ?_
                refine wpQuiet_nil ?_
                refine NoPanic.normal ?_
                simp only [Act.put, List.setIfInBounds_toArray, List.set_cons_zero, List.set_cons_succ]
                go_wp2_with fail
                go_meet
                exact ⟨ra, rb, rfl, rfl, H4.out⟩
              · rw [wp_alloc_rc]
                have bz : Below wd.heap.size wd (wd.alloc (.cells (rcArr rc0) 31)) := (Below.refl _ _).alloc (Nat.le_refl _) _
                have H1 := Lib.hid (HD.out.newBlk bz (heap_alloc_new wd (.cells (rcArr rc0) 31)) (Nat.le_refl _))
                refine hK _ _ (AtS.of_has H1.out.left.right HAA.out) ?_
                clear hK K bz HD
                obtain ⟨rb, hra⟩ : ∃ z, wd.heap.size = z := ⟨_, rfl⟩
                rw [hra] at H1 ⊢
                generalize wd.alloc (.cells (rcArr rc0) 31) = wx1 at *
                clear hra
                refine tree_one ?_
                simp only [List.map_nil, opN, List.getD_cons_succ, List.getD_cons_zero]
                refine wpQuiet_nil ?_
                refine tree_step (by rfl) fun K hK => ?_
                rw [wp_alloc_rc]
                have bz : Below wx1.heap.size wx1 (wx1.alloc (.cells (rcArr rc0) 31)) := (Below.refl _ _).alloc (Nat.le_refl _) _
                have H2 := Lib.hid (H1.out.newBlk bz (heap_alloc_new wx1 (.cells (rcArr rc0) 31)) (Nat.le_refl _))
                refine hK _ _ (AtS.of_has H2.out.left.left.right HAA.out) ?_
                clear hK K bz H1
                obtain ⟨ra, hra⟩ : ∃ z, wx1.heap.size = z := ⟨_, rfl⟩
                rw [hra] at H2 ⊢
                generalize wx1.alloc (.cells (rcArr rc0) 31) = wx2 at *
                clear hra
                refine tree_one ?_
                simp only [List.map_nil, opN, List.getD_cons_succ, List.getD_cons_zero]
                refine wpQuiet_nil ?_
                refine tree_step (by rfl) fun K hK => ?_
                refine wp_of_list (wpList_store_row rfl 31 (.tmp 15) (.tmp 74) rfl ra (rcArr a) rfl rfl 31 _ H2.out.right.blk RI.out RZ.out RO.out ?_)
                have H3 := Lib.hid (H2.out.setBlk (Turned.setRow (F := fun k => k = ra) (Turned.of_below (Below.refl _ _)) (.inl rfl) (rcArr a)) (setRow_heap _ _ _ _ _ _ H2.out.right.blk))
                refine hK _ _ (AtS.of_has H3.out.left.left.right HAA.out) ?_
                clear hK K H2
                generalize wx2.setRow ra (rcArr a) = wx3 at *
                refine tree_one ?_
                simp only [List.map_nil, opN, List.getD_cons_succ, List.getD_cons_zero]
                refine wpQuiet_nil ?_
                refine tree_step (by rfl) fun K hK => ?_
                refine wp_of_list (wpList_store_row rfl 31 (.tmp 16) (.tmp 75) rfl rb (rcArr cc) rfl rfl 31 _ H3.out.left.right.blk RIC.out RZC.out ROC.out ?_)
                have H4 := Lib.hid (H3.out.setBlk2 (Turned.setRow (F := fun k => k = rb) (Turned.of_below (Below.refl _ _)) (.inl rfl) (rcArr cc)) (setRow_heap _ _ _ _ _ _ H3.out.left.right.blk))
                refine hK _ _ (AtS.of_has H4.out.left.left.right HAA.out) ?_
                clear hK K H3
                generalize wx3.setRow rb (rcArr cc) = wx4 at *
                refine tree_last ?_
                refine wpQuiet_nil ?_
                refine NoPanic.normal ?_
                simp only [Act.put, List.setIfInBounds_toArray, List.set_cons_zero, List.set_cons_succ]
                go_wp2_with fail
                go_meet
                exact ⟨ra, rb, rfl, rfl, H4.out.swap3⟩
            case rest =>
              obtain ⟨ra, rb, rfl, rfl, hq⟩ := hcut
              have H0 := Lib.hid hq
              clear hq HQ
              go_upto_if 76 with fail
              go_cut [] (fun wx => ∃ nX, nX ≤ 60 ∧ Has ((MrgT p stX nX).both ((RB g n cap6 L ob cc).both ((BlkT ra (rcBlk A)).both (BlkT rb (rcBlk B))))) w wx)
              case first =>
                cases fb
                · have U0 := U.out.x0 rfl
                  obtain ⟨UA, UB⟩ := U.out.a0 rfl
                  go_wp2_with fail
                  go_meet
                  exact ⟨54, by omega, by rw [U0, UA, UB]; exact H0.out.assoc.assoc⟩
                · obtain ⟨e0, U1⟩ := U.out.x1 rfl
                  obtain ⟨UA, UB⟩ := U.out.a1 rfl
                  have U1 := Lib.hid U1
                  have UA := Lib.hid UA
                  have UB := Lib.hid UB
                  go_upto_region 23 with fail
                  refine wp_region_plan (AtS g k a ob cc) [] [([0, 1, 2, 3, 4], 5), ([], 6)] (by kernel_rfl) (by kernel_rfl) (by kernel_rfl) ((AtS.of_has H0.out.left.left.right HAA.out).below (Below.refl _ _).drew) ?_
                  simp only [List.map_cons, List.map_nil, opN, List.getD_cons_succ, List.getD_cons_zero]
                  have HD := Lib.hid (H0.out.below (Below.refl _ _).drew)
                  clear H0
                  generalize World.drew _ = wd at *
                  refine segs_cons ?_
                  repeat (first
                    | (refine quiet_load_row (by rfl) _ (.tmp 12) rfl _ _ rfl (.agg (rcArr cc)) (fun w' h => h.var SMB.out.ok) ?_; simp only [Act.put, List.setIfInBounds_toArray, List.set_cons_zero, List.set_cons_succ])
                    | (refine quiet_load_row (by rfl) _ (.tmp 80) rfl _ _ rfl (.agg (rcArr a)) (fun w' h => h.one OKA.out) ?_; simp only [Act.put, List.setIfInBounds_toArray, List.set_cons_zero, List.set_cons_succ])
                    | go_big_quiet_step (fail)
                    | (go_big_quiet_want; go_big_quiet_op; refine ⟨_, fun _ _ => rfl, ?_⟩; go_big_quiet_on))
                  refine wpQuiet_nil ?_
                  refine segs_step (by rfl) fun K hK => ?_
                  refine wp_of_list (wpList_store_row rfl 31 (.tmp 15) (.tmp 77) rfl ra (rcArr cc) rfl rfl 31 _ HD.out.left.right.blk RIC.out RZX.out ROC.out ?_)
                  have H3 := Lib.hid (HD.out.setBlk2 (Turned.setRow (F := fun k => k = ra) (Turned.of_below (Below.refl _ _)) (.inl rfl) (rcArr cc)) (setRow_heap _ _ _ _ _ _ HD.out.left.right.blk))
                  refine hK _ _ (AtS.of_has H3.out.left.left.right HAA.out) ?_
                  clear hK K HD
                  generalize wd.setRow ra (rcArr cc) = wx3 at *
                  simp only [Act.put]
                  refine segs_cons ?_
                  refine wpQuiet_nil ?_
                  refine segs_step (by rfl) fun K hK => ?_
                  refine wp_of_list (wpList_store_row rfl 31 (.tmp 16) (.tmp 81) rfl rb (rcArr a) rfl rfl 31 _ H3.out.right.blk RI.out RZY.out RO.out ?_)
                  have H4 := Lib.hid (H3.out.setBlk (Turned.setRow (F := fun k => k = rb) (Turned.of_below (Below.refl _ _)) (.inl rfl) (rcArr a)) (setRow_heap _ _ _ _ _ _ H3.out.right.blk))
                  refine hK _ _ (AtS.of_has H4.out.left.left.right HAA.out) ?_
                  clear hK K H3
                  generalize wx3.setRow rb (rcArr a) = wx4 at *
                  simp only [Act.put]
                  refine segs_nil ?_
                  refine wpQuiet_nil ?_
                  refine NoPanic.normal ?_
                  have H5 := Lib.hid H4.out.assoc.assoc
                  have CT := Lib.hid (take_one H5.out HE.out 1 (by decide) SMB.out.ok (by omega) U1.out)
                  have RBB := Lib.hid H5.out.right.left.right.blk
                  clear H4
                  go_wp2_with (first
                    | (refine wpList_load_row rfl 31 (.tmp 12) rfl ob rfl 31 (rcArr cc) (0, 0) _ RBB.out Tryz.underlying31 rfl RIC.out ?_)
                    | (refine wpList_build_r rcK rfl (.tmp 83) rfl SMB.out.ok (.agg (rcArr cc)) rfl rfl ?_))
                  refine CT.out.mono ?_
                  rintro e w3 ⟨rfl, h3⟩
                  clear CT RBB H5
                  go_wp2_with fail
                  go_meet
                  exact ⟨4 + 50 + 1, by omega, by rw [UA.out, UB.out]; exact h3⟩
              case rest =>
                obtain ⟨nX, hnX, hq⟩ := hcut
                have H1 := Lib.hid hq
                clear hq H0
                have CT := Lib.hid (take_rows H1.out HE.out 1 (by decide) H1.out.right.left.left.rows.lies H1.out.right.left.left.rows.typed' (by rw [HNL.out]; omega))
                rw [U.out.t1, HNL.out] at CT
                go_wp2_with fail
                refine CT.out.mono ?_
                rintro e w3 ⟨rfl, h3⟩
                have H3 := Lib.hid h3
                clear h3 CT H1
                have CT := Lib.hid (take_one H3.out HE.out 1 (by decide) SMB.out.ok (by omega) U.out.t2)
                have RBB := Lib.hid H3.out.right.left.right.blk
                go_wp2_with (first
                  | (refine wpList_load_row rfl 31 (.tmp 12) rfl ob rfl 31 (rcArr cc) (0, 0) _ RBB.out Tryz.underlying31 rfl RIC.out ?_)
                  | (refine wpList_build_r rcK rfl (.tmp 92) rfl SMB.out.ok (.agg (rcArr cc)) rfl rfl ?_))
                refine CT.out.mono ?_
                rintro e w4 ⟨rfl, h4⟩
                have H4 := Lib.hid h4
                clear h4 CT H3 RBB
                have CE := Lib.hid (evids_has H4.out.left (by omega) U.out.base.few U.out.base.keys HE.out)
                rw [show evids _ _ = _ from U.out.ev] at CE
                go_wp2_with fail
                refine CE.out.mono ?_
                rintro e w5 ⟨v5, rfl, o5, b5⟩
                obtain ⟨ge, ce, rfl⟩ := keys_nil_slice (n := 1) o5 rfl (by omega)
                obtain ⟨E, hE⟩ : ∃ E, [evOf 7 1 A B] = E := ⟨_, rfl⟩
                have E0 : Hid (E[0]? = some (evOf 7 1 A B)) := by show _ = _; rw [← hE]; rfl
                have EN : Hid (E.length = 1) := by show _ = _; rw [← hE]; rfl
                rw [hE] at o5
                have H5 := Lib.hid (H4.out.below b5)
                have S3 : Hid (EvS ra rb A B ge ce E w5) := ⟨⟨H5.out.right.right.left.blk, H5.out.right.right.right.blk⟩, by rw [EN.out]; exact o5.lies⟩
                have OAB : RcSm A ∧ RcSm B := by
                  cases fb
                  · obtain ⟨h1, h2⟩ := U.out.a0 rfl; rw [h1, h2]; exact ⟨SMA.out, SMB.out⟩
                  · obtain ⟨h1, h2⟩ := U.out.a1 rfl; rw [h1, h2]; exact ⟨SMB.out, SMA.out⟩
                have OA := Lib.hid OAB.1
                have OB := Lib.hid OAB.2
                clear OAB
                have CX1 := Lib.hid (fun W => rctext_any A OA.out W)
                obtain ⟨x1, hx1⟩ : ∃ x, bstr A.text = x := ⟨_, rfl⟩
                rw [hx1] at CX1
                have HX1 := Lib.hid hx1
                have CX2 := Lib.hid (fun W => rctext_any B OB.out W)
                obtain ⟨x2, hx2⟩ : ∃ x, bstr B.text = x := ⟨_, rfl⟩
                rw [hx2] at CX2
                have HX2 := Lib.hid hx2
                clear CE b5 o5 hE hx1 hx2 H4
                go_upto_region 28 with fail
                go_cut [134] (fun v134 wx => v134 = .bool false ∧ Has ((MrgT p stZ (nX + n + 1)).both ((RB g n cap6 L ob cc).both ((BlkT ra (rcBlk A)).both (BlkT rb (rcBlk B))))) w wx)
                case first =>
                  refine wp_region_plan (EvS ra rb A B ge ce E) [35, 36] [([0, 1, 2, 3, 4, 5, 6, 7, 8, 9, 10, 11, 12, 13, 14, 15, 16, 17, 18, 19, 20, 21, 22, 23], 24), ([25, 26, 27, 28, 29, 30, 31, 32, 33], 34)] (by kernel_rfl) (by kernel_rfl) (by kernel_rfl) (S3.out.below (Below.refl _ _).drew) ?_
                  simp only [List.map_cons, List.map_nil, opN, List.getD_cons_succ, List.getD_cons_zero]
                  have S4 := Lib.hid (S3.out.below (Below.refl w5.heap.size w5).drew)
                  have HD := Lib.hid (H5.out.below (Below.refl w5.heap.size w5).drew)
                  clear S3 H5
                  generalize w5.drew = v0 at *
                  refine segs_cons ?_
                  repeat (first
                    | (refine quiet_load_row (by rfl) _ (.tmp 104) rfl _ _ rfl (.int .i64 7) (fun w' h => h.kind E0.out rfl rfl) ?_; simp only [Act.put, List.setIfInBounds_toArray, List.set_cons_zero, List.set_cons_succ])
                    | (refine quiet_load_row (by rfl) _ (.tmp 111) rfl _ _ rfl (.int .i64 1) (fun w' h => h.who E0.out rfl rfl) ?_; simp only [Act.put, List.setIfInBounds_toArray, List.set_cons_zero, List.set_cons_succ])
                    | (refine quiet_load_row (by rfl) _ (.tmp 119) rfl _ _ rfl (.string x1) (fun w' h => h.ta E0.out rfl HX1.out) ?_; simp only [Act.put, List.setIfInBounds_toArray, List.set_cons_zero, List.set_cons_succ])
                    | (refine quiet_load_row (by rfl) _ (.tmp 15) rfl _ _ rfl (.agg (rcArr A)) (fun w' h => h.va OA.out.ok) ?_; simp only [Act.put, List.setIfInBounds_toArray, List.set_cons_zero, List.set_cons_succ])
                    | go_big_quiet_step (fail)
                    | (go_big_quiet_want; go_big_quiet_op; refine ⟨_, fun _ _ => rfl, ?_⟩; go_big_quiet_on))
                  refine wpQuiet_nil ?_
                  refine segs_step (by rfl) fun K hK => ?_
                  go_simp
                  refine (CX1.out _).mono ?_
                  rintro e v1 ⟨rfl, b1⟩
                  have S5 := Lib.hid (S4.out.below b1)
                  have HD1 := Lib.hid (HD.out.below b1)
                  refine hK _ _ S5.out ?_
                  clear hK K b1 CX1 S4 HD
                  refine segs_cons ?_
                  repeat (first
                    | (refine quiet_load_row (by rfl) _ (.tmp 129) rfl _ _ rfl (.string x2) (fun w' h => h.tb E0.out rfl HX2.out) ?_; simp only [Act.put, List.setIfInBounds_toArray, List.set_cons_zero, List.set_cons_succ])
                    | (refine quiet_load_row (by rfl) _ (.tmp 16) rfl _ _ rfl (.agg (rcArr B)) (fun w' h => h.vb OB.out.ok) ?_; simp only [Act.put, List.setIfInBounds_toArray, List.set_cons_zero, List.set_cons_succ])
                    | go_big_quiet_step (fail)
                    | (go_big_quiet_want; go_big_quiet_op; refine ⟨_, fun _ _ => rfl, ?_⟩; go_big_quiet_on))
                  refine wpQuiet_nil ?_
                  refine segs_step (by rfl) fun K hK => ?_
                  go_simp
                  refine (CX2.out _).mono ?_
                  rintro e v2 ⟨rfl, b2⟩
                  have S6 := Lib.hid (S5.out.below b2)
                  have HD2 := Lib.hid (HD1.out.below b2)
                  refine hK _ _ S6.out ?_
                  clear hK K b2 CX2 S5 HD1
                  refine segs_nil ?_
                  repeat (first
                    | go_big_quiet_step (fail)
                    | (go_big_quiet_want; go_big_quiet_op; refine ⟨_, fun _ _ => rfl, ?_⟩; go_big_quiet_on))
                  refine wpQuiet_nil ?_
                  refine NoPanic.normal ?_
                  go_wp2_with fail
                  go_meet
                  exact ⟨rfl, HD2.out⟩
                case rest =>
                  obtain ⟨rfl, hq6⟩ := hcut
                  have H6 := Lib.hid hq6
                  clear hq6 H5 S3 CX1 CX2 E0 EN HX1 HX2
                  have HB := Lib.hid U.out.base
                  have HC := Lib.hid U.out.le
                  go_wp2_with fail
                  go_loopw [20, 21, 135] (fun v20 _ v135 wx => ∃ i : Nat, i ≤ 3 ∧ v135 = .int .i64 i ∧ v20 = .int .i64 ((cnt stZ i : Nat) : Int) ∧ Has ((MrgT p stZ (nX + n + 1)).both ((RB g n cap6 L ob cc).both ((BlkT ra (rcBlk A)).both (BlkT rb (rcBlk B))))) w wx) (fun _ _ v135 _ => 3 - (intOf v135).toNat)
                  case atStart => exact ⟨0, by omega, rfl, rfl, H6.out⟩
                  case round =>
                    obtain ⟨i, hi, rfl, rfl, hh⟩ := hrel
                    have HW := Lib.hid hh
                    clear hh
                    by_cases hlt : i < 3
                    · have d1 : decide ((i : Int) < 3) = true := decide_eq_true (by omega)
                      have CD := Lib.hid (draw_any i wr (by omega))
                      obtain ⟨c0, hc0⟩ : ∃ c, cnt stZ i = c := ⟨_, rfl⟩
                      obtain ⟨c1, hc1⟩ : ∃ c, cnt stZ (i + 1) = c := ⟨_, rfl⟩
                      obtain ⟨l3, hl⟩ : ∃ l, (picks stZ [1, 2, 3] (soon (drawName i) 1000)).length = l := ⟨_, rfl⟩
                      have hs := cnt_succ stZ i
                      have hm : cnt stZ (i + 1) ≤ 72 := Nat.le_trans (cnt_mono stZ (by omega)) HC.out
                      rw [hc1] at hs hm
                      rw [hc0, hl] at hs
                      have c0x : c0 ≤ 1000 := by omega
                      have lx : l3 ≤ 1000 := by omega
                      have hs2 : (c0 : Int) + (l3 : Int) = (c1 : Int) := by omega
                      have HL := Lib.hid hl
                      have HC1 := Lib.hid hc1
                      rw [hc0]
                      clear hc0 hc1 hl hs
                      go_wp2_with fail
                      refine CD.out.mono ?_
                      rintro e w6 ⟨rfl, b6⟩
                      have HW1 := Lib.hid (HW.out.below b6)
                      have CR := Lib.hid (receipts_has HW1.out.left (by omega) HB.out.few HB.out.keys (drawName i) 1000)
                      obtain ⟨ds, hds⟩ : ∃ s, bstr (drawName i) = s := ⟨_, rfl⟩
                      rw [hds] at CR
                      rw [hds]
                      clear b6 hds CD
                      go_wp2_with fail
                      refine CR.out.mono ?_
                      rintro e w7 ⟨v7, rfl, o7, b7⟩
                      obtain ⟨ao, cap, hv⟩ : ∃ ao cap, v7 = .slice ao l3 cap := by
                        obtain ⟨ao, cap, h | h⟩ := o7.lies.slice HL.out
                        · exact ⟨ao, cap, h.1⟩
                        · exact ⟨ao, cap, h.1⟩
                      subst hv
                      have HW2 := Lib.hid (HW1.out.below b7)
                      clear o7 b7
                      go_wp2_with fail
                      refine ⟨⟨i + 1, hlt, rfl, ?_, HW2.out⟩, by simp [intOf]; omega⟩
                      rw [HC1.out]
                    · have ei : i = 3 := by omega
                      have d1 : decide ((i : Int) < 3) = false := decide_eq_false (by omega)
                      obtain ⟨c3, hc3⟩ : ∃ c, cnt stZ i = c := ⟨_, rfl⟩
                      rw [hc3]
                      rw [ei] at hc3
                      have H7 := Lib.hid HW.out
                      have BW := Lib.hid HW.out.base
                      clear ei hlt HW H6
                      cases fb
                      · obtain ⟨f1, f2, f3⟩ := U.out.fin0 rfl
                        rw [hc3, HNL.out] at f3
                        subst f1 f2 f3
                        clear U hc3
                        go_wp2_with fail
                        go_ret
                        exact ⟨rfl, BW.out⟩
                      · obtain ⟨f1, f2⟩ := U.out.fin1 rfl
                        have F2 := Lib.hid f2
                        subst f1
                        clear f2
                        have SA := Lib.hid ((AtS.of_has H7.out.right.left HAA.out))
                        have CXA := Lib.hid (fun W => rctext_any a SMA.out W)
                        obtain ⟨xa, hxa⟩ : ∃ x, bstr a.text = x := ⟨_, rfl⟩
                        have CXB := Lib.hid (fun W => rctext_any cc SMB.out W)
                        obtain ⟨xb, hxb⟩ : ∃ x, bstr cc.text = x := ⟨_, rfl⟩
                        have hne : xa ≠ xb := by
                          intro e
                          rw [← hxa, ← hxb] at e
                          have e2 : a.text = cc.text := by have := congrArg (fun s => s.data.toList) e; simpa [bstr] using this
                          refine text_ne (c := cc) (d := a) ?_ ?_ ?_ ?_ ?_ ?_ e2.symm
                          · rw [← HCC.out]; rfl
                          · rw [← HCC.out]; rfl
                          · rw [← HCC.out]; rfl
                          · rw [← HCC.out]; rfl
                          · rw [SMB.out.ok.hash, OKA.out.hash]
                          · intro e3
                            rw [← HCC.out] at e3
                            exact flip_ne (h := a.hash) (i := 7) (by rw [OKA.out.hash]; omega) e3
                        have sxa : xa.size ≤ 140737488355000 := by rw [← hxa, bstr_size]; have := text_length' OKA.out; omega
                        have sxb : xb.size ≤ 140737488355000 := by rw [← hxb, bstr_size]; have := text_length' SMB.out.ok; omega
                        have exa : Sha.sum xa.data.toList = rch a := by rw [← hxa]; rfl
                        have exb : Sha.sum xb.data.toList = rch cc := by rw [← hxb]; rfl
                        rw [hxa] at CXA
                        rw [hxb] at CXB
                        have CC := Lib.hid (fun (W : World) (Bk : Nat) (fr : Nat × Nat) (hb : W.heap[Bk]? = some (.cells #[.string xa, .string xb] 9 fr)) => clash2_any hb hne sxa sxb exa exb)
                        obtain ⟨bq, hbq⟩ : ∃ b, (rch cc == rch a) = b := ⟨_, rfl⟩
                        rw [hbq] at CC
                        have HBQ := Lib.hid hbq
                        have HC3 := Lib.hid hc3
                        clear hne sxa sxb exa exb hxa hxb hbq hc3 U HC
                        go_upto_region 37 with fail
                        refine wp_region_plan (AtS g k a ob cc) [] [([0, 1, 2, 3, 5], 4), ([], 6), ([], 7), ([], 8)] (by kernel_rfl) (by kernel_rfl) (by kernel_rfl) (SA.out.below (Below.refl _ _).drew) ?_
                        simp only [List.map_cons, List.map_nil, opN, List.getD_cons_succ, List.getD_cons_zero]
                        have S4 := Lib.hid (SA.out.below (Below.refl wr.heap.size wr).drew)
                        have BD := Lib.hid (BW.out.drew)
                        clear SA H7 BW
                        generalize wr.drew = v0 at *
                        refine segs_cons ?_
                        repeat (first
                          | (refine quiet_load_row (by rfl) _ (.tmp 149) rfl _ _ rfl (.agg (rcArr a)) (fun w' h => h.one OKA.out) ?_; simp only [Act.put, List.setIfInBounds_toArray, List.set_cons_zero, List.set_cons_succ])
                          | (refine quiet_load_row (by rfl) _ (.tmp 12) rfl _ _ rfl (.agg (rcArr cc)) (fun w' h => h.var SMB.out.ok) ?_; simp only [Act.put, List.setIfInBounds_toArray, List.set_cons_zero, List.set_cons_succ])
                          | go_big_quiet_step (fail)
                          | (go_big_quiet_want; go_big_quiet_op; refine ⟨_, fun _ _ => rfl, ?_⟩; go_big_quiet_on))
                        refine wpQuiet_nil ?_
                        refine segs_step (by rfl) fun K hK => ?_
                        go_simp
                        refine (CXA.out _).mono ?_
                        rintro e v1 ⟨rfl, b1⟩
                        have S5 := Lib.hid (S4.out.below b1)
                        have BD1 := Lib.hid (BD.out.trans (b1.mono BD.out.size))
                        refine hK _ _ S5.out ?_
                        clear hK K b1 CXA S4 BD
                        refine segs_cons ?_
                        refine wpQuiet_nil ?_
                        refine segs_step (by rfl) fun K hK => ?_
                        go_simp
                        refine (CXB.out _).mono ?_
                        rintro e v2 ⟨rfl, b2⟩
                        have S6 := Lib.hid (S5.out.below b2)
                        have BD2 := Lib.hid (BD1.out.trans (b2.mono BD1.out.size))
                        refine hK _ _ S6.out ?_
                        clear hK K b2 CXB S5 BD1
                        refine segs_cons ?_
                        refine wpQuiet_nil ?_
                        refine segs_step (by rfl) fun K hK => ?_
                        go_simp
                        have bz : Below v2.heap.size v2 (v2.alloc (.cells #[.string xa, .string xb] 9)) := (Below.refl _ _).alloc (Nat.le_refl _) _
                        refine hK _ _ (S6.out.below bz) ?_
                        have S7 := Lib.hid (S6.out.below bz)
                        have BD3 := Lib.hid (BD2.out.trans (bz.mono BD2.out.size))
                        have CCX := Lib.hid (CC.out _ _ _ (heap_alloc_new v2 (.cells #[.string xa, .string xb] 9)))
                        clear hK K bz S6 BD2
                        refine segs_cons ?_
                        refine wpQuiet_nil ?_
                        refine segs_step (by rfl) fun K hK => ?_
                        go_simp
                        refine CCX.out.mono ?_
                        rintro e v3 ⟨rfl, b3⟩
                        have BD4 := Lib.hid (BD3.out.trans (b3.mono BD3.out.size))
                        refine hK _ _ (S7.out.below b3) ?_
                        clear hK K b3 CCX S7
                        refine segs_nil ?_
                        refine wpQuiet_nil ?_
                        refine NoPanic.normal ?_
                        cases bq
                        · have hnc : rch cc ≠ rch a := beq_eq_false_iff_ne.1 HBQ.out
                          obtain ⟨q1, q2⟩ := F2.out hnc
                          rw [HC3.out] at q2
                          rw [HNL.out] at q1
                          subst q2
                          have d8 : (((k : Nat) : Int) + 1 == ((k + 1 : Nat) : Int)) = true := by simp
                          by_cases hkn : k + 1 = n
                          · have q3 := q1.2 hkn
                            subst q3
                            have d9 : ((k : Int) == (n : Int) - 1) = true := by simp; omega
                            clear q1 hkn hnc
                            go_wp2_with fail
                            go_ret
                            exact ⟨rfl, BD4.out⟩
                          · have q3 : (ff == 0) = false := by
                              rw [beq_eq_false_iff_ne]
                              exact fun e => hkn (q1.1 e)
                            have d9 : ((k : Int) == (n : Int) - 1) = false := by simp; omega
                            clear q1 hkn hnc
                            go_wp2_with fail
                            go_ret
                            exact ⟨rfl, BD4.out⟩
                        · go_wp2_with fail
                          go_ret
                          exact ⟨rfl, BD4.out⟩
end Go.Proofs.YtpblfpnldbdncaaGreatDoor
