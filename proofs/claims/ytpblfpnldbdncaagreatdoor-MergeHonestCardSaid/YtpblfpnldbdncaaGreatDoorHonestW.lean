/- The walk of the law MergeHonest. -/
import Derived.Test.YtpblfpnldbdncaaGreatDoorBrokenW
import Derived.Test.YtpblfpnldbdncaaGreatDoorCloneK
import Derived.Test.YtpblfpnldbdncaaGreatDoorHonH
import Derived.Test.YtpblfpnldbdncaaGreatDoorByteArg
import Derived.Deep.CutBlock
namespace Go.Proofs.YtpblfpnldbdncaaGreatDoor
open Go.RowKit Go.Sort Go.Maps
open Sg (Rc)
open Mg (Mst Jd H Pap Sale Pos zeroH)
set_option linter.unusedVariables false
set_option maxRecDepth 100000
attribute [local go_sem ↓] wp_alloc_rc
/-- a receipt in a variable -/
def BlkIs (q : Nat) (x : Rc) (W : World) : Prop := W.heap[q]? = some (rcBlk x)
theorem BlkIs.below {q : Nat} {x : Rc} {W W' : World} (h : BlkIs q x W) (hb : Below W.heap.size W W') : BlkIs q x W' := heap_below h hb
theorem BlkIs.draw {q : Nat} {x : Rc} {W : World} (h : BlkIs q x W) {s : ByteArray} (hs : bstr x.draw = s) : (loadVar 9 ⟨q, 2, none⟩).run Tryz.prog W = .ok (.string s) W :=
  load_str ((cell_of_row _ _ 2 _ _ _ h).trans (by rw [← hs]; rfl))
theorem BlkIs.seen {q : Nat} {x : Rc} {W : World} (h : BlkIs q x W) : (loadVar 3 ⟨q, 3, none⟩).run Tryz.prog W = .ok (.int .i64 x.seen) W :=
  load_i64 ((cell_of_row _ _ 3 _ _ _ h).trans rfl)
theorem own_get {n : Nat} {A : List Rc} {i : Nat} {x : Rc} (h : A[i]? = some x) : Mg.own n (A.take (i + 1)) = Mg.own n (A.take i) ++ if x.kiosk = (n : Int) then [x] else [] := by
  rw [take_succ_get h, own_snoc]
theorem HonE.small {A : List Rc} {st : Mst} (hA : HonA A) (h : HonE A st) (test : Rc → Bool) : (Go.Proofs.YtpblfpnldbdncaaGreatDoor.picks st [1, 2, 3] test).length ≤ 72 := by
  rw [h.picks hA]
  refine Nat.le_trans (List.length_filter_le _ _) ?_
  have hl : (all3 A).length = (Mg.own 1 A).length + ((Mg.own 2 A).length + (Mg.own 3 A).length) := by rw [all3, List.length_append, List.length_append]
  have h1 := (hA.own 1).len
  have h2 := (hA.own 2).len
  have h3 := (hA.own 3).len
  omega
set_option maxHeartbeats 8000000 in
theorem walk_MergeHonest {w : World} (hE : Env w) {v : Value} {l : List Sale} (hA : LiesR saleK w v l) (hreach : l.length * 5 ≤ 140737488351232) (ao1 : Option Addr) (no co : Nat) (xs : List UInt8) (hx : BytesIn w ao1 no co xs) (u : Nat) (hu : u ≤ 255) :
    Calls Tryz.prog 5 #[v, .slice ao1 no co, .int .u8 (u : Int)] w fun e w' => e = .returned (.bool true) ∧ Below w.heap.size w w' := by
  have CSAN := Lib.hid (sanity_any w hE)
  have HE := Lib.hid hE
  have HA := Lib.hid hA
  have HR := Lib.hid hreach
  have HX := Lib.hid hx
  have hon := honA l
  obtain ⟨A, hLh⟩ : ∃ L, honL l = L := ⟨_, rfl⟩
  rw [hLh] at hon
  have HON := Lib.hid hon
  have HLH := Lib.hid hLh
  clear hE hA hreach hLh hx hon
  go_enter Tryz.func5, Tryz.ntmps5
  go_wp2_with fail
  refine CSAN.out.mono ?_
  rintro e w1 ⟨rfl, b1⟩
  have B1 := Lib.hid b1
  have CH := Lib.hid (honest_any (HA.out.below b1) HR.out)
  rw [HLH.out] at CH
  clear b1 CSAN
  go_wp2_with fail
  refine CH.out.mono ?_
  rintro e w2 ⟨v24, rfl, o2, b2⟩
  obtain ⟨N, hN⟩ : ∃ N, A.length = N := ⟨_, rfl⟩
  obtain ⟨ao, cap, hv⟩ : ∃ ao cap, v24 = .slice ao N cap := by
    obtain ⟨ao, cap, h | h⟩ := o2.lies.slice hN
    · exact ⟨ao, cap, h.1⟩
    · exact ⟨ao, cap, h.1⟩
  subst hv
  have HT : Hid (Has (RowsT rcK (.slice ao N cap) A) w w2) := ((Has.nil B1.out).newRows b2 o2).right
  have HN := Lib.hid hN
  have N24 : N ≤ 24 := by rw [← hN]; exact HON.out.len
  clear b2 o2 CH hN B1 HA HR HLH
  have CK := Lib.hid (fun W => kiosks_any 3 (by omega) W)
  go_wp2_with fail
  refine (CK.out _).mono ?_
  rintro e w4 ⟨v43, rfl, o4, b4⟩
  have CN := Lib.hid (new_has (HT.out.below b4) o4 (by decide))
  clear o4 b4 CK HT
  go_wp2_with fail
  refine CN.out.mono ?_
  rintro e w5 ⟨p, rfl, h5⟩
  have H5 : Hid (Has ((MrgT p (newSt (kiosksL 3)) 4).both (RowsT rcK (.slice ao N cap) A)) w w5) := h5
  clear h5 CN
  go_upto_block 0 with fail
  go_cut [] (fun wx => ∃ L st n, n ≤ 40 ∧ HonS A L st ∧ (st.outs = fun _ => none) ∧ Has ((MrgT p st n).both (RowsT rcK (.slice ao N cap) A)) w wx)
  case first =>
    go_wp2_with fail
    go_loopw [10, 11, 12] (fun v10 _ _ wx => ∃ i L st n, i ≤ 30 ∧ v10 = .int .i64 ((i : Nat) : Int) ∧ n ≤ 4 + i ∧ HonS A L st ∧ (st.outs = fun _ => none) ∧ Has ((MrgT p st n).both (RowsT rcK (.slice ao N cap) A)) w wx) (fun v10 _ _ _ => 30 - (intOf v10).toNat)
    case atStart => exact ⟨0, [], newSt (kiosksL 3), 4, by omega, rfl, by omega, hon_new A, rfl, H5.out⟩
    case round =>
      obtain ⟨i, L, st, n, hi, rfl, hn, hs, ho, hh⟩ := hrel
      have HH := Lib.hid hh
      have HS := Lib.hid hs
      have HO := Lib.hid ho
      clear hh hs ho H5
      by_cases c1 : i < no
      · have d1 : decide ((i : Int) < (no : Int)) = true := decide_eq_true (by omega)
        have d1' : decide (i < no) = true := decide_eq_true c1
        by_cases c2 : i < 30
        · have d2 : decide ((i : Int) < 30) = true := decide_eq_true (by omega)
          by_cases c3 : 0 < N
          · have d3 : decide ((0 : Int) < (N : Int)) = true := decide_eq_true (by omega)
            have d3' : decide (0 < N) = true := decide_eq_true c3
            obtain ⟨bo, oo, e1, hc⟩ := HX.out.some (by omega)
            subst e1
            have hcell := (HH.out.base.cell (p := ⟨bo, oo + i, none⟩) (block_lt_of_cell (hc i c1))).trans (hc i c1)
            obtain ⟨x8, hx8⟩ : ∃ k, (xs.getD i 0).toNat = k := ⟨_, rfl⟩
            have x8l : x8 ≤ 255 := by rw [← hx8]; have := (xs.getD i 0).toNat_lt; omega
            rw [hx8] at hcell
            obtain ⟨k, hk⟩ : ∃ k, x8 % N = k := ⟨_, rfl⟩
            have kn : k < N := by rw [← hk]; exact Nat.mod_lt _ (by omega)
            have e2 : (x8 : Int).tmod (N : Int) = (k : Int) := by rw [Int.tmod_eq_emod_of_nonneg (by omega)]; omega
            have x80 : (0 : Int) ≤ (x8 : Int) := by omega
            have x81 : (x8 : Int) ≤ 255 := by omega
            have z0 : (0 : Int) ≤ (k : Int) := by omega
            have z1 : (k : Int) < (N : Int) := by omega
            have z2 : (0 : Int) ≤ (i : Int) := by omega
            have z3 : (i : Int) < (no : Int) := by omega
            obtain ⟨g, capg, e⟩ := keys_nil_slice HH.out.right.rows HN.out c3
            injection e with e4 e5 e6
            subst e4
            obtain ⟨x, hx⟩ : ∃ x, A[k]? = some x := ⟨A[k]'(by rw [HN.out]; exact kn), List.getElem?_eq_getElem _⟩
            have HMEM := Lib.hid (List.mem_of_getElem? hx)
            have RG := Lib.hid (HH.out.right.rows.rcAt hx)
            have OK := Lib.hid (HON.out.hon x HMEM.out).sm.ok
            clear hx hk hc hx8 e5 e6
            have RI := Lib.hid (rc_info OK.out)
            have RO := Lib.hid (rcArr_one x)
            have RZ := Lib.hid (show (rcArr rc0).size = (rcArr x).size by rw [rcArr_size rc0_ok, rcArr_size OK.out])
            have E3 := Lib.hid (World.setRow_alloc_new wr (rcArr rc0) (rcArr x) 31)
            have F3 := Lib.hid (heap_alloc_new wr (.cells (rcArr rc0) 31))
            have bzv : Below wr.heap.size wr (wr.alloc (.cells (rcArr x) 31)) := (Below.refl _ _).alloc (Nat.le_refl _) _
            have HV := Lib.hid ((HH.out.newBlk bzv (heap_alloc_new wr (.cells (rcArr x) 31)) (Nat.le_refl _)).assoc)
            clear bzv
            go_upto_region 8 with (first
              | (refine wpList_load_c rfl (.tmp 55) rfl g (k * 102) rfl OK.out RG.out ?_)
              | (refine wpList_store_row rfl 31 (.tmp 11) (.tmp 56) rfl wr.heap.size (rcArr x) rfl rfl 31 _ F3.out RI.out RZ.out RO.out ?_; rw [E3.out]; simp only [Act.put]))
            obtain ⟨q, hqv⟩ : ∃ z, wr.heap.size = z := ⟨_, rfl⟩
            rw [hqv] at HV ⊢
            generalize wr.alloc (.cells (rcArr x) 31) = W2 at *
            clear hqv E3 F3 RZ RO
            clear RG HH
            obtain ⟨kk, hkk⟩ : ∃ k, x.kiosk = k := ⟨_, rfl⟩
            have k0 : W2.cell? ⟨q, 0, none⟩ = some (.int .i64 kk) := by
              rw [← hkk]; exact (cell_of_row _ _ 0 _ _ _ HV.out.right.right.blk).trans rfl
            obtain ⟨L', st', e', t', hs', ho', he'⟩ := hon_take HON.out HS.out HMEM.out
            have CT := Lib.hid (take_one HV.out HE.out x.kiosk OK.out.kiosk OK.out (by omega) t')
            rw [hkk] at CT he'
            have RBB := Lib.hid HV.out.right.right.blk
            have HS2 := Lib.hid hs'
            have HO2 := Lib.hid (ho'.trans HO.out)
            have HKK := Lib.hid hkk
            clear hkk t' hs' ho' HS HO HMEM
            go_wp2_with (first
              | (refine wpList_load_row rfl 31 (.tmp 11) rfl q rfl 31 (rcArr x) (0, 0) _ RBB.out Tryz.underlying31 rfl RI.out ?_)
              | (refine wpList_build_r rcK rfl (.tmp 60) rfl OK.out (.agg (rcArr x)) rfl rfl ?_))
            refine CT.out.mono ?_
            rintro e w6 ⟨rfl, h6⟩
            have k6 : w6.cell? ⟨q, 0, none⟩ = some (.int .i64 kk) := by
              rw [← HKK.out]; exact (cell_of_row _ _ 0 _ _ _ h6.right.right.blk).trans rfl
            have H6 := Lib.hid h6.assoc'.left
            clear h6 CT RBB k0 HV
            rcases he' with ⟨hk0, rfl | rfl⟩ | ⟨hk0, rfl⟩
            · clear hk0
              go_wp2_with fail
              refine ⟨⟨i + 1, L', st', n + 1, by omega, rfl, by omega, HS2.out, HO2.out, H6.out⟩, by simp [intOf]; omega⟩
            · clear hk0
              go_wp2_with fail
              refine ⟨⟨i + 1, L', st', n + 1, by omega, rfl, by omega, HS2.out, HO2.out, H6.out⟩, by simp [intOf]; omega⟩
            · subst hk0
              go_wp2_with fail
              refine ⟨⟨i + 1, L', st', n + 1, by omega, rfl, by omega, HS2.out, HO2.out, H6.out⟩, by simp [intOf]; omega⟩
          · have d3 : decide ((0 : Int) < (N : Int)) = false := decide_eq_false (by omega)
            have d3' : decide (0 < N) = false := decide_eq_false c3
            clear c3
            go_wp2_with fail
            go_meet
            exact ⟨L, st, n, by omega, HS.out, HO.out, HH.out⟩
        · have d2 : decide ((i : Int) < 30) = false := decide_eq_false (by omega)
          clear c2
          go_wp2_with fail
          go_meet
          exact ⟨L, st, n, by omega, HS.out, HO.out, HH.out⟩
      · have d1 : decide ((i : Int) < (no : Int)) = false := decide_eq_false (by omega)
        have d1' : decide (i < no) = false := decide_eq_false c1
        clear c1
        go_wp2_with fail
        go_meet
        exact ⟨L, st, n, by omega, HS.out, HO.out, HH.out⟩
  case rest =>
    obtain ⟨L1, st1, n1, hn1, hs1, ho1, hh⟩ := hcut
    have H6 := Lib.hid hh
    have BASE := Lib.hid (down_base hs1.pub ho1)
    have HS1 := Lib.hid (hon_down hs1 60 60)
    clear hh hs1 ho1 H5 HX
    go_wp2_with fail
    go_loopw [13, 79] (fun _ v79 wx => ∃ i : Nat, i ≤ 60 ∧ v79 = .int .i64 i ∧ Has ((MrgT p (stDown 60 i st1) (n1 + i)).both (RowsT rcK (.slice ao N cap) A)) w wx) (fun _ v79 _ => 60 - (intOf v79).toNat)
    case atStart => exact ⟨0, Nat.zero_le _, rfl, H6.out⟩
    case round =>
      obtain ⟨j, hj, rfl, hh⟩ := hrel
      have HH := Lib.hid hh
      clear hh
      by_cases hjt : j < 60
      · have d3 : decide ((j : Int) < 60) = true := decide_eq_true (by omega)
        have CO := Lib.hid (fun W => output_any (60 - (j : Int)) ⟨by omega, by omega⟩ W)
        have OO := Lib.hid (otOf_ok (n := 60 - (j : Int)) ⟨by omega, by omega⟩ (outHash_len (60 - (j : Int))))
        have ES : Hid (stDown 60 (j + 1) st1 = ((stDown 60 j st1).learn (60 - (j : Int)) (outHash (60 - (j : Int)))).1) := stDown_succ 60 j st1
        go_wp2_with fail
        refine (CO.out _).mono ?_
        rintro e w8 ⟨rfl, b8⟩
        have CL := Lib.hid (learn_has (HH.out.below b8) (otOf (60 - (j : Int)) (outHash (60 - (j : Int)))) OO.out (by omega))
        obtain ⟨V, hV⟩ : ∃ V, otArr (otOf (60 - (j : Int)) (outHash (60 - (j : Int)))) = V := ⟨_, rfl⟩
        rw [hV] at CL CO
        rw [hV]
        have HV := Lib.hid hV
        clear b8 hV
        go_wp2_with fail
        refine CL.out.mono ?_
        rintro e w9 ⟨rfl, h9⟩
        have H9 := Lib.hid h9
        clear h9 CL
        go_wp2_with fail
        refine ⟨⟨j + 1, hjt, rfl, ?_⟩, by simp [intOf]; omega⟩
        rw [ES.out]
        exact H9.out
      · have ej : j = 60 := by omega
        have hq := HH.out
        rw [ej] at hq
        have HQ := Lib.hid hq
        obtain ⟨z60, hz60⟩ : ∃ z : Int, (j : Int) = z := ⟨_, rfl⟩
        have d3 : decide (z60 < 60) = false := decide_eq_false (by omega)
        rw [hz60]
        clear hjt hj HH H6 hq hz60 ej
        obtain ⟨st2, hst2⟩ : ∃ s, stDown 60 60 st1 = s := ⟨_, rfl⟩
        rw [hst2] at HQ BASE HS1
        clear hst2
        go_wp2_with fail
        go_loopw [14, 15] (fun v14 _ wx => ∃ i L st n, 1 ≤ i ∧ i ≤ 4 ∧ v14 = .int .i64 ((i : Nat) : Int) ∧ n ≤ 200 + 24 * i ∧ HonS A L st ∧ Base st ∧ (∀ m, 1 ≤ m → m < i → ∀ r ∈ Mg.own m A, r ∈ L) ∧ Has ((MrgT p st n).both (RowsT rcK (.slice ao N cap) A)) w wx) (fun v14 _ _ => 4 - (intOf v14).toNat)
        case atStart => exact ⟨1, L1, st2, n1 + 60, by omega, by omega, rfl, by omega, HS1.out, BASE.out, fun m h1 h2 => by omega, HQ.out⟩
        case round =>
          obtain ⟨i, L, st, n, hi1, hi4, rfl, hn, hs, hb, hm, hh⟩ := hrel
          have HH := Lib.hid hh
          have HS := Lib.hid hs
          have HB := Lib.hid hb
          have HM := Lib.hid hm
          clear hh hs hb hm HQ BASE HS1
          by_cases hit : i < 4
          · have d4 : decide ((i : Int) < 4) = true := decide_eq_true (by omega)
            have wo1 : ∃ W, W = wr := ⟨_, rfl⟩
            obtain ⟨wo, hwo⟩ := wo1
            subst hwo
            go_wp2_with fail
            go_loopw [15, 94] (fun v15 v94 wx => ∃ j : Nat, j ≤ N ∧ v94 = .int .i64 j ∧ OwnsR rcK wx wo.heap.size v15 (Mg.own i (A.take j)) ∧ (Mg.own i (A.take j)).length ≤ j ∧ Below wo.heap.size wo wx) (fun _ v94 _ => N - (intOf v94).toNat)
            case atStart => exact ⟨0, Nat.zero_le _, rfl, OwnsR.nil _ _ _, Nat.le_refl 0, Below.refl _ _⟩
            case round =>
              obtain ⟨j, hj, rfl, ho, hlen, hb⟩ := hrel
              have HO := Lib.hid ho
              have HN2 := Lib.hid hlen
              have HBW := Lib.hid hb
              have HJ := Lib.hid (HH.out.below hb)
              clear ho hlen hb
              by_cases hlt : j < N
              · have d1 : decide ((j : Int) < (N : Int)) = true := decide_eq_true (by omega)
                have d2 : decide (j < N) = true := decide_eq_true hlt
                have z0 : (0 : Int) ≤ (j : Int) := by omega
                have z1 : (j : Int) < (N : Int) := by omega
                obtain ⟨g, capg, e⟩ := keys_nil_slice HH.out.right.rows HN.out (by omega)
                injection e with e4 e5 e6
                subst e4
                obtain ⟨x, hx⟩ : ∃ x, A[j]? = some x := ⟨A[j]'(by rw [HN.out]; exact hlt), List.getElem?_eq_getElem _⟩
                have HXX := Lib.hid hx
                have RG := Lib.hid (HJ.out.right.rows.rcAt hx)
                have OK := Lib.hid (HON.out.hon x (List.mem_of_getElem? hx)).sm.ok
                have BZ : Hid (Below wr.heap.size wr (wr.alloc (.cells (rcArr x) 31))) := (Below.refl _ _).alloc (Nat.le_refl _) _
                have HO2 := Lib.hid (HO.out.below BZ.out)
                have HB2 := Lib.hid (HBW.out.trans (BZ.out.mono HBW.out.size))
                clear hx e5 e6 BZ HO HBW
                have RI := Lib.hid (rc_info OK.out)
                have RO := Lib.hid (rcArr_one x)
                have RZ := Lib.hid (show (rcArr rc0).size = (rcArr x).size by rw [rcArr_size rc0_ok, rcArr_size OK.out])
                have E3 := Lib.hid (World.setRow_alloc_new wr (rcArr rc0) (rcArr x) 31)
                have F3 := Lib.hid (heap_alloc_new wr (.cells (rcArr rc0) 31))
                have bzv : Below wr.heap.size wr (wr.alloc (.cells (rcArr x) 31)) := (Below.refl _ _).alloc (Nat.le_refl _) _
                have HV := Lib.hid ((HJ.out.newBlk bzv (heap_alloc_new wr (.cells (rcArr x) 31)) (Nat.le_refl _)).assoc)
                clear bzv
                go_upto_region 23 with (first
                  | (refine wpList_load_c rfl (.tmp 96) rfl g (j * 102) rfl OK.out RG.out ?_)
                  | (refine wpList_store_row rfl 31 (.tmp 17) (.tmp 97) rfl wr.heap.size (rcArr x) rfl rfl 31 _ F3.out RI.out RZ.out RO.out ?_; rw [E3.out]; simp only [Act.put]))
                obtain ⟨q, hqv⟩ : ∃ z, wr.heap.size = z := ⟨_, rfl⟩
                rw [hqv] at HV ⊢
                generalize wr.alloc (.cells (rcArr x) 31) = W2 at *
                clear hqv E3 F3 RZ RO
                clear RG HJ
                obtain ⟨kk, hkk⟩ : ∃ k, x.kiosk = k := ⟨_, rfl⟩
                have F4 := Lib.hid HV.out.right.right.blk
                have k0 : W2.cell? ⟨q, 0, none⟩ = some (.int .i64 kk) := by
                  rw [← hkk]; exact (cell_of_row _ _ 0 _ _ _ F4.out).trans rfl
                have KS : Hid (Mg.own i (A.take (j + 1)) = Mg.own i (A.take j) ++ if kk = (i : Int) then [x] else []) := by
                  show _ = _
                  rw [own_get HXX.out, hkk]
                clear hkk HV
                by_cases h2 : kk = (i : Int)
                · subst h2
                  rw [if_pos rfl] at KS
                  have bz : Below W2.heap.size W2 (W2.alloc (.cells (rcK.enc x).toArray rcK.ty)) := (Below.refl _ _).alloc (Nat.le_refl _) _
                  have OZ := Lib.hid (HO2.out.below bz)
                  have BZ := Lib.hid (HB2.out.trans (bz.mono HB2.out.size))
                  have NZ := Lib.hid (heap_alloc_new W2 (.cells (rcK.enc x).toArray rcK.ty))
                  have LZ : Hid ((Mg.own i (A.take j)).length ≤ 100000) := by show _ ≤ _; have := HN2.out; omega
                  clear bz
                  go_wp2_with (first
                    | (refine wpList_load_row rfl 31 (.tmp 17) rfl q rfl 31 (rcArr x) (0, 0) _ F4.out Tryz.underlying31 rfl RI.out ?_)
                    | (refine wpList_build_r rcK rfl (.tmp 103) rfl OK.out (.agg (rcArr x)) rfl rfl ?_)
                    | (at_builtin; refine wpList_append_r rcK rfl (.tmp 102) (.tmp 104) rfl wo.heap.size u15 (Mg.own i (A.take j)) x W2.heap.size rfl rfl OZ.out OK.out NZ.out LZ.out BZ.out.size ?_; intro v5' w8 hown8 hg8))
                  refine ⟨⟨j + 1, hlt, rfl, by rw [KS.out]; exact hown8, by rw [KS.out, List.length_append]; have := HN2.out; simp; omega, BZ.out.grown hg8 BZ.out.size (fun b e => (OZ.out.base_le b e).1)⟩, by simp [intOf]; omega⟩
                · have h2' : (kk == (i : Int)) = false := by simpa using h2
                  rw [if_neg h2, List.append_nil] at KS
                  clear h2
                  go_wp2_with fail
                  refine ⟨⟨j + 1, hlt, rfl, by rw [KS.out]; exact HO2.out, by rw [KS.out]; have := HN2.out; omega, HB2.out⟩, by simp [intOf]; omega⟩
              · have ei : j = N := by omega
                have d1 : decide ((j : Int) < (N : Int)) = false := decide_eq_false (by omega)
                have d2 : decide (j < N) = false := decide_eq_false hlt
                have ET := Lib.hid (show A.take j = A by rw [ei, ← HN.out]; exact List.take_length)
                rw [ET.out] at HO
                obtain ⟨a15, n15, c15, h15⟩ : ∃ ao n c, u15 = .slice ao n c := by
                  rcases HO.out.2.2 with ⟨h, _⟩ | ⟨g, cap, cur, h, _⟩
                  · exact ⟨_, _, _, h⟩
                  · exact ⟨_, _, _, h⟩
                subst h15
                have HT2 := Lib.hid (HH.out.newRows HBW.out HO.out).assoc
                have hol : (Mg.own i A).length ≤ 24 := (HON.out.own i).len
                obtain ⟨st', t', hs', ho'⟩ := hon_whole HON.out HS.out hi1 hit
                have CT := Lib.hid (take_rows HT2.out HE.out (i : Int) ⟨by omega, by omega⟩ HT2.out.right.right.rows.lies HT2.out.right.right.rows.typed' (by omega))
                rw [t'] at CT
                have HS2 := Lib.hid hs'
                have HB3 := Lib.hid (HB.out.same (hs'.pub.trans HS.out.pub.symm) ho')
                have HM2 : Hid (∀ m, 1 ≤ m → m < i + 1 → ∀ r ∈ Mg.own m A, r ∈ L ++ Mg.own i A) := fun m h1 h2 r hr => by
                  by_cases e : m = i
                  · subst e
                    exact List.mem_append.2 (.inr hr)
                  · exact List.mem_append.2 (.inl (HM.out m h1 (by omega) r hr))
                obtain ⟨ol, hol2⟩ : ∃ z, (Mg.own i A).length = z := ⟨_, rfl⟩
                rw [hol2] at hol CT
                clear t' hs' ho' ET ei hlt HN2 HO HBW HJ HT2 hol2 HS HB HM
                go_wp2_with fail
                refine CT.out.mono ?_
                rintro e w6 ⟨rfl, h6⟩
                have H6 := Lib.hid h6.assoc'.left
                clear h6 CT
                go_wp2_with fail
                refine ⟨⟨i + 1, L ++ Mg.own i A, st', n + ol, by omega, by omega, rfl, by omega, HS2.out, HB3.out, HM2.out, H6.out⟩, by simp [intOf]; omega⟩
          · have ei : i = 4 := by omega
            have d4 : decide ((i : Int) < 4) = false := decide_eq_false (by omega)
            have HEND : Hid (HonE A st) := ⟨fun m h1 h2 => own_all HON.out HS.out (HM.out m h1 (by omega)), HB.out, HS.out.cl⟩
            have SML := Lib.hid (HEND.out.small HON.out)
            have EV := Lib.hid (HEND.out.ev HON.out)
            have n300 : n ≤ 300 := by omega
            obtain ⟨rd, hrd⟩ : ∃ k, u % 9 = k := ⟨_, rfl⟩
            have rd9 : rd < 9 := by rw [← hrd]; exact Nat.mod_lt _ (by omega)
            have e9 : (u : Int).tmod 9 = (rd : Int) := by rw [Int.tmod_eq_emod_of_nonneg (by omega)]; omega
            have r0 : (0 : Int) ≤ (rd : Int) := by omega
            have r1 : (rd : Int) ≤ 8 := by omega
            have TOT := Lib.hid (HEND.out.tot HON.out (rd : Int))
            have ei2 := Lib.hid ei
            clear ei hit hi1 hi4 hn hrd HM HS
            go_wp2_with fail
            go_loopw [18, 19, 113] (fun v18 _ v113 wx => ∃ k : Nat, k ≤ 3 ∧ v113 = .int .i64 k ∧ v18 = .int .i64 ((tot st (rd : Int) k : Nat) : Int) ∧ tot st (rd : Int) k ≤ 200 * k ∧ Has ((MrgT p st n).both (RowsT rcK (.slice ao N cap) A)) w wx) (fun _ _ v113 _ => 3 - (intOf v113).toNat)
            case atStart => exact ⟨0, by omega, rfl, rfl, Nat.le_refl 0, HH.out⟩
            case round =>
              obtain ⟨k, hk, rfl, rfl, ht, hh⟩ := hrel
              have HW := Lib.hid hh
              clear hh HH
              by_cases hlt : k < 3
              · have d1 : decide ((k : Int) < 3) = true := decide_eq_true (by omega)
                have CD := Lib.hid (fun W => draw_any k W (by omega))
                obtain ⟨t0, ht0⟩ : ∃ c, tot st (rd : Int) k = c := ⟨_, rfl⟩
                obtain ⟨t1, ht1⟩ : ∃ c, tot st (rd : Int) (k + 1) = c := ⟨_, rfl⟩
                obtain ⟨P1, hP1⟩ : ∃ P, picks st [1, 2, 3] (soon (drawName k) (rd : Int)) = P := ⟨_, rfl⟩
                obtain ⟨P2, hP2⟩ : ∃ P, picks st [1, 2, 3] (late (drawName k) (rd : Int)) = P := ⟨_, rfl⟩
                obtain ⟨l1, hl1⟩ : ∃ z, P1.length = z := ⟨_, rfl⟩
                obtain ⟨l2, hl2⟩ : ∃ z, P2.length = z := ⟨_, rfl⟩
                have hs := tot_succ st (rd : Int) k
                rw [ht0, ht1, hP1, hP2, hl1, hl2] at hs
                have q1 := SML.out (soon (drawName k) (rd : Int))
                have q2 := SML.out (late (drawName k) (rd : Int))
                rw [hP1, hl1] at q1
                rw [hP2, hl2] at q2
                rw [ht0] at ht
                have t0x : t0 ≤ 1000 := by omega
                have hs2 : (t0 : Int) + (l1 : Int) + (l2 : Int) = (t1 : Int) := by omega
                have t1x : t1 ≤ 200 * (k + 1) := by omega
                have HT1 := Lib.hid ht1
                have HP1 : Hid (∀ r ∈ P1, r.draw = drawName k ∧ r.seen < (rd : Int)) := fun r hr => by rw [← hP1] at hr; exact soon_at hr
                have HP2 : Hid (∀ r ∈ P2, r.draw = drawName k ∧ (rd : Int) ≤ r.seen) := fun r hr => by rw [← hP2] at hr; exact late_at hr
                have HL1 := Lib.hid hl1
                have HL2 := Lib.hid hl2
                have HQ1 := Lib.hid hP1
                have HQ2 := Lib.hid hP2
                obtain ⟨ds, hds⟩ : ∃ s, bstr (drawName k) = s := ⟨_, rfl⟩
                rw [hds] at CD
                have HDS := Lib.hid hds
                rw [ht0]
                clear ht0 ht1 hP1 hP2 hl1 hl2 hs ht
                go_wp2_with fail
                refine (CD.out _).mono ?_
                rintro e w6 ⟨rfl, b6⟩
                have HW1 := Lib.hid (HW.out.below b6)
                have CR := Lib.hid (receipts_has HW1.out.left (by omega) HB.out.few HB.out.keys (drawName k) (rd : Int))
                rw [HDS.out, HQ1.out] at CR
                clear b6 HW
                go_wp2_with fail
                refine CR.out.mono ?_
                rintro e w7 ⟨v7, rfl, o7, b7⟩
                obtain ⟨ap, capp, hv⟩ : ∃ ao cap, v7 = .slice ao l1 cap := by
                  obtain ⟨ao, cap, h | h⟩ := o7.lies.slice HL1.out
                  · exact ⟨ao, cap, h.1⟩
                  · exact ⟨ao, cap, h.1⟩
                subst hv
                have HP := Lib.hid (HW1.out.newRows b7 o7).assoc
                clear o7 b7 HW1 CR
                go_wp2_with fail
                go_loopw [18, 124] (fun v18 v124 wx => ∃ j : Nat, j ≤ l1 ∧ v124 = .int .i64 j ∧ v18 = .int .i64 ((t0 + j : Nat) : Int) ∧ Has ((MrgT p st n).both ((RowsT rcK (.slice ao N cap) A).both (RowsT rcK (.slice ap l1 capp) P1))) w wx) (fun _ v124 _ => l1 - (intOf v124).toNat)
                case atStart => exact ⟨0, Nat.zero_le _, rfl, rfl, HP.out⟩
                case round =>
                  obtain ⟨j, hj, rfl, rfl, hh⟩ := hrel
                  have HJ := Lib.hid hh
                  clear hh HP
                  by_cases hjl : j < l1
                  · have d5 : decide ((j : Int) < (l1 : Int)) = true := decide_eq_true (by omega)
                    have d6 : decide (j < l1) = true := decide_eq_true hjl
                    have z0 : (0 : Int) ≤ (j : Int) := by omega
                    have z1 : (j : Int) < (l1 : Int) := by omega
                    obtain ⟨g, capg, e⟩ := keys_nil_slice HJ.out.right.right.rows HL1.out (by omega)
                    injection e with e4 e5 e6
                    subst e4
                    obtain ⟨x, hx⟩ : ∃ x, P1[j]? = some x := ⟨P1[j]'(by rw [HL1.out]; exact hjl), List.getElem?_eq_getElem _⟩
                    have RG := Lib.hid (HJ.out.right.right.rows.rcAt hx)
                    have OK := Lib.hid (HJ.out.right.right.rows.1 x (List.mem_of_getElem? hx))
                    have FX := HP1.out x (List.mem_of_getElem? hx)
                    have FD : Hid (bstr x.draw = ds) := by show _ = _; rw [FX.1, HDS.out]
                    obtain ⟨sn, hsn⟩ : ∃ z, x.seen = z := ⟨_, rfl⟩
                    have FS := FX.2
                    rw [hsn] at FS
                    have SNI : I64 sn := by rw [← hsn]; exact OK.out.seen
                    have HSN := Lib.hid hsn
                    obtain ⟨sn0, sn1⟩ := SNI
                    have d7 : decide ((rd : Int) ≤ sn) = false := decide_eq_false (by omega)
                    clear hx e5 e6 FX hsn
                    have RI := Lib.hid (rc_info OK.out)
                    have RO := Lib.hid (rcArr_one x)
                    have RZ := Lib.hid (show (rcArr rc0).size = (rcArr x).size by rw [rcArr_size rc0_ok, rcArr_size OK.out])
                    have E3 := Lib.hid (World.setRow_alloc_new wr (rcArr rc0) (rcArr x) 31)
                    have F3 := Lib.hid (heap_alloc_new wr (.cells (rcArr rc0) 31))
                    have bzv : Below wr.heap.size wr (wr.alloc (.cells (rcArr x) 31)) := (Below.refl _ _).alloc (Nat.le_refl _) _
                    have HV := Lib.hid ((HJ.out.newBlk bzv (heap_alloc_new wr (.cells (rcArr x) 31)) (Nat.le_refl _)).assoc)
                    clear bzv
                    go_upto_region 35 with (first
                      | (refine wpList_load_c rfl (.tmp 126) rfl g (j * 102) rfl OK.out RG.out ?_)
                      | (refine wpList_store_row rfl 31 (.tmp 21) (.tmp 127) rfl wr.heap.size (rcArr x) rfl rfl 31 _ F3.out RI.out RZ.out RO.out ?_; rw [E3.out]; simp only [Act.put]))
                    obtain ⟨q, hqv⟩ : ∃ z, wr.heap.size = z := ⟨_, rfl⟩
                    rw [hqv] at HV ⊢
                    generalize wr.alloc (.cells (rcArr x) 31) = W2 at *
                    clear hqv E3 F3 RZ RO
                    clear RG HJ
                    have SB : Hid (BlkIs q x W2) := HV.out.right.right.blk
                    have HV2 := Lib.hid HV.out.assoc'.left
                    clear HV
                    go_upto_region 36 with fail
                    refine wp_region_plan (BlkIs q x) [4, 5, 6, 7, 8, 9, 10, 11, 12] [([0, 1, 2], 3)] (by kernel_rfl) (by kernel_rfl) (by kernel_rfl) (SB.out.below (Below.refl _ _).drew) ?_
                    simp only [List.map_cons, List.map_nil, opN, List.getD_cons_succ, List.getD_cons_zero]
                    have S4 := Lib.hid (SB.out.below (Below.refl W2.heap.size W2).drew)
                    have H4 := Lib.hid (HV2.out.below (Below.refl W2.heap.size W2).drew)
                    clear SB HV2
                    generalize W2.drew = v0 at *
                    refine segs_cons ?_
                    repeat (first
                      | (refine quiet_load_row (by rfl) _ (.tmp 130) rfl _ _ rfl (.string ds) (fun w' h => h.draw FD.out) ?_; simp only [Act.put, List.setIfInBounds_toArray, List.set_cons_zero, List.set_cons_succ])
                      | go_big_quiet_step (fail)
                      | (go_big_quiet_want; go_big_quiet_op; refine ⟨_, fun _ _ => rfl, ?_⟩; go_big_quiet_on))
                    refine wpQuiet_nil ?_
                    refine segs_step (by rfl) fun K hK => ?_
                    go_simp
                    refine (CD.out _).mono ?_
                    rintro e v1 ⟨rfl, b1⟩
                    have H5 := Lib.hid (H4.out.below b1)
                    refine hK _ _ (S4.out.below b1) ?_
                    clear hK K b1 S4 H4
                    refine segs_nil ?_
                    repeat (first
                      | (refine quiet_load_row (by rfl) _ (.tmp 136) rfl _ _ rfl (.int .i64 sn) (fun w' h => by rw [← HSN.out]; exact h.seen) ?_; simp only [Act.put, List.setIfInBounds_toArray, List.set_cons_zero, List.set_cons_succ])
                      | go_big_quiet_step (fail)
                      | (go_big_quiet_want; go_big_quiet_op; refine ⟨_, fun _ _ => rfl, ?_⟩; go_big_quiet_on))
                    refine wpQuiet_nil ?_
                    refine NoPanic.normal ?_
                    go_wp2_with fail
                    refine ⟨⟨j + 1, hjl, rfl, by simp; omega, ?_⟩, by simp [intOf]; omega⟩
                    exact H5.out
                  · have ej : j = l1 := by omega
                    have d5 : decide ((j : Int) < (l1 : Int)) = false := decide_eq_false (by omega)
                    have d6 : decide (j < l1) = false := decide_eq_false hjl
                    rw [ej]
                    have HW := Lib.hid HJ.out.assoc'.left
                    clear ej hjl hj d5 d6 HJ
                    go_wp2_with fail
                    refine (CD.out _).mono ?_
                    rintro e w6 ⟨rfl, b6⟩
                    have HW1 := Lib.hid (HW.out.below b6)
                    have CR := Lib.hid (lates_has HW1.out.left (by omega) HB.out.few HB.out.keys (drawName k) (rd : Int))
                    rw [HDS.out, HQ2.out] at CR
                    clear b6 HW
                    go_wp2_with fail
                    refine CR.out.mono ?_
                    rintro e w7 ⟨v7, rfl, o7, b7⟩
                    obtain ⟨ap, capp, hv⟩ : ∃ ao cap, v7 = .slice ao l2 cap := by
                      obtain ⟨ao, cap, h | h⟩ := o7.lies.slice HL2.out
                      · exact ⟨ao, cap, h.1⟩
                      · exact ⟨ao, cap, h.1⟩
                    subst hv
                    have HP := Lib.hid (HW1.out.newRows b7 o7).assoc
                    clear o7 b7 HW1 CR
                    go_wp2_with fail
                    go_loopw [18, 152] (fun v18 v152 wx => ∃ j : Nat, j ≤ l2 ∧ v152 = .int .i64 j ∧ v18 = .int .i64 ((t0 + l1 + j : Nat) : Int) ∧ Has ((MrgT p st n).both ((RowsT rcK (.slice ao N cap) A).both (RowsT rcK (.slice ap l2 capp) P2))) w wx) (fun _ v152 _ => l2 - (intOf v152).toNat)
                    case atStart => exact ⟨0, Nat.zero_le _, rfl, rfl, HP.out⟩
                    case round =>
                      obtain ⟨j, hj, rfl, rfl, hh⟩ := hrel
                      have HJ := Lib.hid hh
                      clear hh HP
                      by_cases hjl : j < l2
                      · have d5 : decide ((j : Int) < (l2 : Int)) = true := decide_eq_true (by omega)
                        have d6 : decide (j < l2) = true := decide_eq_true hjl
                        have z0 : (0 : Int) ≤ (j : Int) := by omega
                        have z1 : (j : Int) < (l2 : Int) := by omega
                        obtain ⟨g, capg, e⟩ := keys_nil_slice HJ.out.right.right.rows HL2.out (by omega)
                        injection e with e4 e5 e6
                        subst e4
                        obtain ⟨x, hx⟩ : ∃ x, P2[j]? = some x := ⟨P2[j]'(by rw [HL2.out]; exact hjl), List.getElem?_eq_getElem _⟩
                        have RG := Lib.hid (HJ.out.right.right.rows.rcAt hx)
                        have OK := Lib.hid (HJ.out.right.right.rows.1 x (List.mem_of_getElem? hx))
                        have FX := HP2.out x (List.mem_of_getElem? hx)
                        have FD : Hid (bstr x.draw = ds) := by show _ = _; rw [FX.1, HDS.out]
                        obtain ⟨sn, hsn⟩ : ∃ z, x.seen = z := ⟨_, rfl⟩
                        have FS := FX.2
                        rw [hsn] at FS
                        have SNI : I64 sn := by rw [← hsn]; exact OK.out.seen
                        have HSN := Lib.hid hsn
                        obtain ⟨sn0, sn1⟩ := SNI
                        have d7 : decide (sn < (rd : Int)) = false := decide_eq_false (by omega)
                        clear hx e5 e6 FX hsn
                        have RI := Lib.hid (rc_info OK.out)
                        have RO := Lib.hid (rcArr_one x)
                        have RZ := Lib.hid (show (rcArr rc0).size = (rcArr x).size by rw [rcArr_size rc0_ok, rcArr_size OK.out])
                        have E3 := Lib.hid (World.setRow_alloc_new wr (rcArr rc0) (rcArr x) 31)
                        have F3 := Lib.hid (heap_alloc_new wr (.cells (rcArr rc0) 31))
                        have bzv : Below wr.heap.size wr (wr.alloc (.cells (rcArr x) 31)) := (Below.refl _ _).alloc (Nat.le_refl _) _
                        have HV := Lib.hid ((HJ.out.newBlk bzv (heap_alloc_new wr (.cells (rcArr x) 31)) (Nat.le_refl _)).assoc)
                        clear bzv
                        go_upto_region 42 with (first
                          | (refine wpList_load_c rfl (.tmp 154) rfl g (j * 102) rfl OK.out RG.out ?_)
                          | (refine wpList_store_row rfl 31 (.tmp 23) (.tmp 155) rfl wr.heap.size (rcArr x) rfl rfl 31 _ F3.out RI.out RZ.out RO.out ?_; rw [E3.out]; simp only [Act.put]))
                        obtain ⟨q, hqv⟩ : ∃ z, wr.heap.size = z := ⟨_, rfl⟩
                        rw [hqv] at HV ⊢
                        generalize wr.alloc (.cells (rcArr x) 31) = W2 at *
                        clear hqv E3 F3 RZ RO
                        clear RG HJ
                        have SB : Hid (BlkIs q x W2) := HV.out.right.right.blk
                        have HV2 := Lib.hid HV.out.assoc'.left
                        clear HV
                        go_upto_region 43 with fail
                        refine wp_region_plan (BlkIs q x) [4, 5, 6, 7, 8, 9, 10, 11, 12] [([0, 1, 2], 3)] (by kernel_rfl) (by kernel_rfl) (by kernel_rfl) (SB.out.below (Below.refl _ _).drew) ?_
                        simp only [List.map_cons, List.map_nil, opN, List.getD_cons_succ, List.getD_cons_zero]
                        have S4 := Lib.hid (SB.out.below (Below.refl W2.heap.size W2).drew)
                        have H4 := Lib.hid (HV2.out.below (Below.refl W2.heap.size W2).drew)
                        clear SB HV2
                        generalize W2.drew = v0 at *
                        refine segs_cons ?_
                        repeat (first
                          | (refine quiet_load_row (by rfl) _ (.tmp 158) rfl _ _ rfl (.string ds) (fun w' h => h.draw FD.out) ?_; simp only [Act.put, List.setIfInBounds_toArray, List.set_cons_zero, List.set_cons_succ])
                          | go_big_quiet_step (fail)
                          | (go_big_quiet_want; go_big_quiet_op; refine ⟨_, fun _ _ => rfl, ?_⟩; go_big_quiet_on))
                        refine wpQuiet_nil ?_
                        refine segs_step (by rfl) fun K hK => ?_
                        go_simp
                        refine (CD.out _).mono ?_
                        rintro e v1 ⟨rfl, b1⟩
                        have H5 := Lib.hid (H4.out.below b1)
                        refine hK _ _ (S4.out.below b1) ?_
                        clear hK K b1 S4 H4
                        refine segs_nil ?_
                        repeat (first
                          | (refine quiet_load_row (by rfl) _ (.tmp 164) rfl _ _ rfl (.int .i64 sn) (fun w' h => by rw [← HSN.out]; exact h.seen) ?_; simp only [Act.put, List.setIfInBounds_toArray, List.set_cons_zero, List.set_cons_succ])
                          | go_big_quiet_step (fail)
                          | (go_big_quiet_want; go_big_quiet_op; refine ⟨_, fun _ _ => rfl, ?_⟩; go_big_quiet_on))
                        refine wpQuiet_nil ?_
                        refine NoPanic.normal ?_
                        go_wp2_with fail
                        refine ⟨⟨j + 1, hjl, rfl, by simp; omega, ?_⟩, by simp [intOf]; omega⟩
                        exact H5.out
                      · have ej : j = l2 := by omega
                        have d5 : decide ((j : Int) < (l2 : Int)) = false := decide_eq_false (by omega)
                        have d6 : decide (j < l2) = false := decide_eq_false hjl
                        have ET : (((t0 + l1 + j : Nat) : Int)) = (t1 : Int) := by omega
                        rw [ET]
                        have HZ := Lib.hid HJ.out.assoc'.left
                        clear ET HJ ej hjl hj
                        go_wp2_with fail
                        refine ⟨⟨k + 1, hlt, rfl, by rw [HT1.out], by rw [HT1.out]; exact t1x, HZ.out⟩, by simp [intOf]; omega⟩
              · have ek : k = 3 := by omega
                have d1 : decide ((k : Int) < 3) = false := decide_eq_false (by omega)
                have ETT : tot st (rd : Int) k = known A := by rw [ek]; exact TOT.out
                rw [ETT]
                clear ht hlt hk ek ETT
                have HH := Lib.hid HW.out
                have KN : known A ≤ 24 := Nat.le_trans (List.length_filter_le _ _) HON.out.len
                obtain ⟨kn, hkn⟩ : ∃ z, known A = z := ⟨_, rfl⟩
                rw [hkn] at KN
                rw [hkn]
                have HKN := Lib.hid hkn
                clear hkn HW
                go_wp2_with fail
                go_loopw [18, 175] (fun v18 v175 wx => ∃ j : Nat, j ≤ N ∧ v175 = .int .i64 j ∧ v18 = .int .i64 ((kn - known (A.take j) : Nat) : Int) ∧ known (A.take j) ≤ kn ∧ Has ((MrgT p st n).both (RowsT rcK (.slice ao N cap) A)) w wx) (fun _ v175 _ => N - (intOf v175).toNat)
                case atStart => exact ⟨0, Nat.zero_le _, rfl, rfl, Nat.zero_le _, HH.out⟩
                case round =>
                  obtain ⟨j, hj, rfl, rfl, hkl, hh⟩ := hrel
                  have HJ := Lib.hid hh
                  clear hh HH
                  by_cases hlt : j < N
                  · have d1 : decide ((j : Int) < (N : Int)) = true := decide_eq_true (by omega)
                    have d2 : decide (j < N) = true := decide_eq_true hlt
                    have z0 : (0 : Int) ≤ (j : Int) := by omega
                    have z1 : (j : Int) < (N : Int) := by omega
                    obtain ⟨g, capg, e⟩ := keys_nil_slice HJ.out.right.rows HN.out (by omega)
                    injection e with e4 e5 e6
                    subst e4
                    obtain ⟨x, hx⟩ : ∃ x, A[j]? = some x := ⟨A[j]'(by rw [HN.out]; exact hlt), List.getElem?_eq_getElem _⟩
                    have RG := Lib.hid (HJ.out.right.rows.rcAt hx)
                    have OK := Lib.hid (HON.out.hon x (List.mem_of_getElem? hx)).sm.ok
                    have ks := known_succ hx
                    have kl := known_le (A := A) (j + 1)
                    rw [HKN.out] at kl
                    obtain ⟨c0, hc0⟩ : ∃ z, known (A.take j) = z := ⟨_, rfl⟩
                    obtain ⟨c1, hc1⟩ : ∃ z, known (A.take (j + 1)) = z := ⟨_, rfl⟩
                    rw [hc0, hc1] at ks
                    rw [hc1] at kl
                    rw [hc0] at hkl
                    rw [hc0]
                    have HC1 := Lib.hid hc1
                    have KS := Lib.hid ks
                    obtain ⟨y0, hy0⟩ : ∃ z, kn - c0 = z := ⟨_, rfl⟩
                    rw [hy0]
                    have y0l : y0 ≤ 24 := by omega
                    have HY0 := Lib.hid hy0
                    clear hx e5 e6 hc0 hc1 ks hy0
                    have RI := Lib.hid (rc_info OK.out)
                    have RO := Lib.hid (rcArr_one x)
                    have RZ := Lib.hid (show (rcArr rc0).size = (rcArr x).size by rw [rcArr_size rc0_ok, rcArr_size OK.out])
                    have E3 := Lib.hid (World.setRow_alloc_new wr (rcArr rc0) (rcArr x) 31)
                    have F3 := Lib.hid (heap_alloc_new wr (.cells (rcArr rc0) 31))
                    have bzv : Below wr.heap.size wr (wr.alloc (.cells (rcArr x) 31)) := (Below.refl _ _).alloc (Nat.le_refl _) _
                    have HV := Lib.hid ((HJ.out.newBlk bzv (heap_alloc_new wr (.cells (rcArr x) 31)) (Nat.le_refl _)).assoc)
                    clear bzv
                    go_upto_region 50 with (first
                      | (refine wpList_load_c rfl (.tmp 177) rfl g (j * 102) rfl OK.out RG.out ?_)
                      | (refine wpList_store_row rfl 31 (.tmp 25) (.tmp 178) rfl wr.heap.size (rcArr x) rfl rfl 31 _ F3.out RI.out RZ.out RO.out ?_; rw [E3.out]; simp only [Act.put]))
                    obtain ⟨q, hqv⟩ : ∃ z, wr.heap.size = z := ⟨_, rfl⟩
                    rw [hqv] at HV ⊢
                    generalize wr.alloc (.cells (rcArr x) 31) = W2 at *
                    clear hqv E3 F3 RZ RO
                    clear RG HJ
                    obtain ⟨kk, hkk⟩ : ∃ k, x.kiosk = k := ⟨_, rfl⟩
                    have k0 : W2.cell? ⟨q, 0, none⟩ = some (.int .i64 kk) := by
                      rw [← hkk]; exact (cell_of_row _ _ 0 _ _ _ HV.out.right.right.blk).trans rfl
                    rw [hkk] at KS
                    have H6 := Lib.hid HV.out.assoc'.left
                    clear hkk HV
                    by_cases h2 : kk = 0
                    · have h2' : (kk == 0) = true := by simpa using h2
                      have ks := KS.out
                      rw [if_neg (by simpa using h2)] at ks
                      have FIN : Hid (kn - c1 = y0) := by show _ = _; rw [← HY0.out, ks]; rfl
                      clear ks KS h2
                      go_wp2_with fail
                      refine ⟨⟨j + 1, hlt, rfl, by rw [HC1.out, FIN.out], by rw [HC1.out]; exact kl, H6.out⟩, by simp [intOf]; omega⟩
                    · have h2' : (kk == 0) = false := by simpa using h2
                      have ks := KS.out
                      rw [if_pos h2] at ks
                      have FIN : Hid (((kn - c1 : Nat) : Int) = (y0 : Int) - 1) := by show _ = _; have := HY0.out; omega
                      clear ks KS h2
                      go_wp2_with fail
                      refine ⟨⟨j + 1, hlt, rfl, by rw [HC1.out, FIN.out], by rw [HC1.out]; exact kl, H6.out⟩, by simp [intOf]; omega⟩
                  · have ej : j = N := by omega
                    have d1 : decide ((j : Int) < (N : Int)) = false := decide_eq_false (by omega)
                    have d2 : decide (j < N) = false := decide_eq_false hlt
                    have ET : kn - known (A.take j) = 0 := by
                      rw [ej, ← HN.out, List.take_length, HKN.out]
                      omega
                    rw [ET]
                    have H7 := Lib.hid HJ.out
                    have CE := Lib.hid (evids_has H7.out.left (by omega) HB.out.few HB.out.keys HE.out)
                    rw [EV.out] at CE
                    clear ET ej hlt hj HJ hkl
                    go_wp2_with fail
                    refine CE.out.mono ?_
                    rintro e w8 ⟨v8, rfl, o8, b8⟩
                    obtain ⟨ae, cape, hv⟩ : ∃ ao cap, v8 = .slice ao 0 cap := by
                      obtain ⟨ao, cap, h | h⟩ := o8.lies.slice (n := 0) rfl
                      · exact ⟨ao, cap, h.1⟩
                      · exact ⟨ao, cap, h.1⟩
                    subst hv
                    have BF := Lib.hid (H7.out.below b8).base
                    clear o8 b8 CE H7
                    go_wp2_with fail
                    go_ret
                    exact ⟨rfl, BF.out⟩
end Go.Proofs.YtpblfpnldbdncaaGreatDoor
