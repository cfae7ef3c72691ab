/- The walk of the law MergeOrder. -/
import Derived.Test.YtpblfpnldbdncaaGreatDoorBrokenW
import Derived.Test.YtpblfpnldbdncaaGreatDoorCloneK
import Derived.Test.YtpblfpnldbdncaaGreatDoorOrdP
import Derived.Test.YtpblfpnldbdncaaGreatDoorByteArg
import Derived.Test.YtpblfpnldbdncaaGreatDoorEncW
import Derived.Deep.CutBlock
namespace Go.Proofs.YtpblfpnldbdncaaGreatDoor
open Go.RowKit Go.Sort Go.Maps
open Sg (Rc)
open Mg (Mst Jd H Pap Sale Pos zeroH)
set_option linter.unusedVariables false
set_option maxRecDepth 100000
attribute [local go_sem ↓] wp_alloc_rc
/-- the text of a state in which all have arrived -/
def OrdText (A : List Rc) (s : ByteArray) : Prop := ∃ st ko ks kc, OrdE A st ∧ KeysIs (outF st) ko ∧ KeysIs (pubF st) ks ∧ KeysIs (cloneF st) kc ∧ s = bstr (encT st ko ks kc)
theorem OrdText.eq {A : List Rc} {s t : ByteArray} (h : OrdText A s) (h' : OrdText A t) : s = t := by
  obtain ⟨st, ko, ks, kc, e, h1, h2, h3, rfl⟩ := h
  obtain ⟨st', ko', ks', kc', e', h1', h2', h3', rfl⟩ := h'
  obtain rfl := e.eq e'
  rw [keys_unique h1 h1', keys_unique h2 h2', keys_unique h3 h3']
theorem plainS_ok {x : Sale} (h : SaleOk x) : SaleOk (plainS x) := by
  unfold plainS
  split
  · exact ⟨h.kiosk, h.draw, h.seen, h.stamp, by show 0 ≤ 255; omega⟩
  · exact h
theorem two_index0 (x y : Value) (W : World) : (Instr.index 89 (.agg #[x, y]) (.int .i64 ((0 : Nat) : Int))).run Tryz.prog W = .ok x W := by
  simp [Instr.index, asIntOf, run_underlying Tryz.underlying89, Tryz.sizeOf67, part, Tryz.isAgg67]
theorem two_index1 (x y : Value) (W : World) : (Instr.index 89 (.agg #[x, y]) (.int .i64 ((1 : Nat) : Int))).run Tryz.prog W = .ok y W := by
  simp [Instr.index, asIntOf, run_underlying Tryz.underlying89, Tryz.sizeOf67, part, Tryz.isAgg67]
def QS (ao : Option Addr) (N cap : Nat) (A : List Rc) (q : Nat) (s0 s1 : ByteArray) : Thing := (RowsT rcK (.slice ao N cap) A).both (BlkT q (.cells #[.string s0, .string s1] 92 (0, 0)))
theorem Has.setText {T R : Thing} {q : Nat} {o o' : Obj} {w0 w w' : World} (h : Has (T.both (R.both (BlkT q o))) w0 w) (ht : Turned (fun k => k = q) w w') (hg : w'.heap[q]? = some o') : Has (R.both (BlkT q o')) w0 w' :=
  h.right.setBlk ht hg
set_option maxHeartbeats 8000000 in
theorem walk_MergeOrder {w : World} (hE : Env w) {v : Value} {l : List Sale} (hA : LiesR saleK w v l) (hreach : l.length * 5 ≤ 140737488351232) (a0 : Option Addr) (n0 c0 : Nat) (x0 : List UInt8) (a1 : Option Addr) (n1 c1 : Nat) (x1 : List UInt8) (hx0 : BytesIn w a0 n0 c0 x0) (hx1 : BytesIn w a1 n1 c1 x1) :
    Calls Tryz.prog 9 #[v, .agg #[.slice a0 n0 c0, .slice a1 n1 c1]] w fun e w' => e = .returned (.bool true) ∧ Below w.heap.size w w' := by
  obtain ⟨L, hL⟩ : ∃ L, l.length = L := ⟨_, rfl⟩
  obtain ⟨ao, cap, hv⟩ : ∃ ao cap, v = .slice ao L cap := by
    obtain ⟨ao, cap, h | h⟩ := hA.slice hL
    · exact ⟨ao, cap, h.1⟩
    · exact ⟨ao, cap, h.1⟩
  subst hv
  have HE := Lib.hid hE
  have HL := Lib.hid hL
  have L3 : L ≤ 28147497670246 := by omega
  have HX0 := Lib.hid hx0
  have HX1 := Lib.hid hx1
  have ord := ordA l
  obtain ⟨A, hLA⟩ : ∃ A, ordL l = A := ⟨_, rfl⟩
  rw [hLA] at ord
  have OA := Lib.hid ord
  have HLA := Lib.hid hLA
  obtain ⟨WB, hWB⟩ : ∃ W, w.alloc (.cells #[.slice a0 n0 c0, .slice a1 n1 c1] 89) = W := ⟨_, rfl⟩
  obtain ⟨BX, hBX⟩ : ∃ b, w.heap.size = b := ⟨_, rfl⟩
  have b0 : Below w.heap.size w WB := by rw [← hWB]; exact (Below.refl _ _).alloc (Nat.le_refl _) _
  have HB0 : Has (BlkT BX (.cells #[.slice a0 n0 c0, .slice a1 n1 c1] 89 (0, 0))) w WB := by
    rw [← hBX]
    exact ((Has.nil (Below.refl _ _)).newBlk b0 (by rw [← hWB]; exact heap_alloc_new w _) (Nat.le_refl _)).right
  have CSAN := Lib.hid (sanity_any WB (hE.below b0))
  have HB1 := Lib.hid HB0
  have HA0 := Lib.hid (hA.below b0)
  have HWB := Lib.hid hWB
  have HBX := Lib.hid hBX
  clear hE hA hreach hLA ord hx0 hx1 b0 HB0 hWB hBX
  go_enter Tryz.func9, Tryz.ntmps9
  go_upto_region 1 with fail
  rw [HWB.out, HBX.out]
  go_wp2_with fail
  refine CSAN.out.mono ?_
  rintro e w1 ⟨rfl, b1⟩
  have HB2 := Lib.hid (HB1.out.below b1)
  have HA := Lib.hid (HA0.out.below b1)
  clear b1 CSAN HB1 HA0 HWB
  go_wp2_with fail
  go_loopw [6, 23] (fun v6 v23 wx => ∃ i : Nat, i ≤ L ∧ v23 = .int .i64 i ∧ OwnsR saleK wx w1.heap.size v6 (plainAll (l.take i)) ∧ (plainAll (l.take i)).length = i ∧ Below w1.heap.size w1 wx) (fun _ v23 _ => L - (intOf v23).toNat)
  case atStart => exact ⟨0, Nat.zero_le _, rfl, by rw [List.take_zero]; exact OwnsR.nil _ _ _, by rw [List.take_zero]; rfl, Below.refl _ _⟩
  case round =>
    obtain ⟨i, hi, rfl, ho, hlen, hb⟩ := hrel
    have HO := Lib.hid ho
    have HN := Lib.hid hlen
    have HB := Lib.hid hb
    clear ho hlen hb
    by_cases hlt : i < L
    · have d1 : decide ((i : Int) < (L : Int)) = true := decide_eq_true (by omega)
      have d2 : decide (i < L) = true := decide_eq_true hlt
      have z0 : (0 : Int) ≤ (i : Int) := by omega
      have z1 : (i : Int) < (L : Int) := by omega
      obtain ⟨x, hx⟩ : ∃ x, l[i]? = some x := ⟨l[i]'(by rw [HL.out]; exact hlt), List.getElem?_eq_getElem _⟩
      obtain ⟨g, o, cap', e, _, glt, rg, xok⟩ := HA.out.at hx
      injection e with e e2 e3
      clear e2
      subst e e3
      have HX := Lib.hid hx
      have XOK := Lib.hid xok
      have OK : Hid (SaleOk (plainS x)) := plainS_ok xok
      have RG : Hid (wr.rangeAt g (o + i * 5) (saleList x)) := fun j v hv => (HB.out.cell (p := ⟨g, o + i * 5 + j, none⟩) glt).trans (rg j v hv)
      have SI : Hid ((Tryz.prog.info? 91).map (·.size) = some (saleList x).length) := by show _ = _; kernel_rfl
      have SI2 := Lib.hid (sale_info x)
      have SO := Lib.hid (sale_one x)
      have E3 := Lib.hid (World.setRow_alloc_new wr sale0 (saleList x).toArray 91)
      have F3 := Lib.hid (heap_alloc_new wr (.cells sale0 91))
      have F4 := Lib.hid (heap_alloc_new wr (.cells (saleList x).toArray 91))
      have BZ : Hid (Below wr.heap.size wr (wr.alloc (.cells (saleList x).toArray 91))) := (Below.refl _ _).alloc (Nat.le_refl _) _
      clear hx rg xok
      go_upto_region 6 with (first
        | (refine wpList_load_mid rfl 91 (.tmp 25) rfl g (o + i * 5) rfl (saleList x) _ RG.out Tryz.underlying91 rfl SI.out ?_)
        | (refine wpList_store_row rfl 91 (.tmp 8) (.tmp 26) rfl wr.heap.size (saleList x).toArray rfl rfl 91 _ F3.out SI2.out rfl SO.out ?_; rw [E3.out]; simp only [Act.put]))
      obtain ⟨q, hq⟩ : ∃ q, wr.heap.size = q := ⟨_, rfl⟩
      have HO2 := Lib.hid (HO.out.below BZ.out)
      have HB2' := Lib.hid (HB.out.trans (BZ.out.mono HB.out.size))
      have WQ : Hid (w1.heap.size ≤ q) := by rw [← hq]; exact HB.out.size
      have NQ : Hid (∀ b, u6.ownBlock = some b → b ≠ q) := fun b hb => by
        have := (HO.out.base_le b hb).2
        omega
      rw [hq] at F4 ⊢
      generalize wr.alloc (.cells (saleList x).toArray 91) = W2 at *
      clear hq E3 F3 SI SI2 SO RG BZ HO HB
      have k4 : W2.cell? ⟨q, 4, none⟩ = some (.int .u8 (x.wrong : Int)) := (cell_of_row _ _ 4 _ _ _ F4.out).trans rfl
      obtain ⟨wv, hwv⟩ : ∃ k, x.wrong % 24 = k := ⟨_, rfl⟩
      have e9 : (x.wrong : Int).tmod 24 = (wv : Int) := by rw [Int.tmod_eq_emod_of_nonneg (by omega)]; omega
      have x80 : (0 : Int) ≤ (x.wrong : Int) := by omega
      have x81 : (x.wrong : Int) ≤ 255 := by have := XOK.out.wrong; omega
      have w80 : (0 : Int) ≤ (wv : Int) := by omega
      have w81 : (wv : Int) ≤ 23 := by omega
      have HWV := Lib.hid hwv
      clear hwv
      go_upto_region 7 with fail
      obtain ⟨bb, hbb⟩ : ∃ b, decide (wv = 4 ∨ wv = 5 ∨ wv = 6) = b := ⟨_, rfl⟩
      have HBB := Lib.hid hbb
      clear hbb
      go_cut [39] (fun v39 wx => v39 = .bool bb ∧ wx.heap[q]? = some (.cells (saleList x).toArray 91 (0, 0)) ∧ OwnsR saleK wx w1.heap.size u6 (plainAll (l.take i)) ∧ Below w1.heap.size w1 wx)
      case first =>
        by_cases h4 : wv = 4
        · have f4 : ((wv : Int) == 4) = true := by simp; omega
          have eb : bb = true := by rw [← HBB.out]; exact decide_eq_true (.inl h4)
          clear h4
          go_wp2_with fail
          go_meet
          exact ⟨by rw [eb], F4.out, HO2.out, HB2'.out⟩
        · have f4 : ((wv : Int) == 4) = false := by simp; omega
          by_cases h5 : wv = 5
          · have f5 : ((wv : Int) == 5) = true := by simp; omega
            have eb : bb = true := by rw [← HBB.out]; exact decide_eq_true (.inr (.inl h5))
            clear h4 h5
            go_wp2_with fail
            go_meet
            exact ⟨by rw [eb], F4.out, HO2.out, HB2'.out⟩
          · have f5 : ((wv : Int) == 5) = false := by simp; omega
            by_cases h6 : wv = 6
            · have f6 : ((wv : Int) == 6) = true := by simp; omega
              have eb : bb = true := by rw [← HBB.out]; exact decide_eq_true (.inr (.inr h6))
              clear h4 h5 h6
              go_wp2_with fail
              go_meet
              exact ⟨by rw [eb], F4.out, HO2.out, HB2'.out⟩
            · have f6 : ((wv : Int) == 6) = false := by simp; omega
              have eb : bb = false := by rw [← HBB.out]; exact decide_eq_false (by omega)
              clear h4 h5 h6
              go_wp2_with fail
              go_meet
              exact ⟨by rw [eb], F4.out, HO2.out, HB2'.out⟩
      case rest =>
        obtain ⟨rfl, f4, ho, hb⟩ := hcut
        have F4 := Lib.hid f4
        have HO2 := Lib.hid ho
        have HB2' := Lib.hid hb
        clear f4 ho hb k4 e9 x80 x81 w80 w81
        have KS : Hid (plainAll (l.take (i + 1)) = plainAll (l.take i) ++ [plainS x]) := by show _ = _; rw [take_succ_get HX.out, plainAll_snoc]
        cases bb
        · have EX : plainS x = x := by
            unfold plainS
            rw [if_neg]
            rw [HWV.out]
            exact of_decide_eq_false HBB.out
          rw [EX] at OK KS
          obtain ⟨y, hy⟩ : ∃ y, x = y := ⟨_, rfl⟩
          rw [hy] at OK KS F4
          clear EX HBB HWV
          have SI2 := Lib.hid (sale_info y)
          have bz : Below wc.heap.size wc (wc.alloc (.cells (saleK.enc y).toArray saleK.ty)) := (Below.refl _ _).alloc (Nat.le_refl _) _
          have OZ := Lib.hid (HO2.out.below bz)
          have BZ := Lib.hid (HB2'.out.trans (bz.mono HB2'.out.size))
          have NZ := Lib.hid (heap_alloc_new wc (.cells (saleK.enc y).toArray saleK.ty))
          have LZ : Hid ((plainAll (l.take i)).length + 1 ≤ maxLen) := by show _ ≤ _; rw [HN.out]; unfold maxLen; omega
          have LY : Hid (((plainAll (l.take i)).length + 1) * saleK.bytes ≤ 140737488355328) := by show _ ≤ _; rw [HN.out]; show (i + 1) * 5 ≤ _; omega
          clear bz
          go_wp2_with (first
            | (refine wpList_load_row rfl 91 (.tmp 8) rfl q rfl 91 (saleList y).toArray (0, 0) _ F4.out Tryz.underlying91 rfl SI2.out ?_)
            | (refine wpList_build_r saleK rfl (.tmp 42) rfl OK.out (.agg (saleList y).toArray) rfl rfl ?_)
            | (at_builtin; refine wpList_append_rb saleK rfl (.tmp 41) (.tmp 43) rfl w1.heap.size u6 (plainAll (l.take i)) y wc.heap.size rfl rfl OZ.out OK.out NZ.out LZ.out LY.out BZ.out.size ?_; intro v5' w8 hown8 hg8))
          refine ⟨⟨i + 1, hlt, rfl, by rw [KS.out]; exact hown8, by rw [KS.out, List.length_append, HN.out]; rfl, BZ.out.grown hg8 BZ.out.size (fun b e => (OZ.out.base_le b e).1)⟩, by simp [intOf]; omega⟩
        · have EX : plainS x = { x with wrong := 0 } := by
            unfold plainS
            rw [if_pos]
            rw [HWV.out]
            exact of_decide_eq_true HBB.out
          obtain ⟨y, hy⟩ : ∃ y, ({ x with wrong := 0 } : Sale) = y := ⟨_, rfl⟩
          rw [hy] at EX
          rw [EX] at OK KS
          have f4 : wc.frozen? ⟨q, 4, none⟩ = false := frozen_of_row _ _ _ _ _ F4.out
          have k4 : wc.cell? ⟨q, 4, none⟩ = some (.int .u8 (x.wrong : Int)) := (cell_of_row _ _ 4 _ _ _ F4.out).trans rfl
          go_upto_region 9 with fail
          have X4 := heap_setCell_at (o := 4) F4.out (.int .u8 0)
          have e4 : (saleList x).toArray.setIfInBounds 4 (.int .u8 0) = (saleList y).toArray := by rw [← hy]; rfl
          rw [e4] at X4
          have X4 := Lib.hid X4
          have HO3 : Hid (OwnsR saleK (wc.setCell ⟨q, 4, none⟩ (.int .u8 0)) w1.heap.size u6 (plainAll (l.take i))) := by
            refine HO2.out.grown (row := some q) (grownBy_setCellP wc q 4 _) (fun b hb e => ?_)
            injection e with e
            exact NQ.out b hb e.symm
          have HB3 := Lib.hid (HB2'.out.setCell (by show w1.heap.size ≤ q; exact WQ.out) (.int .u8 0) (p := ⟨q, 4, none⟩))
          clear k4 f4 F4 HO2 HB2' EX HBB HWV e4 hy
          generalize wc.setCell ⟨q, 4, none⟩ (.int .u8 0) = W3 at *
          have SI2 := Lib.hid (sale_info y)
          have bz : Below W3.heap.size W3 (W3.alloc (.cells (saleK.enc y).toArray saleK.ty)) := (Below.refl _ _).alloc (Nat.le_refl _) _
          have OZ := Lib.hid (HO3.out.below bz)
          have BZ := Lib.hid (HB3.out.trans (bz.mono HB3.out.size))
          have NZ := Lib.hid (heap_alloc_new W3 (.cells (saleK.enc y).toArray saleK.ty))
          have LZ : Hid ((plainAll (l.take i)).length + 1 ≤ maxLen) := by show _ ≤ _; rw [HN.out]; unfold maxLen; omega
          have LY : Hid (((plainAll (l.take i)).length + 1) * saleK.bytes ≤ 140737488355328) := by show _ ≤ _; rw [HN.out]; show (i + 1) * 5 ≤ _; omega
          clear bz
          go_wp2_with (first
            | (refine wpList_load_row rfl 91 (.tmp 8) rfl q rfl 91 (saleList y).toArray (0, 0) _ X4.out Tryz.underlying91 rfl SI2.out ?_)
            | (refine wpList_build_r saleK rfl (.tmp 42) rfl OK.out (.agg (saleList y).toArray) rfl rfl ?_)
            | (at_builtin; refine wpList_append_rb saleK rfl (.tmp 41) (.tmp 43) rfl w1.heap.size u6 (plainAll (l.take i)) y W3.heap.size rfl rfl OZ.out OK.out NZ.out LZ.out LY.out BZ.out.size ?_; intro v5' w8 hown8 hg8))
          refine ⟨⟨i + 1, hlt, rfl, by rw [KS.out]; exact hown8, by rw [KS.out, List.length_append, HN.out]; rfl, BZ.out.grown hg8 BZ.out.size (fun b e => (OZ.out.base_le b e).1)⟩, by simp [intOf]; omega⟩
    · have ei : i = L := by omega
      have d1 : decide ((i : Int) < (L : Int)) = false := decide_eq_false (by omega)
      have d2 : decide (i < L) = false := decide_eq_false hlt
      have ET := Lib.hid (show l.take i = l by rw [ei, ← HL.out]; exact List.take_length)
      have CS := Lib.hid (sales_any HO.out.lies (by rw [HN.out]; omega))
      rw [ET.out, show gall (plainAll l) = A from HLA.out] at CS
      clear ei
      go_wp2_with fail
      refine CS.out.mono ?_
      rintro e w3 ⟨v10, rfl, o3, b3⟩
      have HT : Has ((BlkT BX (.cells #[.slice a0 n0 c0, .slice a1 n1 c1] 89 (0, 0))).both (RowsT rcK v10 A)) w w3 := HB2.out.newRows (HB.out.trans (b3.mono HB.out.size)) (o3.mono HB.out.size)
      obtain ⟨N, hN⟩ : ∃ N, A.length = N := ⟨_, rfl⟩
      obtain ⟨ao, cap, hv⟩ : ∃ ao cap, v10 = .slice ao N cap := by
        obtain ⟨ao, cap, h | h⟩ := o3.lies.slice hN
        · exact ⟨ao, cap, h.1⟩
        · exact ⟨ao, cap, h.1⟩
      subst hv
      have HN2 := Lib.hid hN
      have N24 : N ≤ 24 := by rw [← hN]; exact OA.out.len
      have bq : Below w3.heap.size w3 (w3.alloc (.cells #[.string ⟨#[]⟩, .string ⟨#[]⟩] 92)) := (Below.refl _ _).alloc (Nat.le_refl _) _
      have HQ := Lib.hid (HT.right.newBlk bq (heap_alloc_new w3 (.cells #[.string ⟨#[]⟩, .string ⟨#[]⟩] 92)) (Nat.le_refl _))
      have y0 : (w3.alloc (.cells #[.string ⟨#[]⟩, .string ⟨#[]⟩] 92)).cell? ⟨BX, 0, none⟩ = some (.slice a0 n0 c0) := (cell_of_row _ _ 0 _ _ _ (HT.below bq).left.blk).trans rfl
      have y1 : (w3.alloc (.cells #[.string ⟨#[]⟩, .string ⟨#[]⟩] 92)).cell? ⟨BX, 1, none⟩ = some (.slice a1 n1 c1) := (cell_of_row _ _ 1 _ _ _ (HT.below bq).left.blk).trans rfl
      clear bq b3 o3 HT CS HB2 HB HO HN ET hlt d1 d2 hi HA hN
      go_wp2_with fail
      obtain ⟨q, hq⟩ : ∃ z, w3.heap.size = z := ⟨_, rfl⟩
      rw [hq] at HQ ⊢
      generalize w3.alloc (.cells #[.string ⟨#[]⟩, .string ⟨#[]⟩] 92) = W4 at *
      clear hq y0 y1
      go_loopw [49] (fun v49 wx => ∃ (n : Nat) (s0 s1 : ByteArray), n ≤ 2 ∧ v49 = .int .i64 ((n : Nat) : Int) ∧ (1 ≤ n → OrdText A s0) ∧ (2 ≤ n → OrdText A s1) ∧ Has (QS ao N cap A q s0 s1) w wx) (fun v49 _ => 2 - (intOf v49).toNat)
      case atStart => exact ⟨0, _, _, by omega, rfl, fun h => by omega, fun h => by omega, HQ.out⟩
      case round =>
        obtain ⟨n, s0, s1, hn, rfl, ht0, ht1, hh⟩ := hrel
        have HH := Lib.hid hh
        have HT0 := Lib.hid ht0
        have HT1 := Lib.hid ht1
        clear hh ht0 ht1 HQ
        by_cases hnt : n < 2
        · have d1 : decide ((n : Int) < 2) = true := decide_eq_true (by omega)
          obtain ⟨ao1, no, co, xs, hx, ix⟩ : ∃ ao1 no co xs, BytesIn w ao1 no co xs ∧ ∀ W, (Instr.index 89 (.agg #[.slice a0 n0 c0, .slice a1 n1 c1]) (.int .i64 (n : Int))).run Tryz.prog W = .ok (.slice ao1 no co) W := by
            have hn2 : n = 0 ∨ n = 1 := by omega
            rcases hn2 with rfl | rfl
            · exact ⟨_, _, _, _, HX0.out, fun W => two_index0 _ _ W⟩
            · exact ⟨_, _, _, _, HX1.out, fun W => two_index1 _ _ W⟩
          have HX := Lib.hid hx
          clear hx
          have CK := Lib.hid (fun W => kiosks_any 3 (by omega) W)
          go_wp2_with fail
          refine (CK.out _).mono ?_
          rintro e w4 ⟨v53, rfl, o4, b4⟩
          have CN := Lib.hid (new_has (HH.out.below b4) o4 (by decide))
          clear o4 b4 CK HH
          go_wp2_with fail
          refine CN.out.mono ?_
          rintro e w5 ⟨p, rfl, h5⟩
          have H5 : Hid (Has ((MrgT p (newSt (kiosksL 3)) 4).both (QS ao N cap A q s0 s1)) w w5) := h5
          clear h5 CN
          go_upto_block 4 with fail
          go_cut [] (fun wx => ∃ L K st m, m ≤ 64 ∧ OrdS A L K st ∧ (∀ k, K k → 1 ≤ k ∧ k ≤ 50) ∧ Has ((MrgT p st m).both (QS ao N cap A q s0 s1)) w wx)
          case first =>
            go_wp2_with fail
            go_loopw [15] (fun v15 wx => ∃ (i : Nat) (L : List Rc) (K : Int → Prop) (st : Mst) (m : Nat), i ≤ 30 ∧ v15 = .int .i64 ((i : Nat) : Int) ∧ m ≤ 4 + 2 * i ∧ OrdS A L K st ∧ (∀ k, K k → 1 ≤ k ∧ k ≤ 50) ∧ Has ((MrgT p st m).both (QS ao N cap A q s0 s1)) w wx) (fun v15 _ => 30 - (intOf v15).toNat)
            case atStart => exact ⟨0, [], _, newSt (kiosksL 3), 4, by omega, rfl, by omega, ord_new A, fun k hk => hk.elim, H5.out⟩
            case round =>
              obtain ⟨i, L, K, st, m, hi, rfl, hm, hs, hk, hh⟩ := hrel
              have HH := Lib.hid hh
              have HS := Lib.hid hs
              have HK := Lib.hid hk
              clear hh hs hk H5
              by_cases c1 : i < no
              · have d1 : decide ((i : Int) < (no : Int)) = true := decide_eq_true (by omega)
                have d1' : decide (i < no) = true := decide_eq_true c1
                by_cases c2 : i < 30
                · have d2 : decide ((i : Int) < 30) = true := decide_eq_true (by omega)
                  by_cases c3 : 0 < N
                  · have d3 : decide ((0 : Int) < (N : Int)) = true := decide_eq_true (by omega)
                    have d3' : decide (0 < N) = true := decide_eq_true c3
                    obtain ⟨bo, oo, e1, hc⟩ := HX.out.some (by omega)
                    subst e1
                    have blt := block_lt_of_cell (hc i c1)
                    have HC := Lib.hid (hc i c1)
                    have BLT := Lib.hid blt
                    have hcell := (HH.out.base.cell (p := ⟨bo, oo + i, none⟩) blt).trans (hc i c1)
                    obtain ⟨x8, hx8⟩ : ∃ k, (xs.getD i 0).toNat = k := ⟨_, rfl⟩
                    have x8l : x8 ≤ 255 := by rw [← hx8]; have := (xs.getD i 0).toNat_lt; omega
                    rw [hx8] at hcell HC
                    obtain ⟨k, hk⟩ : ∃ k, x8 % N = k := ⟨_, rfl⟩
                    have kn : k < N := by rw [← hk]; exact Nat.mod_lt _ (by omega)
                    have e2 : (x8 : Int).tmod (N : Int) = (k : Int) := by rw [Int.tmod_eq_emod_of_nonneg (by omega)]; omega
                    have x80 : (0 : Int) ≤ (x8 : Int) := by omega
                    have x81 : (x8 : Int) ≤ 255 := by omega
                    have z0 : (0 : Int) ≤ (k : Int) := by omega
                    have z1 : (k : Int) < (N : Int) := by omega
                    have z2 : (0 : Int) ≤ (i : Int) := by omega
                    have z3 : (i : Int) < (no : Int) := by omega
                    obtain ⟨g, capg, e⟩ := keys_nil_slice HH.out.right.left.rows HN2.out c3
                    injection e with e4 e5 e6
                    subst e4
                    obtain ⟨x, hx⟩ : ∃ x, A[k]? = some x := ⟨A[k]'(by rw [HN2.out]; exact kn), List.getElem?_eq_getElem _⟩
                    have HMEM := Lib.hid (List.mem_of_getElem? hx)
                    have RG := Lib.hid (HH.out.right.left.rows.rcAt hx)
                    have OK := Lib.hid (OA.out.sm x HMEM.out).ok
                    clear hx hk hc hx8 e5 e6 blt
                    have RI := Lib.hid (rc_info OK.out)
                    have RO := Lib.hid (rcArr_one x)
                    have RZ := Lib.hid (show (rcArr rc0).size = (rcArr x).size by rw [rcArr_size rc0_ok, rcArr_size OK.out])
                    have E3 := Lib.hid (World.setRow_alloc_new wr (rcArr rc0) (rcArr x) 31)
                    have F3 := Lib.hid (heap_alloc_new wr (.cells (rcArr rc0) 31))
                    have bzv : Below wr.heap.size wr (wr.alloc (.cells (rcArr x) 31)) := (Below.refl _ _).alloc (Nat.le_refl _) _
                    have HV := Lib.hid ((HH.out.newBlk bzv (heap_alloc_new wr (.cells (rcArr x) 31)) (Nat.le_refl _)).assoc)
                    clear bzv
                    go_upto_region 21 with (first
                      | (refine wpList_load_c rfl (.tmp 79) rfl g (k * 102) rfl OK.out RG.out ?_)
                      | (refine wpList_store_row rfl 31 (.tmp 16) (.tmp 80) rfl wr.heap.size (rcArr x) rfl rfl 31 _ F3.out RI.out RZ.out RO.out ?_; rw [E3.out]; simp only [Act.put]))
                    obtain ⟨q2, hqv⟩ : ∃ z, wr.heap.size = z := ⟨_, rfl⟩
                    rw [hqv] at HV ⊢
                    generalize wr.alloc (.cells (rcArr x) 31) = W2 at *
                    clear hqv E3 F3 RZ RO
                    clear RG HH hcell
                    obtain ⟨kk, hkk⟩ : ∃ k, x.kiosk = k := ⟨_, rfl⟩
                    have k0 : W2.cell? ⟨q2, 0, none⟩ = some (.int .i64 kk) := by
                      rw [← hkk]; exact (cell_of_row _ _ 0 _ _ _ HV.out.right.right.blk).trans rfl
                    obtain ⟨L', st', e', t', hs', hsub, hin⟩ := ord_take OA.out HS.out HMEM.out
                    have CT := Lib.hid (take_one HV.out HE.out x.kiosk OK.out.kiosk OK.out (by omega) t')
                    rw [hkk] at CT hin
                    have RBB := Lib.hid HV.out.right.right.blk
                    have HS2 := Lib.hid hs'
                    have HSUB := Lib.hid hsub
                    have HIN := Lib.hid hin
                    have HKK := Lib.hid hkk
                    clear hkk t' hs' hsub hin HS
                    go_wp2_with (first
                      | (refine wpList_load_row rfl 31 (.tmp 16) rfl q2 rfl 31 (rcArr x) (0, 0) _ RBB.out Tryz.underlying31 rfl RI.out ?_)
                      | (refine wpList_build_r rcK rfl (.tmp 84) rfl OK.out (.agg (rcArr x)) rfl rfl ?_))
                    refine CT.out.mono ?_
                    rintro e w6 ⟨rfl, h6⟩
                    have H6 := Lib.hid h6.assoc'.left
                    clear h6 CT RBB k0 HV
                    obtain ⟨y, hy⟩ : ∃ y, x8 % 10 = y := ⟨_, rfl⟩
                    have e3 : (x8 : Int).tmod 10 = (y : Int) := by rw [Int.tmod_eq_emod_of_nonneg (by omega)]; omega
                    have y0 : (0 : Int) ≤ (y : Int) := by omega
                    have y1 : (y : Int) ≤ 9 := by omega
                    have hcell := (H6.out.base.cell (p := ⟨bo, oo + i, none⟩) BLT.out).trans HC.out
                    clear hy
                    have CO := Lib.hid (fun W => output_any (y : Int) ⟨by omega, by omega⟩ W)
                    have OO := Lib.hid (otOf_ok (n := (y : Int)) ⟨by omega, by omega⟩ (outHash_len (y : Int)))
                    have HS3 := Lib.hid (ord_learn HS2.out (y : Int))
                    go_wp2_with fail
                    refine (CO.out _).mono ?_
                    rintro e w8 ⟨rfl, b8⟩
                    have CL := Lib.hid (learn_has (H6.out.below b8) (otOf (y : Int) (outHash (y : Int))) OO.out (by omega))
                    obtain ⟨V, hV⟩ : ∃ V, otArr (otOf (y : Int) (outHash (y : Int))) = V := ⟨_, rfl⟩
                    rw [hV] at CL CO
                    rw [hV]
                    have HV := Lib.hid hV
                    clear b8 hV
                    go_wp2_with fail
                    refine CL.out.mono ?_
                    rintro e w9 ⟨rfl, h9⟩
                    have H9 := Lib.hid h9
                    clear h9 CL CO
                    have KB : Hid (∀ k, (K k ∨ (k = (y : Int) ∧ 1 ≤ (y : Int))) → 1 ≤ k ∧ k ≤ 50) := fun k h => by
                      rcases h with h | ⟨rfl, h⟩
                      · exact HK.out k h
                      · omega
                    go_wp2_with fail
                    refine ⟨⟨i + 1, L', _, _, m + 1 + 1, by omega, rfl, by omega, HS3.out, KB.out, H9.out⟩, by simp [intOf]; omega⟩
                  · have d3 : decide ((0 : Int) < (N : Int)) = false := decide_eq_false (by omega)
                    have d3' : decide (0 < N) = false := decide_eq_false c3
                    clear c3
                    go_wp2_with fail
                    go_meet
                    exact ⟨L, K, st, m, by omega, HS.out, HK.out, HH.out⟩
                · have d2 : decide ((i : Int) < 30) = false := decide_eq_false (by omega)
                  clear c2
                  go_wp2_with fail
                  go_meet
                  exact ⟨L, K, st, m, by omega, HS.out, HK.out, HH.out⟩
              · have d1 : decide ((i : Int) < (no : Int)) = false := decide_eq_false (by omega)
                have d1' : decide (i < no) = false := decide_eq_false c1
                clear c1
                go_wp2_with fail
                go_meet
                exact ⟨L, K, st, m, by omega, HS.out, HK.out, HH.out⟩
          case rest =>
            obtain ⟨L1, K1, st1, m1, hm1, hs1, hk1, hh⟩ := hcut
            have H6 := Lib.hid hh
            have HS1 := Lib.hid hs1
            have HK1 := Lib.hid hk1
            clear hh hs1 hk1 H5 HX
            go_wp2_with fail
            go_loopw [99] (fun v99 wx => ∃ (j : Nat) (L : List Rc) (K : Int → Prop) (st : Mst) (m : Nat), j ≤ N ∧ v99 = .int .i64 ((j : Nat) : Int) ∧ m ≤ 64 + j ∧ OrdS A L K st ∧ (∀ k, K k → 1 ≤ k ∧ k ≤ 50) ∧ (∀ i, i < j → ∀ r, A[(i + 7 * n) % N]? = some r → r.kiosk ≠ 0 → r ∈ L) ∧ Has ((MrgT p st m).both (QS ao N cap A q s0 s1)) w wx) (fun v99 _ => N - (intOf v99).toNat)
            case atStart => exact ⟨0, L1, K1, st1, m1, by omega, rfl, by omega, HS1.out, HK1.out, fun i hi => by omega, H6.out⟩
            case round =>
              obtain ⟨j, L, K, st, m, hj, rfl, hm, hs, hk, hin, hh⟩ := hrel
              have HH := Lib.hid hh
              have HS := Lib.hid hs
              have HK := Lib.hid hk
              have HAL := Lib.hid hin
              clear hh hs hk hin H6 HS1 HK1
              by_cases hjt : j < N
              · have d1 : decide ((j : Int) < (N : Int)) = true := decide_eq_true (by omega)
                have d1' : decide (j < N) = true := decide_eq_true hjt
                obtain ⟨k, hk⟩ : ∃ k, (j + 7 * n) % N = k := ⟨_, rfl⟩
                have kn : k < N := by rw [← hk]; exact Nat.mod_lt _ (by omega)
                have h7 : ((j + 7 * n : Nat) : Int) = (j : Int) + 7 * (n : Int) := by omega
                have e2 : ((j : Int) + 7 * (n : Int)).tmod (N : Int) = (k : Int) := by
                  rw [Int.tmod_eq_emod_of_nonneg (by omega), ← h7, ← hk]
                  first | exact (Int.natCast_emod _ _).symm | exact (Int.ofNat_emod _ _).symm | norm_cast
                clear h7
                have z0 : (0 : Int) ≤ (k : Int) := by omega
                have z1 : (k : Int) < (N : Int) := by omega
                obtain ⟨g, capg, e⟩ := keys_nil_slice HH.out.right.left.rows HN2.out (by omega)
                injection e with e4 e5 e6
                subst e4
                obtain ⟨x, hx⟩ : ∃ x, A[k]? = some x := ⟨A[k]'(by rw [HN2.out]; exact kn), List.getElem?_eq_getElem _⟩
                have HXX := Lib.hid hx
                have HKE := Lib.hid hk
                have HMEM := Lib.hid (List.mem_of_getElem? hx)
                have RG := Lib.hid (HH.out.right.left.rows.rcAt hx)
                have OK := Lib.hid (OA.out.sm x HMEM.out).ok
                clear hx hk e5 e6
                have RI := Lib.hid (rc_info OK.out)
                have RO := Lib.hid (rcArr_one x)
                have RZ := Lib.hid (show (rcArr rc0).size = (rcArr x).size by rw [rcArr_size rc0_ok, rcArr_size OK.out])
                have E3 := Lib.hid (World.setRow_alloc_new wr (rcArr rc0) (rcArr x) 31)
                have F3 := Lib.hid (heap_alloc_new wr (.cells (rcArr rc0) 31))
                have bzv : Below wr.heap.size wr (wr.alloc (.cells (rcArr x) 31)) := (Below.refl _ _).alloc (Nat.le_refl _) _
                have HV := Lib.hid ((HH.out.newBlk bzv (heap_alloc_new wr (.cells (rcArr x) 31)) (Nat.le_refl _)).assoc)
                clear bzv
                go_upto_region 27 with (first
                  | (refine wpList_load_c rfl (.tmp 110) rfl g (k * 102) rfl OK.out RG.out ?_)
                  | (refine wpList_store_row rfl 31 (.tmp 18) (.tmp 111) rfl wr.heap.size (rcArr x) rfl rfl 31 _ F3.out RI.out RZ.out RO.out ?_; rw [E3.out]; simp only [Act.put]))
                obtain ⟨q2, hqv⟩ : ∃ z, wr.heap.size = z := ⟨_, rfl⟩
                rw [hqv] at HV ⊢
                generalize wr.alloc (.cells (rcArr x) 31) = W2 at *
                clear hqv E3 F3 RZ RO
                clear RG HH
                obtain ⟨kk, hkk⟩ : ∃ k, x.kiosk = k := ⟨_, rfl⟩
                have k0 : W2.cell? ⟨q2, 0, none⟩ = some (.int .i64 kk) := by
                  rw [← hkk]; exact (cell_of_row _ _ 0 _ _ _ HV.out.right.right.blk).trans rfl
                obtain ⟨L', st', e', t', hs', hsub, hin⟩ := ord_take OA.out HS.out HMEM.out
                have CT := Lib.hid (take_one HV.out HE.out x.kiosk OK.out.kiosk OK.out (by omega) t')
                rw [hkk] at CT hin
                have RBB := Lib.hid HV.out.right.right.blk
                have HS2 := Lib.hid hs'
                have HSUB := Lib.hid hsub
                have HIN := Lib.hid hin
                have HKK := Lib.hid hkk
                clear hkk t' hs' hsub hin HS
                go_wp2_with (first
                  | (refine wpList_load_row rfl 31 (.tmp 18) rfl q2 rfl 31 (rcArr x) (0, 0) _ RBB.out Tryz.underlying31 rfl RI.out ?_)
                  | (refine wpList_build_r rcK rfl (.tmp 115) rfl OK.out (.agg (rcArr x)) rfl rfl ?_))
                refine CT.out.mono ?_
                rintro e w6 ⟨rfl, h6⟩
                have H6 := Lib.hid h6.assoc'.left
                clear h6 CT RBB k0 HV
                have HAL2 : Hid (∀ i, i < j + 1 → ∀ r, A[(i + 7 * n) % N]? = some r → r.kiosk ≠ 0 → r ∈ L') := fun i hi r hr h0 => by
                  by_cases e : i = j
                  · subst e
                    rw [HKE.out, HXX.out] at hr
                    injection hr with hr
                    subst hr
                    rw [HKK.out] at h0
                    exact HIN.out h0
                  · exact HSUB.out r (HAL.out i (by omega) r hr h0)
                go_wp2_with fail
                refine ⟨⟨j + 1, L', K, st', m + 1, by omega, rfl, by omega, HS2.out, HK.out, HAL2.out, H6.out⟩, by simp [intOf]; omega⟩
              · have ej : j = N := by omega
                have d1 : decide ((j : Int) < (N : Int)) = false := decide_eq_false (by omega)
                have d1' : decide (j < N) = false := decide_eq_false hjt
                have HALL : Hid (∀ r ∈ A, r.kiosk ≠ 0 → r ∈ L) := fun r hr h0 => by
                  obtain ⟨a, ha, e⟩ := List.getElem_of_mem hr
                  rw [HN2.out] at ha
                  obtain ⟨k, hk, ek⟩ := places_all (n := n) ha
                  exact HAL.out k (by omega) r (by rw [ek, List.getElem?_eq_getElem (by rw [HN2.out]; exact ha), e]) h0
                have M88 : m ≤ 88 := by omega
                clear ej HAL hjt hj
                have HH2 := Lib.hid HH.out
                clear HH
                go_wp2_with fail
                go_loopw [120] (fun v120 wx => ∃ (k : Nat) (K : Int → Prop) (st : Mst) (m : Nat), k ≤ 50 ∧ v120 = .int .i64 ((k : Nat) : Int) ∧ m ≤ 88 + k ∧ OrdS A L K st ∧ (∀ r, K r → 1 ≤ r ∧ r ≤ 50) ∧ (∀ i, i < k → K ((roundOf n i : Nat) : Int)) ∧ Has ((MrgT p st m).both (QS ao N cap A q s0 s1)) w wx) (fun v120 _ => 50 - (intOf v120).toNat)
                case atStart => exact ⟨0, K, st, m, by omega, rfl, by omega, HS.out, HK.out, fun i hi => by omega, HH2.out⟩
                case round =>
                  clear HS HK HH2
                  obtain ⟨k, K, st, m, hk, rfl, hm, hs, hkb, hka, hh⟩ := hrel
                  have HH := Lib.hid hh
                  have HS := Lib.hid hs
                  have HK := Lib.hid hkb
                  have HKA := Lib.hid hka
                  clear hh hs hkb hka
                  by_cases hkt : k < 50
                  · have d2 : decide ((k : Int) < 50) = true := decide_eq_true (by omega)
                    obtain ⟨rv, hrv⟩ : ∃ r, (k * (1 + n * 2)) % 50 = r := ⟨_, rfl⟩
                    have pn : k * (1 + n * 2) ≤ 49 * 3 := Nat.mul_le_mul (by omega) (by omega)
                    have pe : ((k * (1 + n * 2) : Nat) : Int) = (k : Int) * (1 + (n : Int) * 2) := by push_cast; rfl
                    have p0 : (0 : Int) ≤ (k : Int) * (1 + (n : Int) * 2) := by rw [← pe]; omega
                    have p1 : (k : Int) * (1 + (n : Int) * 2) ≤ 147 := by rw [← pe]; omega
                    have e3 : ((k : Int) * (1 + (n : Int) * 2)).tmod 50 = (rv : Int) := by rw [← pe, Int.tmod_eq_emod_of_nonneg (by omega)]; omega
                    have r0 : (0 : Int) ≤ (rv : Int) := by omega
                    have r1 : (rv : Int) ≤ 49 := by omega
                    have ER : Hid (((roundOf n k : Nat) : Int) = (rv : Int) + 1) := by show _ = _; unfold roundOf; omega
                    clear hrv pn pe
                    have CO := Lib.hid (fun W => output_any ((rv : Int) + 1) ⟨by omega, by omega⟩ W)
                    have OO := Lib.hid (otOf_ok (n := ((rv : Int) + 1)) ⟨by omega, by omega⟩ (outHash_len ((rv : Int) + 1)))
                    have HS3 := Lib.hid (ord_learn HS.out ((rv : Int) + 1))
                    go_wp2_with fail
                    refine (CO.out _).mono ?_
                    rintro e w8 ⟨rfl, b8⟩
                    have CL := Lib.hid (learn_has (HH.out.below b8) (otOf ((rv : Int) + 1) (outHash ((rv : Int) + 1))) OO.out (by omega))
                    obtain ⟨V, hV⟩ : ∃ V, otArr (otOf ((rv : Int) + 1) (outHash ((rv : Int) + 1))) = V := ⟨_, rfl⟩
                    rw [hV] at CL CO
                    rw [hV]
                    have HV := Lib.hid hV
                    clear b8 hV
                    go_wp2_with fail
                    refine CL.out.mono ?_
                    rintro e w9 ⟨rfl, h9⟩
                    have H9 := Lib.hid h9
                    clear h9 CL CO
                    have KB : Hid (∀ r, (K r ∨ (r = (rv : Int) + 1 ∧ 1 ≤ (rv : Int) + 1)) → 1 ≤ r ∧ r ≤ 50) := fun r h => by
                      rcases h with h | ⟨rfl, h⟩
                      · exact HK.out r h
                      · omega
                    have KA : Hid (∀ i, i < k + 1 → (K ((roundOf n i : Nat) : Int) ∨ (((roundOf n i : Nat) : Int) = (rv : Int) + 1 ∧ 1 ≤ (rv : Int) + 1))) := fun i hi => by
                      by_cases e : i = k
                      · subst e
                        exact .inr ⟨ER.out, by omega⟩
                      · exact .inl (HKA.out i (by omega))
                    go_wp2_with fail
                    refine ⟨⟨k + 1, _, _, m + 1, by omega, rfl, by omega, HS3.out, KB.out, KA.out, H9.out⟩, by simp [intOf]; omega⟩
                  · have d2 : decide ((k : Int) < 50) = false := decide_eq_false (by omega)
                    have OE : Hid (OrdE A st) := HS.out.done HALL.out fun r => ⟨HK.out r, fun hr => by
                      obtain ⟨i, hi, e⟩ := (rounds_all hnt r).2 hr
                      rw [e]
                      exact HKA.out i (by omega)⟩
                    clear HS HK HKA HALL hkt
                    obtain ⟨vp, vo, vk, vc, hm2⟩ := HH.out.left.mrg
                    have EW := HE.out.below HH.out.base
                    have CE := Lib.hid (encode_any hm2 (by omega) EW.1 EW.2)
                    clear hm2 EW
                    go_upto_region 34 with fail
                    have hn2 : n = 0 ∨ n = 1 := by omega
                    rcases hn2 with hn2 | hn2
                    · subst hn2
                      go_wp2_with fail
                      refine CE.out.mono ?_
                      rintro e w8 ⟨ko, ks, kc, k1, k2, k3, rfl, b8⟩
                      have TX : Hid (OrdText A (bstr (encT st ko ks kc))) := ⟨st, ko, ks, kc, OE.out, k1, k2, k3, rfl⟩
                      obtain ⟨sn, hsn⟩ : ∃ s, bstr (encT st ko ks kc) = s := ⟨_, rfl⟩
                      rw [hsn] at TX ⊢
                      have H8 := Lib.hid (HH.out.below b8)
                      have BQ := Lib.hid H8.out.right.right.blk
                      have y0 : w8.cell? ⟨q, 0, none⟩ = some (.string s0) := (cell_of_row _ _ 0 _ _ _ BQ.out).trans rfl
                      have y1 : w8.cell? ⟨q, 1, none⟩ = some (.string s1) := (cell_of_row _ _ 1 _ _ _ BQ.out).trans rfl
                      have f0 : w8.frozen? ⟨q, 0, none⟩ = false := frozen_of_row _ _ _ _ _ BQ.out
                      have f1 : w8.frozen? ⟨q, 1, none⟩ = false := frozen_of_row _ _ _ _ _ BQ.out
                      have X4 := heap_setCell_at (o := 0) BQ.out (.string sn)
                      have H9 : Hid (Has (QS ao N cap A q sn s1) w (w8.setCell ⟨q, 0, none⟩ (.string sn))) := H8.out.right.setBlk ((Turned.of_below (Below.refl _ _)).setCell (F := fun k => k = q) (.inl rfl) _ _) X4
                      clear k1 k2 k3 hsn b8 X4 CE HH H8 BQ OE
                      go_wp2_with fail
                      refine ⟨⟨1, _, _, by omega, rfl, fun _ => TX.out, fun h => by omega, H9.out⟩, by simp [intOf]⟩
                    · subst hn2
                      go_wp2_with fail
                      refine CE.out.mono ?_
                      rintro e w8 ⟨ko, ks, kc, k1, k2, k3, rfl, b8⟩
                      have TX : Hid (OrdText A (bstr (encT st ko ks kc))) := ⟨st, ko, ks, kc, OE.out, k1, k2, k3, rfl⟩
                      obtain ⟨sn, hsn⟩ : ∃ s, bstr (encT st ko ks kc) = s := ⟨_, rfl⟩
                      rw [hsn] at TX ⊢
                      have H8 := Lib.hid (HH.out.below b8)
                      have BQ := Lib.hid H8.out.right.right.blk
                      have y0 : w8.cell? ⟨q, 0, none⟩ = some (.string s0) := (cell_of_row _ _ 0 _ _ _ BQ.out).trans rfl
                      have y1 : w8.cell? ⟨q, 1, none⟩ = some (.string s1) := (cell_of_row _ _ 1 _ _ _ BQ.out).trans rfl
                      have f0 : w8.frozen? ⟨q, 0, none⟩ = false := frozen_of_row _ _ _ _ _ BQ.out
                      have f1 : w8.frozen? ⟨q, 1, none⟩ = false := frozen_of_row _ _ _ _ _ BQ.out
                      have X4 := heap_setCell_at (o := 1) BQ.out (.string sn)
                      have H9 : Hid (Has (QS ao N cap A q s0 sn) w (w8.setCell ⟨q, 1, none⟩ (.string sn))) := H8.out.right.setBlk ((Turned.of_below (Below.refl _ _)).setCell (F := fun k => k = q) (.inl rfl) _ _) X4
                      clear k1 k2 k3 hsn b8 X4 CE HH H8 BQ OE
                      go_wp2_with fail
                      refine ⟨⟨2, _, _, by omega, rfl, fun _ => HT0.out (by omega), fun _ => TX.out, H9.out⟩, by simp [intOf]⟩
        · have en : n = 2 := by omega
          have d1 : decide ((n : Int) < 2) = false := decide_eq_false (by omega)
          have BQ := Lib.hid HH.out.right.blk
          have y0 : wr.cell? ⟨q, 0, none⟩ = some (.string s0) := (cell_of_row _ _ 0 _ _ _ BQ.out).trans rfl
          have y1 : wr.cell? ⟨q, 1, none⟩ = some (.string s1) := (cell_of_row _ _ 1 _ _ _ BQ.out).trans rfl
          have ES : s0 = s1 := (HT0.out (by omega)).eq (HT1.out (by omega))
          subst ES
          have BF := Lib.hid HH.out.base
          clear HH HT0 HT1 BQ en hn hnt
          go_wp2_with fail
          go_ret
          exact ⟨rfl, BF.out⟩
end Go.Proofs.YtpblfpnldbdncaaGreatDoor
