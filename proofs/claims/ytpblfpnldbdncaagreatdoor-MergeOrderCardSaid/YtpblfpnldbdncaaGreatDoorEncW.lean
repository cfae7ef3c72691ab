/- The contract of merge's Encode: a text that is a function of the state. -/
import Derived.Test.YtpblfpnldbdncaaGreatDoorEncL
import Derived.Test.YtpblfpnldbdncaaGreatDoorEncP
import Derived.Test.YtpblfpnldbdncaaGreatDoorG02
namespace Go.Proofs.YtpblfpnldbdncaaGreatDoor
open Go.RowKit Go.Sort Go.Maps
open Sg (Rc)
open Mg (Mst Jd H Pap)
set_option linter.unusedVariables false
set_option maxRecDepth 100000
attribute [local go_sem ↓] wp_alloc_jd wp_alloc_pair wp_store_pair
theorem quiet_lookup {P : Program} {ops : Array Oper} {C : World → Prop} {Q : Act → Prop} {a : Act} {o : Oper} {rest : List Oper} (hw : Region.wanted o (yielded ops a.tmps) = true) (mt : TypeId) (x k : Operand) (ok : Bool) (ho : o.op = .lookup mt x k ok) (mv kv : Value) (hx : a.eval x = mv) (hk : a.eval k = kv) (v : Value)
    (hl : ∀ w, C w → (Instr.lookup mt mv kv ok).run P w = .ok v w) (h : wpQuiet P ops C Q rest (a.put o.dst v)) : wpQuiet P ops C Q (o :: rest) a :=
  BigFrame.wpQuiet_want hw fun K hK => ⟨v, fun w hC => by
    unfold Oper.quietAt execOp
    simp only [ho, hx, hk, Sem.run_bind, Sem.run_pure]
    rw [hl w hC]
    exact ⟨rfl, rfl⟩, hK _ h⟩
theorem load_outs {W : World} {b o : Nat} {v : Value} (c0 : W.cell? ⟨b, o, none⟩ = some v) : (loadVar 78 ⟨b, o, none⟩).run Tryz.prog W = .ok v W := by go_simp
theorem load_int' {W : World} {b o : Nat} {z : Int} (c0 : W.cell? ⟨b, o, none⟩ = some (.int .i64 z)) : (loadVar 3 ⟨b, o, none⟩).run Tryz.prog W = .ok (.int .i64 z) W := by go_simp
theorem MrgAt.outLook {w W : World} {p : Nat} {vp vo vk vc : Value} {st : Mst} {n : Nat} (h : MrgAt w p vp vo vk vc st n) (hb : Below w.heap.size w W) {k : Int} (hk : I64 k) {hh : H} (ho : st.outs k = some hh) :
    (Instr.lookup 78 vo (.int .i64 k) false).run Tryz.prog W = .ok (.agg (hashArr hh)) W := by
  have := (h.outs.below hb).look Tryz.underlying78 (hash_zero W) (x := k) hk
  rw [show (outF st k).getD (.agg (hashArr Mg.zeroH)) = .agg (hashArr hh) by unfold outF; rw [ho]; rfl] at this
  exact this
theorem MrgAt.clLook {w W : World} {p : Nat} {vp vo vk vc : Value} {st : Mst} {n : Nat} (h : MrgAt w p vp vo vk vc st n) (hb : Below w.heap.size w W) {k : Int} (hk : I64 k) {a b : Rc} (ho : st.clones k = some (a, b)) :
    (Instr.lookup 80 vc (.int .i64 k) false).run Tryz.prog W = .ok (.agg (pairArr a b)) W := by
  have := (h.clones.below hb).look Tryz.underlying80 (pair_zero W) (x := k) hk
  rw [show (cloneF st k).getD (.agg (pairArr rc0 rc0)) = .agg (pairArr a b) by unfold cloneF; rw [ho]; rfl] at this
  exact this
theorem own_others {α : Type} {R : Rk Tryz.prog α} {w w' : World} {B b : Nat} {v : Value} {xs : List α} (h : OwnsR R w B v xs) (hb : b < B) (hne : R.ty ≠ 5) (ho : Lib.OthersKept 5 (some b) w w') : OwnsR R w' B v xs := by
  refine ⟨h.1, h.2.1, ?_⟩
  rcases h.2.2 with h1 | ⟨g, cap, cur, rfl, h1, h2, h3⟩
  · exact .inl h1
  · exact .inr ⟨g, cap, cur, rfl, h1, ho g _ h2 (by intro e; injection e with e; omega) (by intro c fz e; injection e with _ e; exact hne e), h3⟩
theorem jd_hash_ld {w : World} {b : Nat} {j : Jd} {t : TypeId} {fr : Nat × Nat} (hj : JdOk j) (h : w.heap[b]? = some (.cells (jdArr j) t fr)) : (loadVar 27 ⟨b, 102, none⟩).run Tryz.prog w = .ok (.agg (hashArr j.h)) w := by
  refine load_hash_at hj.h fun i v hv => ?_
  have hr := jd_range h
  have := hr (102 + i) v (by
    unfold jdList
    rw [List.getElem?_append_right (by rw [rcList_length hj.rc]; omega), rcList_length hj.rc, show 102 + i - 102 = i by omega, List.getElem?_append_left (List.getElem?_eq_some_iff.1 hv).1]
    exact hv)
  rwa [Nat.zero_add] at this
theorem jd_serial {w : World} {b : Nat} {j : Jd} {t : TypeId} {fr : Nat × Nat} (h : w.heap[b]? = some (.cells (jdArr j) t fr)) : (loadVar 3 ⟨b, 1, none⟩).run Tryz.prog w = .ok (.int .i64 j.rc.serial) w :=
  load_int' ((cell_of_row _ _ 1 _ _ _ h).trans rfl)
theorem outLine_len (st : Mst) (h : StOk st) {k : Int} (hk : I64 k) : (outLine st k).length ≤ 201 := by
  have := outWords_len st hk (h.outLen k)
  simp only [outLine, lineOf, List.length_append, List.length_singleton]
  omega
theorem rcLine_len {k : Int} {j : Jd} (hk : I64 k) (h : JdOk j) : (rcLine k j).length ≤ 201 := by
  have := rcWords_len hk h
  simp only [rcLine, lineOf, List.length_append, List.length_singleton]
  omega
theorem clLine_len (st : Mst) {k : Int} (hk : I64 k) : (clLine st k).length ≤ 201 := by
  unfold clLine
  split
  · rename_i a b _
    have := clWords_len a b hk
    simp only [lineOf, List.length_append, List.length_singleton]
    omega
  · simp
/-- what a region looks at: a block, in worlds that came of one -/
def EncS (B : Nat) (w : World) (q : Nat) (o : Obj) (W : World) : Prop := Below B w W ∧ W.heap[q]? = some o
/-- what Encode gives -/
def EncD (st : Mst) (w : World) (e : Ending) (w' : World) : Prop := ∃ ko ks kc, KeysIs (outF st) ko ∧ KeysIs (pubF st) ks ∧ KeysIs (cloneF st) kc ∧ e = .returned (.string (bstr (encT st ko ks kc))) ∧ Below w.heap.size w w'
set_option maxHeartbeats 8000000 in
theorem encode_any {w : World} {p : Nat} {vp vo vk vc : Value} {st : Mst} {n : Nat} (h : MrgAt w p vp vo vk vc st n) (hn : n ≤ 10000) (hT : Pow10 w) (hTb : Tabs w) :
    Calls Tryz.prog 29 #[.pointer (some ⟨p, 0, none⟩)] w (EncD st w) := by
  obtain ⟨W, hW⟩ : ∃ W, w.alloc (.cells #[.pointer none, .slice none 0 0] 127) = W := ⟨_, rfl⟩
  have b1 : Below w.heap.size w W := by rw [← hW]; exact (Below.refl _ _).alloc (Nat.le_refl _) _
  have i1 : Lib.IsBuilderF 127 5 w.heap.size w.heap.size [] W := by rw [← hW]; exact Lib.IsBuilderF.of (Lib.fresh_isBuilder _ _ w)
  have z1 : W.heap.size = w.heap.size + 1 := by rw [← hW]; simp
  have y1 : (w.alloc (.cells #[.pointer none, .slice none 0 0] 127)).cell? ⟨p, 1, none⟩ = some vo := by rw [hW]; exact (h.below b1).vals.2.1
  have hmf : ∀ (fn : Fn) (first cap : Array Value) (w : World), (Instr.makeFunc fn first cap).run Tryz.prog w = .ok (.func fn first cap) w := fun _ _ _ _ => rfl
  obtain ⟨B, hB⟩ : ∃ B, w.heap.size = B := ⟨_, rfl⟩
  have MX : Hid (∀ W, Below B w W → MrgAt W p vp vo vk vc st n) := fun W hb => h.below (by rw [hB]; exact hb)
  have TX : Hid (∀ W, Below B w W → Pow10 W ∧ Tabs W) := fun W hb => ⟨hT.below (by rw [hB]; exact hb), hTb.below (by rw [hB]; exact hb)⟩
  have BJ : Hid (∀ W W', Below B w W → Below W.heap.size W W' → Below B w W') := fun W W' h1 h2 => h1.trans (h2.mono (by rw [← hB]; exact h1.size))
  have BS : Hid (∀ W, Below B w W → B ≤ W.heap.size) := fun W h1 => by rw [← hB]; exact h1.size
  have SOK := Lib.hid h.ok
  have HM := Lib.hid h
  have HW := Lib.hid hW
  have HB := Lib.hid hB
  have CO := Lib.hid (order_hash (h.below b1).outs hn)
  have B1 : Hid (Below B w W) := by rw [← hB]; exact b1
  have I1 : Hid (Lib.IsBuilderF 127 5 B B [] W) := by rw [← hB]; exact i1
  have Z1 : Hid (W.heap.size = B + 1) := by rw [← hB]; exact z1
  clear h hT hTb hW b1 i1 z1
  go_enter Tryz.func29, Tryz.ntmps29
  go_wp2_with fail
  rw [HW.out]
  refine CO.out.mono ?_
  rintro e w1 ⟨v22, ko, rfl, q1, q2, q3, q4⟩
  rw [Z1.out] at q2
  obtain ⟨KO, hKO⟩ : ∃ K, ko.length = K := ⟨_, rfl⟩
  obtain ⟨ao, cap, hv⟩ : ∃ ao cap, v22 = .slice ao KO cap := by
    obtain ⟨ao, cap, h | h⟩ := q2.lies.slice hKO
    · exact ⟨ao, cap, h.1⟩
    · exact ⟨ao, cap, h.1⟩
  subst hv
  rw [hKO] at q3
  have HKO := Lib.hid hKO
  have Q1 := Lib.hid q1
  have O1 := Lib.hid q2
  have B2 := Lib.hid (BJ.out _ _ B1.out q4)
  have I2 := Lib.hid (builder_below I1.out q4)
  clear q1 q2 q4 hKO CO y1 B1 I1 hB HM Z1
  go_wp2_with fail
  go_loopw [6, 24] (fun _ v24 wx => ∃ i : Nat, i ≤ KO ∧ v24 = .int .i64 i ∧ Lib.IsBuilderF 127 5 B B (Lib.byteCells ((ko.take i).flatMap (outLine st))) wx ∧ OwnsR intK wx (B + 1) (.slice ao KO cap) ko ∧ Below B w wx) (fun _ v24 _ => KO - (intOf v24).toNat)
  case atStart => exact ⟨0, Nat.zero_le _, rfl, I2.out, O1.out, B2.out⟩
  case round =>
    clear I2 O1 B2
    obtain ⟨i, hi, rfl, hI, hO, hb⟩ := hrel
    have IB := Lib.hid hI
    have OK := Lib.hid hO
    have BW := Lib.hid hb
    clear hI hO hb
    by_cases hlt : i < KO
    · have di : decide ((i : Int) < (KO : Int)) = true := by simpa using hlt
      obtain ⟨k, hk⟩ : ∃ k, ko[i]? = some k := ⟨ko[i]'(by rw [HKO.out]; exact hlt), List.getElem?_eq_getElem _⟩
      have HK := Lib.hid hk
      obtain ⟨g, o, cap', e1, cl, gl, rg, kok⟩ := OK.out.lies.at hk
      injection e1 with e1 e2 e3
      subst e1 e3
      clear e2
      have KOK : Hid (I64 k) := kok
      have CS : wr.cell? ⟨g, o + i, none⟩ = some (.int .i64 k) := by
        have := rg 0 _ rfl
        rw [show o + i * intK.size + 0 = o + i by show o + i * 1 + 0 = _; omega] at this
        exact this
      obtain ⟨hh, ho⟩ : ∃ hh, st.outs k = some hh := by
        have := ((Q1.out.2 k).1 (List.mem_of_getElem? hk)).2
        unfold outF at this
        rw [Option.isSome_map] at this
        exact Option.isSome_iff_exists.1 this
      have HHL := Lib.hid (SOK.out.outs k hh ho).2
      have HO := Lib.hid ho
      have CT := Lib.hid (fun W => text_any hh HHL.out W)
      obtain ⟨th, hth⟩ : ∃ s : ByteArray, ⟨(Sha.text hh).toArray⟩ = s := ⟨_, rfl⟩
      rw [hth] at CT
      have HTH := Lib.hid hth
      have CI := Lib.hid (fun W (hb : Below B w W) => itoa_any k W KOK.out (TX.out W hb).1)
      obtain ⟨tx, htx⟩ : ∃ s, bstr (Lib.itoa k) = s := ⟨_, rfl⟩
      rw [htx] at CI
      have HTX := Lib.hid htx
      obtain ⟨W3, hW3⟩ : ∃ W3, ([[111, 117, 116, 112, 117, 116], Lib.itoa k, Sha.text hh] : List (List UInt8)) = W3 := ⟨_, rfl⟩
      have HW3 := Lib.hid hW3
      have EW : outWords st k = W3 := by rw [← hW3]; unfold outWords; rw [ho]; rfl
      obtain ⟨RL, hRL⟩ : ∃ r, Lib.join W3 [32] = r := ⟨_, rfl⟩
      have HRL := Lib.hid hRL
      have RLL : Hid (RL.length ≤ 100000) := by
        show _ ≤ _
        have := outWords_len st KOK.out (SOK.out.outLen k)
        rw [EW, hRL] at this
        omega
      have ES : Hid ((ko.take (i + 1)).flatMap (outLine st) = (ko.take i).flatMap (outLine st) ++ (RL ++ [10])) := by
        show _ = _
        rw [flat_snoc _ hk]
        unfold outLine lineOf
        rw [EW, hRL]
      have BSL : Hid (((ko.take i).flatMap (outLine st)).length ≤ 100000000000000) := by
        show _ ≤ _
        have h1 := flat_len (outLine st) 201 (ko.take i) (fun x hx => outLine_len st SOK.out ((Q1.out.2 x).1 (List.mem_of_mem_take hx)).1)
        have h2 := List.length_take_le' i ko
        rw [HKO.out] at h2
        have h3 : (ko.take i).length * 201 ≤ 10000 * 201 := Nat.mul_le_mul_right _ (by omega)
        omega
      obtain ⟨bs, hbs⟩ : ∃ b, (ko.take i).flatMap (outLine st) = b := ⟨_, rfl⟩
      rw [hbs] at IB ES BSL
      have HM2 : Hid (∀ W, Below B w W → (Instr.lookup 78 vo (.int .i64 k) false).run Tryz.prog W = .ok (.agg (hashArr hh)) W) := fun W hb => (MX.out W hb).outLook (Below.refl _ _) KOK.out HO.out
      clear hk ho hth htx hW3 EW hRL hbs kok gl rg cl
      go_upto_region 8 with fail
      refine wp_region_tree (fun W => Below B w W) (.two [0, 1, 3, 7] 2 (.one [] 4 (.one [5, 6, 8] 9 (.one [] 10 (.one [] 11 (.last []))))) 4 (.one [5, 6, 8] 2 (.one [] 9 (.one [] 10 (.one [] 11 (.last [])))))) (by kernel_rfl) (by kernel_rfl) (by kernel_rfl) BW.out.drew ?_
      have FRv0 : Hid (Below wr.heap.size wr wr.drew) := (Below.refl _ _).drew
      have BBv0 := Lib.hid (BJ.out _ _ BW.out FRv0.out)
      generalize wr.drew = v0 at *
      refine tree_two ?_
      simp only [List.map_cons, List.map_nil, opN, List.getD_cons_succ, List.getD_cons_zero]
      repeat (first
        | go_big_quiet_step (fail)
        | (go_big_quiet_want; go_big_quiet_op; refine ⟨_, fun _ _ => rfl, ?_⟩; go_big_quiet_on))
      refine wpQuiet_nil ?_
      refine ⟨tree_step (by rfl) fun K hK => ?_, tree_step (by rfl) fun K hK => ?_⟩
      · go_simp
        refine (CI.out _ BBv0.out).mono ?_
        rintro e v1 ⟨rfl, bq⟩
        have FRv1 := Lib.hid (FRv0.out.trans (bq.mono FRv0.out.size))
        have BBv1 := Lib.hid (BJ.out _ _ BW.out FRv1.out)
        refine hK _ _ BBv1.out ?_
        clear hK K bq
        refine tree_one ?_
        simp only [List.map_nil, opN, List.getD_cons_succ, List.getD_cons_zero]
        refine wpQuiet_nil ?_
        refine tree_step (by rfl) fun K hK => ?_
        go_simp
        refine hK _ _ BBv1.out ?_
        clear hK K
        refine tree_one ?_
        simp only [List.map_cons, List.map_nil, opN, List.getD_cons_succ, List.getD_cons_zero]
        repeat (first
          | (refine quiet_load_row (by rfl) _ (.tmp 33) rfl _ _ rfl vo (fun w' h => load_outs (MX.out w' h).vals.2.1) ?_; simp only [Act.put, List.setIfInBounds_toArray, List.set_cons_zero, List.set_cons_succ])
          | (refine quiet_lookup (by rfl) _ (.tmp 34) (.tmp 35) false rfl vo (.int .i64 k) rfl rfl (.agg (hashArr hh)) (fun w' h => HM2.out w' h) ?_; simp only [Act.put, List.setIfInBounds_toArray, List.set_cons_zero, List.set_cons_succ])
          | go_big_quiet_step (fail)
          | (go_big_quiet_want; go_big_quiet_op; refine ⟨_, fun _ _ => rfl, ?_⟩; go_big_quiet_on))
        refine wpQuiet_nil ?_
        refine tree_step (by rfl) fun K hK => ?_
        go_simp
        refine (CT.out _).mono ?_
        rintro e v2 ⟨rfl, bq⟩
        have FRv2 := Lib.hid (FRv1.out.trans (bq.mono FRv1.out.size))
        have BBv2 := Lib.hid (BJ.out _ _ BW.out FRv2.out)
        refine hK _ _ BBv2.out ?_
        clear hK K bq
        refine tree_one ?_
        simp only [List.map_nil, opN, List.getD_cons_succ, List.getD_cons_zero]
        refine wpQuiet_nil ?_
        refine tree_step (by rfl) fun K hK => ?_
        go_simp
        have bq : Below v2.heap.size v2 (v2.alloc (.cells #[.string ⟨#[111, 117, 116, 112, 117, 116]⟩, .string tx, .string th] 9)) := (Below.refl _ _).alloc (Nat.le_refl _) _
        have SA : Hid (StrsAt (v2.alloc (.cells #[.string ⟨#[111, 117, 116, 112, 117, 116]⟩, .string tx, .string th] 9)) v2.heap.size W3) := by
          show StrsAt _ _ _
          rw [← HTX.out, ← HTH.out, ← HW3.out]
          exact strsN v2 [[111, 117, 116, 112, 117, 116], Lib.itoa k, Sha.text hh] 9
        have FRv3 := Lib.hid (FRv2.out.trans (bq.mono FRv2.out.size))
        have BBv3 := Lib.hid (BJ.out _ _ BW.out FRv3.out)
        refine hK _ _ BBv3.out ?_
        clear hK K bq
        obtain ⟨zq, hzq⟩ : ∃ z, v2.heap.size = z := ⟨_, rfl⟩
        rw [hzq] at SA ⊢
        generalize (v2.alloc (.cells #[.string ⟨#[111, 117, 116, 112, 117, 116]⟩, .string tx, .string th] 9)) = v3 at *
        clear hzq
        refine tree_one ?_
        simp only [List.map_nil, opN, List.getD_cons_succ, List.getD_cons_zero]
        refine wpQuiet_nil ?_
        refine tree_step (by rfl) fun K hK => ?_
        go_simp
        refine (line_any (n := 3) (c := 3) RL SA.out (by rw [← HW3.out]; rfl) (by omega) (by omega) HRL.out RLL.out (builder_below IB.out FRv3.out) BSL.out (BS.out _ BBv3.out)).mono ?_
        rintro e vL ⟨rfl, i4, b4, o4⟩
        have OL := Lib.hid (others_below (Lib.OthersKept.refl 5 (some B) wr) FRv3.out |>.trans o4)
        have BL := Lib.hid (BBv3.out.trans b4)
        have IL := Lib.hid i4
        refine hK _ _ BL.out ?_
        clear hK K i4 b4 o4 SA
        refine tree_last ?_
        refine wpQuiet_nil ?_
        refine NoPanic.normal ?_
        go_wp2_with fail
        refine ⟨⟨i + 1, hlt, rfl, by rw [ES.out]; exact IL.out, own_others OK.out (Nat.lt_succ_self B) (by decide) OL.out, BL.out⟩, by simp [intOf]; omega⟩
      · go_simp
        refine hK _ _ BBv0.out ?_
        clear hK K
        refine tree_one ?_
        simp only [List.map_cons, List.map_nil, opN, List.getD_cons_succ, List.getD_cons_zero]
        repeat (first
          | (refine quiet_load_row (by rfl) _ (.tmp 33) rfl _ _ rfl vo (fun w' h => load_outs (MX.out w' h).vals.2.1) ?_; simp only [Act.put, List.setIfInBounds_toArray, List.set_cons_zero, List.set_cons_succ])
          | (refine quiet_lookup (by rfl) _ (.tmp 34) (.tmp 35) false rfl vo (.int .i64 k) rfl rfl (.agg (hashArr hh)) (fun w' h => HM2.out w' h) ?_; simp only [Act.put, List.setIfInBounds_toArray, List.set_cons_zero, List.set_cons_succ])
          | go_big_quiet_step (fail)
          | (go_big_quiet_want; go_big_quiet_op; refine ⟨_, fun _ _ => rfl, ?_⟩; go_big_quiet_on))
        refine wpQuiet_nil ?_
        refine tree_step (by rfl) fun K hK => ?_
        go_simp
        refine (CI.out _ BBv0.out).mono ?_
        rintro e v1 ⟨rfl, bq⟩
        have FRv1 := Lib.hid (FRv0.out.trans (bq.mono FRv0.out.size))
        have BBv1 := Lib.hid (BJ.out _ _ BW.out FRv1.out)
        refine hK _ _ BBv1.out ?_
        clear hK K bq
        refine tree_one ?_
        simp only [List.map_nil, opN, List.getD_cons_succ, List.getD_cons_zero]
        refine wpQuiet_nil ?_
        refine tree_step (by rfl) fun K hK => ?_
        go_simp
        refine (CT.out _).mono ?_
        rintro e v2 ⟨rfl, bq⟩
        have FRv2 := Lib.hid (FRv1.out.trans (bq.mono FRv1.out.size))
        have BBv2 := Lib.hid (BJ.out _ _ BW.out FRv2.out)
        refine hK _ _ BBv2.out ?_
        clear hK K bq
        refine tree_one ?_
        simp only [List.map_nil, opN, List.getD_cons_succ, List.getD_cons_zero]
        refine wpQuiet_nil ?_
        refine tree_step (by rfl) fun K hK => ?_
        go_simp
        have bq : Below v2.heap.size v2 (v2.alloc (.cells #[.string ⟨#[111, 117, 116, 112, 117, 116]⟩, .string tx, .string th] 9)) := (Below.refl _ _).alloc (Nat.le_refl _) _
        have SA : Hid (StrsAt (v2.alloc (.cells #[.string ⟨#[111, 117, 116, 112, 117, 116]⟩, .string tx, .string th] 9)) v2.heap.size W3) := by
          show StrsAt _ _ _
          rw [← HTX.out, ← HTH.out, ← HW3.out]
          exact strsN v2 [[111, 117, 116, 112, 117, 116], Lib.itoa k, Sha.text hh] 9
        have FRv3 := Lib.hid (FRv2.out.trans (bq.mono FRv2.out.size))
        have BBv3 := Lib.hid (BJ.out _ _ BW.out FRv3.out)
        refine hK _ _ BBv3.out ?_
        clear hK K bq
        obtain ⟨zq, hzq⟩ : ∃ z, v2.heap.size = z := ⟨_, rfl⟩
        rw [hzq] at SA ⊢
        generalize (v2.alloc (.cells #[.string ⟨#[111, 117, 116, 112, 117, 116]⟩, .string tx, .string th] 9)) = v3 at *
        clear hzq
        refine tree_one ?_
        simp only [List.map_nil, opN, List.getD_cons_succ, List.getD_cons_zero]
        refine wpQuiet_nil ?_
        refine tree_step (by rfl) fun K hK => ?_
        go_simp
        refine (line_any (n := 3) (c := 3) RL SA.out (by rw [← HW3.out]; rfl) (by omega) (by omega) HRL.out RLL.out (builder_below IB.out FRv3.out) BSL.out (BS.out _ BBv3.out)).mono ?_
        rintro e vL ⟨rfl, i4, b4, o4⟩
        have OL := Lib.hid (others_below (Lib.OthersKept.refl 5 (some B) wr) FRv3.out |>.trans o4)
        have BL := Lib.hid (BBv3.out.trans b4)
        have IL := Lib.hid i4
        refine hK _ _ BL.out ?_
        clear hK K i4 b4 o4 SA
        refine tree_last ?_
        refine wpQuiet_nil ?_
        refine NoPanic.normal ?_
        go_wp2_with fail
        refine ⟨⟨i + 1, hlt, rfl, by rw [ES.out]; exact IL.out, own_others OK.out (Nat.lt_succ_self B) (by decide) OL.out, BL.out⟩, by simp [intOf]; omega⟩
    · have ei : i = KO := by omega
      have ET := Lib.hid (show ko.take i = ko by rw [ei, ← HKO.out]; exact List.take_length)
      have di : decide ((i : Int) < (KO : Int)) = false := by simp; omega
      have dj : decide (i < KO) = false := by simp; omega
      rw [ET.out] at IB
      obtain ⟨T1, hT1⟩ : ∃ t, ko.flatMap (outLine st) = t := ⟨_, rfl⟩
      have T1L : Hid (T1.length ≤ 3000000) := by
        show _ ≤ _
        have h1 := flat_len (outLine st) 201 ko (fun x hx => outLine_len st SOK.out ((Q1.out.2 x).1 hx).1)
        rw [hT1, HKO.out] at h1
        have h3 : KO * 201 ≤ 10000 * 201 := Nat.mul_le_mul_right _ (by omega)
        omega
      rw [hT1] at IB
      have HT1 := Lib.hid hT1
      have I3 := Lib.hid IB.out
      have B3 := Lib.hid BW.out
      have CO := Lib.hid (order_int (MX.out _ B3.out).pub hn)
      have y0 := (MX.out _ B3.out).vals.1
      clear ei ET hT1 IB BW OK hi hlt
      go_wp2_with fail
      refine CO.out.mono ?_
      rintro e w2 ⟨v45, ks, rfl, q1, q2, q5, q4⟩
      obtain ⟨KS, hKS⟩ : ∃ K, ks.length = K := ⟨_, rfl⟩
      obtain ⟨ao2, cap2, hv⟩ : ∃ ao cap, v45 = .slice ao KS cap := by
        obtain ⟨ao, cap, h | h⟩ := q2.lies.slice hKS
        · exact ⟨ao, cap, h.1⟩
        · exact ⟨ao, cap, h.1⟩
      subst hv
      rw [hKS] at q5
      have HKS := Lib.hid hKS
      have Q2 := Lib.hid q1
      have b3s : B + 1 ≤ wr.heap.size := by
        have := I3.out
        rcases this with h | h
        · obtain ⟨_, v, hbk, _⟩ := h
          have := (Array.getElem?_eq_some_iff.1 hbk).1
          omega
        · obtain ⟨_, v, hbk, _⟩ := h
          have := (Array.getElem?_eq_some_iff.1 hbk).1
          omega
      have O2 := Lib.hid (q2.mono b3s)
      have B4 := Lib.hid (BJ.out _ _ B3.out q4)
      have I4 := Lib.hid (builder_below I3.out q4)
      clear q1 q2 q4 hKS CO y0 B3 I3 b3s
      go_wp2_with fail
      go_loopw [8, 10, 11, 47] (fun _ _ _ v47 wx => ∃ i : Nat, i ≤ KS ∧ v47 = .int .i64 i ∧ Lib.IsBuilderF 127 5 B B (Lib.byteCells (T1 ++ (ks.take i).flatMap (rcLines st))) wx ∧ OwnsR intK wx (B + 1) (.slice ao2 KS cap2) ks ∧ ((ks.take i).flatMap (rcLines st)).length ≤ i * 2010000 ∧ Below B w wx) (fun _ _ _ v47 _ => KS - (intOf v47).toNat)
      case atStart => exact ⟨0, Nat.zero_le _, rfl, by simpa using I4.out, O2.out, Nat.le_refl _, B4.out⟩
      case round =>
        clear I4 O2 B4
        obtain ⟨i, hi, rfl, hI, hO, hlen, hb⟩ := hrel
        have IB := Lib.hid hI
        have OK := Lib.hid hO
        have BW := Lib.hid hb
        have HLEN := Lib.hid hlen
        clear hI hO hb hlen
        by_cases hlt : i < KS
        · have di : decide ((i : Int) < (KS : Int)) = true := by simpa using hlt
          obtain ⟨k, hk⟩ : ∃ k, ks[i]? = some k := ⟨ks[i]'(by rw [HKS.out]; exact hlt), List.getElem?_eq_getElem _⟩
          have HK := Lib.hid hk
          obtain ⟨g, o, cap', e1, cl, gl, rg, kok⟩ := OK.out.lies.at hk
          injection e1 with e1 e2 e3
          subst e1 e3
          clear e2
          have KOK : Hid (I64 k) := kok
          have CS : wr.cell? ⟨g, o + i, none⟩ = some (.int .i64 k) := by
            have := rg 0 _ rfl
            rw [show o + i * intK.size + 0 = o + i by show o + i * 1 + 0 = _; omega] at this
            exact this
          have CJ := Lib.hid (judge_any (MX.out _ BW.out) k KOK.out hn)
          have HKI := Lib.hid hk
          clear hk gl rg kok cl HK
          go_wp2_with fail
          refine CJ.out.mono ?_
          rintro e w6 ⟨v53, rfl, j1, j2, j3⟩
          obtain ⟨J, hJ⟩ : ∃ J, st.judged rch k = J := ⟨_, rfl⟩
          rw [hJ] at j1 j3
          obtain ⟨NJ, hNJ⟩ : ∃ NJ, J.length = NJ := ⟨_, rfl⟩
          have HNJ := Lib.hid hNJ
          rw [hNJ] at j3
          obtain ⟨ao6, cap6, hv⟩ : ∃ ao6 cap6, v53 = .slice ao6 NJ cap6 := by
            obtain ⟨ao6, cap6, h | h⟩ := j1.lies.slice hNJ
            · exact ⟨ao6, cap6, h.1⟩
            · exact ⟨ao6, cap6, h.1⟩
          subst hv
          have hbs1 : B + 1 ≤ wr.heap.size := by
            rcases IB.out with h | h
            · obtain ⟨_, v, hbk, _⟩ := h
              have := (Array.getElem?_eq_some_iff.1 hbk).1
              omega
            · obtain ⟨_, v, hbk, _⟩ := h
              have := (Array.getElem?_eq_some_iff.1 hbk).1
              omega
          have OJ6 := Lib.hid (j1.mono hbs1)
          have OK6 := Lib.hid (OK.out.below j2)
          have IB6 := Lib.hid (builder_below IB.out j2)
          have BW6 := Lib.hid (BJ.out _ _ BW.out j2)
          obtain ⟨T2, hT2⟩ : ∃ t, T1 ++ (ks.take i).flatMap (rcLines st) = t := ⟨_, rfl⟩
          have T2L : Hid (T2.length ≤ 3000000 + i * 2010000) := by
            show _ ≤ _
            rw [← hT2, List.length_append]
            have := T1L.out
            have := HLEN.out
            omega
          rw [hT2] at IB6
          have JOK : Hid (∀ x ∈ J, JdOk x) := j1.1
          have PK : Hid (T1 ++ (ks.take (i + 1)).flatMap (rcLines st) = T2 ++ J.flatMap (rcLine k)) := by
            show _ = _
            rw [flat_snoc _ HKI.out, ← List.append_assoc, hT2]
            unfold rcLines
            rw [hJ]
          have PL : Hid (((ks.take (i + 1)).flatMap (rcLines st)).length ≤ (i + 1) * 2010000) := by
            show _ ≤ _
            rw [flat_snoc _ HKI.out, List.length_append]
            have h1 := flat_len (rcLine k) 201 J (fun x hx => rcLine_len KOK.out (JOK.out x hx))
            have h2 := HLEN.out
            have h3 : rcLines st k = J.flatMap (rcLine k) := by unfold rcLines; rw [hJ]
            rw [h3]
            rw [hNJ] at h1
            have h4 : NJ * 201 ≤ 10000 * 201 := Nat.mul_le_mul_right _ j3
            omega
          have i10 : i ≤ 10000 := by omega
          clear j1 j2 hJ hNJ CS CJ IB OK BW HLEN hbs1 hT2
          go_wp2_with fail
          go_loopw [10, 11, 55] (fun _ _ v55 wx => ∃ j : Nat, j ≤ NJ ∧ v55 = .int .i64 j ∧ Lib.IsBuilderF 127 5 B B (Lib.byteCells (T2 ++ (J.take j).flatMap (rcLine k))) wx ∧ (OwnsR intK wx (B + 1) (.slice (some ⟨g, o, none⟩) KS cap2) ks ∧ OwnsR jdK wx (B + 1) (.slice ao6 NJ cap6) J) ∧ Below B w wx) (fun _ _ v55 _ => NJ - (intOf v55).toNat)
          case atStart => exact ⟨0, Nat.zero_le _, rfl, by simpa using IB6.out, ⟨OK6.out, OJ6.out⟩, BW6.out⟩
          case round =>
            clear IB6 OK6 OJ6 BW6
            obtain ⟨j, hj, rfl, hI, hO, hb⟩ := hrel
            have IB0 := Lib.hid hI
            have OK0 := Lib.hid hO.1
            have OJ0 := Lib.hid hO.2
            have BW0 := Lib.hid hb
            clear hI hO hb
            by_cases hlj : j < NJ
            · have dj : decide ((j : Int) < (NJ : Int)) = true := by simpa using hlj
              obtain ⟨x, hx⟩ : ∃ x, J[j]? = some x := ⟨J[j]'(by rw [HNJ.out]; exact hlj), List.getElem?_eq_getElem _⟩
              have XOK := Lib.hid (JOK.out x (List.mem_of_getElem? hx))
              obtain ⟨g6, o6, cp6, e1, cl, gl, rg, xok⟩ := OJ0.out.lies.at hx
              injection e1 with e1 e2 e3
              subst e1 e3
              clear e2
              have RC : Hid (wr.rangeAt g6 (o6 + j * 137) (jdList x)) := rg
              have E3 := Lib.hid (World.setRow_alloc_new wr (jdArr jd0) (jdArr x) 107)
              have F3 := Lib.hid (heap_alloc_new wr (.cells (jdArr jd0) 107))
              have F4 := Lib.hid (heap_alloc_new wr (.cells (jdArr x) 107))
              have RI := Lib.hid (jd_info XOK.out)
              have RS := Lib.hid (show (jdArr jd0).size = (jdArr x).size by rw [jdArr_size jd0_ok, jdArr_size XOK.out])
              have BZ : Hid (Below wr.heap.size wr (wr.alloc (.cells (jdArr x) 107))) := (Below.refl _ _).alloc (Nat.le_refl _) _
              have HX := Lib.hid hx
              clear hx rg gl cl xok
              go_upto_region 16 with (first
                | (refine wpList_load_j rfl (.tmp 57) rfl g6 (o6 + j * 137) rfl XOK.out RC.out ?_)
                | (refine wpList_store_row rfl 107 (.tmp 10) (.tmp 58) rfl wr.heap.size (jdArr x) rfl rfl 107 _ F3.out RI.out RS.out (jdArr_one x) ?_; rw [E3.out]; simp only [Act.put]))
              obtain ⟨q, hq⟩ : ∃ q, wr.heap.size = q := ⟨_, rfl⟩
              have QB : Hid (B + 1 ≤ q) := by
                show _ ≤ _
                rw [← hq]
                rcases IB0.out with h | h
                · obtain ⟨_, v, hbk, _⟩ := h
                  have := (Array.getElem?_eq_some_iff.1 hbk).1
                  omega
                · obtain ⟨_, v, hbk, _⟩ := h
                  have := (Array.getElem?_eq_some_iff.1 hbk).1
                  omega
              have IB := Lib.hid (builder_below IB0.out BZ.out)
              have OK := Lib.hid (OK0.out.below BZ.out)
              have OJ := Lib.hid (OJ0.out.below BZ.out)
              have BW := Lib.hid (BJ.out _ _ BW0.out BZ.out)
              rw [hq] at F4 ⊢
              have wo1 : ∃ W, W = wr.alloc (.cells (jdArr x) 107) := ⟨_, rfl⟩
              obtain ⟨wr, hW3⟩ := wo1
              rw [← hW3] at F4 IB OK OJ BW ⊢
              clear hW3 hq E3 F3 RI RS RC IB0 OK0 OJ0 BW0 BZ
              have y0 : wr.cell? ⟨q, 136, none⟩ = some (.bool x.counts) := by
                have := jd_range F4.out 136 _ (jd_get XOK.out).2.2
                rwa [Nat.zero_add] at this
              obtain ⟨bc, hbc⟩ : ∃ bc, x.counts = bc := ⟨_, rfl⟩
              rw [hbc] at y0
              have HBC := Lib.hid hbc
              obtain ⟨tc, htc⟩ : ∃ s, bstr (countW bc) = s := ⟨_, rfl⟩
              have HTC := Lib.hid htc
              clear hbc htc
              go_upto_if 60 with fail
              go_cut [11] (fun v11 wx => v11 = .string tc ∧ wr = wx)
              case first =>
                cases bc
                · go_wp2_with fail
                  go_meet
                  exact ⟨by rw [← HTC.out]; rfl, rfl⟩
                · go_wp2_with fail
                  go_meet
                  exact ⟨by rw [← HTC.out]; rfl, rfl⟩
              case rest =>
                obtain ⟨rfl, rfl⟩ := hcut
                have CT := Lib.hid (fun W => text_any x.h XOK.out.h W)
                obtain ⟨th, hth⟩ : ∃ s : ByteArray, ⟨(Sha.text x.h).toArray⟩ = s := ⟨_, rfl⟩
                rw [hth] at CT
                have HTH := Lib.hid hth
                have CI := Lib.hid (fun W (hb : Below B w W) => itoa_any k W KOK.out (TX.out W hb).1)
                obtain ⟨tx, htx⟩ : ∃ s, bstr (Lib.itoa k) = s := ⟨_, rfl⟩
                rw [htx] at CI
                have HTX := Lib.hid htx
                have CI2 := Lib.hid (fun W (hb : Below B w W) => itoa_any x.rc.serial W XOK.out.rc.serial (TX.out W hb).1)
                obtain ⟨ty, hty⟩ : ∃ s, bstr (Lib.itoa x.rc.serial) = s := ⟨_, rfl⟩
                rw [hty] at CI2
                have HTY := Lib.hid hty
                obtain ⟨W3, hW3⟩ : ∃ W3, ([[114, 101, 99, 101, 105, 112, 116], Lib.itoa k, Lib.itoa x.rc.serial, Sha.text x.h, countW bc] : List (List UInt8)) = W3 := ⟨_, rfl⟩
                have HW3 := Lib.hid hW3
                have EW : rcWords k x = W3 := by rw [← hW3]; unfold rcWords; rw [HBC.out]; rfl
                obtain ⟨RL, hRL⟩ : ∃ r, Lib.join W3 [32] = r := ⟨_, rfl⟩
                have HRL := Lib.hid hRL
                have RLL : Hid (RL.length ≤ 100000) := by
                  show _ ≤ _
                  have := rcWords_len KOK.out XOK.out
                  rw [EW, hRL] at this
                  omega
                have ES : Hid (T2 ++ (J.take (j + 1)).flatMap (rcLine k) = (T2 ++ (J.take j).flatMap (rcLine k)) ++ (RL ++ [10])) := by
                  show _ = _
                  rw [flat_snoc _ HX.out, List.append_assoc]
                  unfold rcLine lineOf
                  rw [EW, hRL]
                have BSL : Hid ((T2 ++ (J.take j).flatMap (rcLine k)).length ≤ 100000000000000) := by
                  show _ ≤ _
                  rw [List.length_append]
                  have h1 := flat_len (rcLine k) 201 (J.take j) (fun x hx => rcLine_len KOK.out (JOK.out x (List.mem_of_mem_take hx)))
                  have h2 := List.length_take_le' j J
                  rw [HNJ.out] at h2
                  have h3 : (J.take j).length * 201 ≤ 10000 * 201 := Nat.mul_le_mul_right _ (by omega)
                  have h4 := T2L.out
                  have h5 : i * 2010000 ≤ 10000 * 2010000 := Nat.mul_le_mul_right _ i10
                  omega
                obtain ⟨bs, hbs⟩ : ∃ b, T2 ++ (J.take j).flatMap (rcLine k) = b := ⟨_, rfl⟩
                rw [hbs] at IB ES BSL
                have SERX : Hid (∀ W : World, W.heap[q]? = some (.cells (jdArr x) 107 (0, 0)) → (loadVar 3 ⟨q, 1, none⟩).run Tryz.prog W = .ok (.int .i64 x.rc.serial) W) := fun W h => jd_serial h
                have HASX : Hid (∀ W : World, W.heap[q]? = some (.cells (jdArr x) 107 (0, 0)) → (loadVar 27 ⟨q, 102, none⟩).run Tryz.prog W = .ok (.agg (hashArr x.h)) W) := fun W h => jd_hash_ld XOK.out h
                obtain ⟨sr, hsr⟩ : ∃ z, x.rc.serial = z := ⟨_, rfl⟩
                obtain ⟨xh, hxh⟩ : ∃ z, x.h = z := ⟨_, rfl⟩
                rw [hsr] at CI2 SERX
                rw [hxh] at CT HASX
                clear hth htx hty hW3 EW hRL hbs hsr hxh y0
                go_upto_region 19 with fail
                refine wp_region_tree (EncS B w q (.cells (jdArr x) 107 (0, 0))) (.one [0, 1, 3, 4, 5, 6, 8, 9, 10, 12] 2 (.one [] 7 (.one [] 11 (.one [] 13 (.one [] 14 (.last [])))))) (by kernel_rfl) (by kernel_rfl) (by kernel_rfl) ⟨BW.out.drew, heap_below F4.out (Below.refl _ _).drew⟩ ?_
                have FRv0 : Hid (Below wr.heap.size wr wr.drew) := (Below.refl _ _).drew
                have BBv0 := Lib.hid (BJ.out _ _ BW.out FRv0.out)
                generalize wr.drew = v0 at *
                refine tree_one ?_
                simp only [List.map_cons, List.map_nil, opN, List.getD_cons_succ, List.getD_cons_zero]
                repeat (first
                  | (refine quiet_load_row (by rfl) _ (.tmp 66) rfl _ _ rfl (.int .i64 sr) (fun w' h => SERX.out w' h.2) ?_; simp only [Act.put, List.setIfInBounds_toArray, List.set_cons_zero, List.set_cons_succ])
                  | (refine quiet_load_row (by rfl) _ (.tmp 70) rfl _ _ rfl (.agg (hashArr xh)) (fun w' h => HASX.out w' h.2) ?_; simp only [Act.put, List.setIfInBounds_toArray, List.set_cons_zero, List.set_cons_succ])
                  | go_big_quiet_step (fail)
                  | (go_big_quiet_want; go_big_quiet_op; refine ⟨_, fun _ _ => rfl, ?_⟩; go_big_quiet_on))
                refine wpQuiet_nil ?_
                refine tree_step (by rfl) fun K hK => ?_
                go_simp
                refine (CI.out _ BBv0.out).mono ?_
                rintro e v1 ⟨rfl, bq⟩
                have FRv1 := Lib.hid (FRv0.out.trans (bq.mono FRv0.out.size))
                have BBv1 := Lib.hid (BJ.out _ _ BW.out FRv1.out)
                refine hK _ _ ⟨BBv1.out, heap_below F4.out FRv1.out⟩ ?_
                clear hK K bq
                refine tree_one ?_
                simp only [List.map_nil, opN, List.getD_cons_succ, List.getD_cons_zero]
                refine wpQuiet_nil ?_
                refine tree_step (by rfl) fun K hK => ?_
                go_simp
                refine (CI2.out _ BBv1.out).mono ?_
                rintro e v2 ⟨rfl, bq⟩
                have FRv2 := Lib.hid (FRv1.out.trans (bq.mono FRv1.out.size))
                have BBv2 := Lib.hid (BJ.out _ _ BW.out FRv2.out)
                refine hK _ _ ⟨BBv2.out, heap_below F4.out FRv2.out⟩ ?_
                clear hK K bq
                refine tree_one ?_
                simp only [List.map_nil, opN, List.getD_cons_succ, List.getD_cons_zero]
                refine wpQuiet_nil ?_
                refine tree_step (by rfl) fun K hK => ?_
                go_simp
                refine (CT.out _).mono ?_
                rintro e v3 ⟨rfl, bq⟩
                have FRv3 := Lib.hid (FRv2.out.trans (bq.mono FRv2.out.size))
                have BBv3 := Lib.hid (BJ.out _ _ BW.out FRv3.out)
                refine hK _ _ ⟨BBv3.out, heap_below F4.out FRv3.out⟩ ?_
                clear hK K bq
                refine tree_one ?_
                simp only [List.map_nil, opN, List.getD_cons_succ, List.getD_cons_zero]
                refine wpQuiet_nil ?_
                refine tree_step (by rfl) fun K hK => ?_
                go_simp
                have bq : Below v3.heap.size v3 (v3.alloc (.cells #[.string ⟨#[114, 101, 99, 101, 105, 112, 116]⟩, .string tx, .string ty, .string th, .string tc] 9)) := (Below.refl _ _).alloc (Nat.le_refl _) _
                have SA : Hid (StrsAt (v3.alloc (.cells #[.string ⟨#[114, 101, 99, 101, 105, 112, 116]⟩, .string tx, .string ty, .string th, .string tc] 9)) v3.heap.size W3) := by
                  show StrsAt _ _ _
                  rw [← HTX.out, ← HTY.out, ← HTH.out, ← HTC.out, ← HW3.out]
                  exact strsN v3 [[114, 101, 99, 101, 105, 112, 116], Lib.itoa k, Lib.itoa x.rc.serial, Sha.text x.h, countW bc] 9
                have FRv4 := Lib.hid (FRv3.out.trans (bq.mono FRv3.out.size))
                have BBv4 := Lib.hid (BJ.out _ _ BW.out FRv4.out)
                refine hK _ _ ⟨BBv4.out, heap_below F4.out FRv4.out⟩ ?_
                clear hK K bq
                obtain ⟨zq, hzq⟩ : ∃ z, v3.heap.size = z := ⟨_, rfl⟩
                rw [hzq] at SA ⊢
                generalize (v3.alloc (.cells #[.string ⟨#[114, 101, 99, 101, 105, 112, 116]⟩, .string tx, .string ty, .string th, .string tc] 9)) = v4 at *
                clear hzq
                refine tree_one ?_
                simp only [List.map_nil, opN, List.getD_cons_succ, List.getD_cons_zero]
                refine wpQuiet_nil ?_
                refine tree_step (by rfl) fun K hK => ?_
                go_simp
                refine (line_any (n := 5) (c := 5) RL SA.out (by rw [← HW3.out]; rfl) (by omega) (by omega) HRL.out RLL.out (builder_below IB.out FRv4.out) BSL.out (BS.out _ BBv4.out)).mono ?_
                rintro e vL ⟨rfl, i4, b4, o4⟩
                have OL := Lib.hid (others_below (Lib.OthersKept.refl 5 (some B) wr) FRv4.out |>.trans o4)
                have BL := Lib.hid (BBv4.out.trans b4)
                have IL := Lib.hid i4
                refine hK _ _ ⟨BL.out, OL.out q _ F4.out (by intro e; injection e with e; have := QB.out; omega) (by intro c fz e; injection e with _ e; exact absurd e (by decide))⟩ ?_
                clear hK K i4 b4 o4 SA
                refine tree_last ?_
                refine wpQuiet_nil ?_
                refine NoPanic.normal ?_
                go_wp2_with fail
                refine ⟨⟨j + 1, hlj, rfl, by rw [ES.out]; exact IL.out, ⟨own_others OK.out (Nat.lt_succ_self B) (by decide) OL.out, own_others OJ.out (Nat.lt_succ_self B) (by decide) OL.out⟩, BL.out⟩, by simp [intOf]; omega⟩
            · have ej : j = NJ := by omega
              have ET := Lib.hid (show J.take j = J by rw [ej, ← HNJ.out]; exact List.take_length)
              have dj : decide ((j : Int) < (NJ : Int)) = false := by simp; omega
              have dk : decide (j < NJ) = false := by simp; omega
              rw [ET.out] at IB0
              clear ej ET hlj hj
              go_wp2_with fail
              exact ⟨⟨i + 1, hlt, rfl, by rw [PK.out]; exact IB0.out, OK0.out, PL.out, BW0.out⟩, by simp [intOf]; omega⟩
        · have ei : i = KS := by omega
          have ET := Lib.hid (show ks.take i = ks by rw [ei, ← HKS.out]; exact List.take_length)
          have di : decide ((i : Int) < (KS : Int)) = false := by simp; omega
          have dj : decide (i < KS) = false := by simp; omega
          have i10 : i ≤ 10000 := by omega
          rw [ET.out] at IB HLEN
          obtain ⟨T3, hT3⟩ : ∃ t, T1 ++ ks.flatMap (rcLines st) = t := ⟨_, rfl⟩
          have T3L : Hid (T3.length ≤ 30000000000) := by
            show _ ≤ _
            rw [← hT3, List.length_append]
            have h1 := HLEN.out
            have h2 := T1L.out
            have h5 : i * 2010000 ≤ 10000 * 2010000 := Nat.mul_le_mul_right _ i10
            omega
          rw [hT3] at IB
          have HT3 := Lib.hid hT3
          have I3 := Lib.hid IB.out
          have B3 := Lib.hid BW.out
          have CO := Lib.hid (order_pair (MX.out _ B3.out).clones hn)
          have y3 := (MX.out _ B3.out).vals.2.2.2
          clear ei ET hT3 IB BW OK hi hlt HLEN i10
          go_wp2_with fail
          refine CO.out.mono ?_
          rintro e w2 ⟨v82, kc, rfl, q1, q2, q6, q4⟩
          obtain ⟨KC, hKC⟩ : ∃ K, kc.length = K := ⟨_, rfl⟩
          obtain ⟨ao3, cap3, hv⟩ : ∃ ao cap, v82 = .slice ao KC cap := by
            obtain ⟨ao, cap, h | h⟩ := q2.lies.slice hKC
            · exact ⟨ao, cap, h.1⟩
            · exact ⟨ao, cap, h.1⟩
          subst hv
          rw [hKC] at q6
          have HKC := Lib.hid hKC
          have Q3 := Lib.hid q1
          have b3s : B + 1 ≤ wr.heap.size := by
            have := I3.out
            rcases this with h | h
            · obtain ⟨_, v, hbk, _⟩ := h
              have := (Array.getElem?_eq_some_iff.1 hbk).1
              omega
            · obtain ⟨_, v, hbk, _⟩ := h
              have := (Array.getElem?_eq_some_iff.1 hbk).1
              omega
          have O3 := Lib.hid (q2.mono b3s)
          have B4 := Lib.hid (BJ.out _ _ B3.out q4)
          have I4 := Lib.hid (builder_below I3.out q4)
          clear q1 q2 q4 hKC CO y3 B3 I3 b3s
          go_wp2_with fail
          go_loopw [13, 14, 84] (fun _ _ v84 wx => ∃ i : Nat, i ≤ KC ∧ v84 = .int .i64 i ∧ Lib.IsBuilderF 127 5 B B (Lib.byteCells (T3 ++ (kc.take i).flatMap (clLine st))) wx ∧ OwnsR intK wx (B + 1) (.slice ao3 KC cap3) kc ∧ Below B w wx) (fun _ _ v84 _ => KC - (intOf v84).toNat)
          case atStart => exact ⟨0, Nat.zero_le _, rfl, by simpa using I4.out, O3.out, B4.out⟩
          case round =>
            clear I4 O3 B4
            obtain ⟨i, hi, rfl, hI, hO, hb⟩ := hrel
            have IB0 := Lib.hid hI
            have OK0 := Lib.hid hO
            have BW0 := Lib.hid hb
            clear hI hO hb
            by_cases hlt : i < KC
            · have di : decide ((i : Int) < (KC : Int)) = true := by simpa using hlt
              obtain ⟨k, hk⟩ : ∃ k, kc[i]? = some k := ⟨kc[i]'(by rw [HKC.out]; exact hlt), List.getElem?_eq_getElem _⟩
              have HK := Lib.hid hk
              obtain ⟨g, o, cap', e1, cl, gl, rg, kok⟩ := OK0.out.lies.at hk
              injection e1 with e1 e2 e3
              subst e1 e3
              clear e2
              have KOK : Hid (I64 k) := kok
              have CS : wr.cell? ⟨g, o + i, none⟩ = some (.int .i64 k) := by
                have := rg 0 _ rfl
                rw [show o + i * intK.size + 0 = o + i by show o + i * 1 + 0 = _; omega] at this
                exact this
              obtain ⟨ab, ho⟩ : ∃ ab, st.clones k = some ab := by
                have := ((Q3.out.2 k).1 (List.mem_of_getElem? hk)).2
                unfold cloneF at this
                rw [Option.isSome_map] at this
                exact Option.isSome_iff_exists.1 this
              obtain ⟨ra, rb⟩ := ab
              have OAB := SOK.out.clones k _ ho
              have OA : Hid (RcOk ra) := OAB.2.1
              have OB : Hid (RcOk rb) := OAB.2.2
              have lk : (Instr.lookup 80 vc (.int .i64 k) false).run Tryz.prog wr = .ok (.agg (pairArr ra rb)) wr := (MX.out _ BW0.out).clLook (Below.refl _ _) KOK.out ho
              have y3 := (MX.out _ BW0.out).vals.2.2.2
              have E3 := Lib.hid (World.setRow_alloc_new wr (pairArr rc0 rc0) (pairArr ra rb) 109)
              have F3 := Lib.hid (heap_alloc_new wr (.cells (pairArr rc0 rc0) 109))
              have F4 := Lib.hid (heap_alloc_new wr (.cells (pairArr ra rb) 109))
              have RI := Lib.hid (pair_info OA.out OB.out)
              have RS := Lib.hid (show (pairArr rc0 rc0).size = (pairArr ra rb).size by rw [pairArr_size rc0_ok rc0_ok, pairArr_size OA.out OB.out])
              have RO := Lib.hid (pairArr_one ra rb)
              have BZ : Hid (Below wr.heap.size wr (wr.alloc (.cells (pairArr ra rb) 109))) := (Below.refl _ _).alloc (Nat.le_refl _) _
              have CA := Lib.hid (fun W (hb : Below B w W) => ehash_any ra OA.out W (TX.out W hb).1 (TX.out W hb).2)
              have CB := Lib.hid (fun W (hb : Below B w W) => ehash_any rb OB.out W (TX.out W hb).1 (TX.out W hb).2)
              have CTA := Lib.hid (fun W => text_any (rch ra) (rch_length ra) W)
              have CTB := Lib.hid (fun W => text_any (rch rb) (rch_length rb) W)
              obtain ⟨ta, hta⟩ : ∃ s : ByteArray, ⟨(Sha.text (rch ra)).toArray⟩ = s := ⟨_, rfl⟩
              rw [hta] at CTA
              have HTA := Lib.hid hta
              obtain ⟨tb, htb⟩ : ∃ s : ByteArray, ⟨(Sha.text (rch rb)).toArray⟩ = s := ⟨_, rfl⟩
              rw [htb] at CTB
              have HTB := Lib.hid htb
              have CI := Lib.hid (fun W (hb : Below B w W) => itoa_any k W KOK.out (TX.out W hb).1)
              obtain ⟨tx, htx⟩ : ∃ s, bstr (Lib.itoa k) = s := ⟨_, rfl⟩
              rw [htx] at CI
              have HTX := Lib.hid htx
              obtain ⟨W3, hW3⟩ : ∃ W3, ([[99, 108, 111, 110, 101], Lib.itoa k, Sha.text (rch ra), Sha.text (rch rb)] : List (List UInt8)) = W3 := ⟨_, rfl⟩
              have HW3 := Lib.hid hW3
              have EW : clWords k ra rb = W3 := by rw [← hW3]; rfl
              obtain ⟨RL, hRL⟩ : ∃ r, Lib.join W3 [32] = r := ⟨_, rfl⟩
              have HRL := Lib.hid hRL
              have RLL : Hid (RL.length ≤ 100000) := by
                show _ ≤ _
                have := clWords_len ra rb KOK.out
                rw [EW, hRL] at this
                omega
              have ES : Hid (T3 ++ (kc.take (i + 1)).flatMap (clLine st) = (T3 ++ (kc.take i).flatMap (clLine st)) ++ (RL ++ [10])) := by
                show _ = _
                rw [flat_snoc _ hk, List.append_assoc]
                have e : clLine st k = RL ++ [10] := by
                  unfold clLine lineOf
                  rw [ho]
                  show Lib.join (clWords k ra rb) [32] ++ [10] = _
                  rw [EW, hRL]
                rw [e]
              have BSL : Hid ((T3 ++ (kc.take i).flatMap (clLine st)).length ≤ 100000000000000) := by
                show _ ≤ _
                rw [List.length_append]
                have h1 := flat_len (clLine st) 201 (kc.take i) (fun x hx => clLine_len st ((Q3.out.2 x).1 (List.mem_of_mem_take hx)).1)
                have h2 := List.length_take_le' i kc
                rw [HKC.out] at h2
                have h3 : (kc.take i).length * 201 ≤ 10000 * 201 := Nat.mul_le_mul_right _ (by omega)
                have h4 := T3L.out
                omega
              obtain ⟨bs, hbs⟩ : ∃ b, T3 ++ (kc.take i).flatMap (clLine st) = b := ⟨_, rfl⟩
              rw [hbs] at IB0 ES BSL
              clear hk ho hta htb htx hW3 EW hRL hbs kok gl rg cl OAB HK
              go_upto_region 26 with (refine wpList_store_row rfl 109 (.tmp 14) (.tmp 93) rfl wr.heap.size (pairArr ra rb) rfl rfl 109 _ F3.out RI.out RS.out RO.out ?_; rw [E3.out]; simp only [Act.put])
              obtain ⟨q, hq⟩ : ∃ q, wr.heap.size = q := ⟨_, rfl⟩
              have QB : Hid (B + 1 ≤ q) := by
                show _ ≤ _
                rw [← hq]
                rcases IB0.out with h | h
                · obtain ⟨_, v, hbk, _⟩ := h
                  have := (Array.getElem?_eq_some_iff.1 hbk).1
                  omega
                · obtain ⟨_, v, hbk, _⟩ := h
                  have := (Array.getElem?_eq_some_iff.1 hbk).1
                  omega
              have IB := Lib.hid (builder_below IB0.out BZ.out)
              have OK := Lib.hid (OK0.out.below BZ.out)
              have BW := Lib.hid (BJ.out _ _ BW0.out BZ.out)
              rw [hq] at F4 ⊢
              have wo1 : ∃ W, W = wr.alloc (.cells (pairArr ra rb) 109) := ⟨_, rfl⟩
              obtain ⟨wr, hW9⟩ := wo1
              rw [← hW9] at F4 IB OK BW ⊢
              clear hW9 hq E3 F3 RI RS RO IB0 OK0 BW0 BZ lk y3 CS
              refine wp_region_tree (EncS B w q (.cells (pairArr ra rb) 109 (0, 0))) (.one [0, 1, 3, 4, 7, 8] 2 (.one [] 5 (.one [] 6 (.one [] 9 (.one [] 10 (.one [] 11 (.one [] 12 (.last [])))))))) (by kernel_rfl) (by kernel_rfl) (by kernel_rfl) ⟨BW.out.drew, heap_below F4.out (Below.refl _ _).drew⟩ ?_
              have FRv0 : Hid (Below wr.heap.size wr wr.drew) := (Below.refl _ _).drew
              have BBv0 := Lib.hid (BJ.out _ _ BW.out FRv0.out)
              generalize wr.drew = v0 at *
              refine tree_one ?_
              simp only [List.map_cons, List.map_nil, opN, List.getD_cons_succ, List.getD_cons_zero]
              repeat (first
                | (refine quiet_load_row (by rfl) _ (.tmp 97) rfl _ _ rfl (.agg (rcArr ra)) (fun w' h => load_rc_at OA.out (pair_at OA.out h.2).1) ?_; simp only [Act.put, List.setIfInBounds_toArray, List.set_cons_zero, List.set_cons_succ])
                | (refine quiet_load_row (by rfl) _ (.tmp 101) rfl _ _ rfl (.agg (rcArr rb)) (fun w' h => load_rc_at OB.out (pair_at OA.out h.2).2) ?_; simp only [Act.put, List.setIfInBounds_toArray, List.set_cons_zero, List.set_cons_succ])
                | go_big_quiet_step (fail)
                | (go_big_quiet_want; go_big_quiet_op; refine ⟨_, fun _ _ => rfl, ?_⟩; go_big_quiet_on))
              refine wpQuiet_nil ?_
              refine tree_step (by rfl) fun K hK => ?_
              go_simp
              refine (CI.out _ BBv0.out).mono ?_
              rintro e v1 ⟨rfl, bq⟩
              have FRv1 := Lib.hid (FRv0.out.trans (bq.mono FRv0.out.size))
              have BBv1 := Lib.hid (BJ.out _ _ BW.out FRv1.out)
              refine hK _ _ ⟨BBv1.out, heap_below F4.out FRv1.out⟩ ?_
              clear hK K bq
              refine tree_one ?_
              simp only [List.map_nil, opN, List.getD_cons_succ, List.getD_cons_zero]
              refine wpQuiet_nil ?_
              refine tree_step (by rfl) fun K hK => ?_
              go_simp
              refine (CA.out _ BBv1.out).mono ?_
              rintro e v2 ⟨rfl, bq⟩
              have FRv2 := Lib.hid (FRv1.out.trans (bq.mono FRv1.out.size))
              have BBv2 := Lib.hid (BJ.out _ _ BW.out FRv2.out)
              refine hK _ _ ⟨BBv2.out, heap_below F4.out FRv2.out⟩ ?_
              clear hK K bq
              refine tree_one ?_
              simp only [List.map_nil, opN, List.getD_cons_succ, List.getD_cons_zero]
              refine wpQuiet_nil ?_
              refine tree_step (by rfl) fun K hK => ?_
              go_simp
              refine (CTA.out _).mono ?_
              rintro e v3 ⟨rfl, bq⟩
              have FRv3 := Lib.hid (FRv2.out.trans (bq.mono FRv2.out.size))
              have BBv3 := Lib.hid (BJ.out _ _ BW.out FRv3.out)
              refine hK _ _ ⟨BBv3.out, heap_below F4.out FRv3.out⟩ ?_
              clear hK K bq
              refine tree_one ?_
              simp only [List.map_nil, opN, List.getD_cons_succ, List.getD_cons_zero]
              refine wpQuiet_nil ?_
              refine tree_step (by rfl) fun K hK => ?_
              go_simp
              refine (CB.out _ BBv3.out).mono ?_
              rintro e v4 ⟨rfl, bq⟩
              have FRv4 := Lib.hid (FRv3.out.trans (bq.mono FRv3.out.size))
              have BBv4 := Lib.hid (BJ.out _ _ BW.out FRv4.out)
              refine hK _ _ ⟨BBv4.out, heap_below F4.out FRv4.out⟩ ?_
              clear hK K bq
              refine tree_one ?_
              simp only [List.map_nil, opN, List.getD_cons_succ, List.getD_cons_zero]
              refine wpQuiet_nil ?_
              refine tree_step (by rfl) fun K hK => ?_
              go_simp
              refine (CTB.out _).mono ?_
              rintro e v5 ⟨rfl, bq⟩
              have FRv5 := Lib.hid (FRv4.out.trans (bq.mono FRv4.out.size))
              have BBv5 := Lib.hid (BJ.out _ _ BW.out FRv5.out)
              refine hK _ _ ⟨BBv5.out, heap_below F4.out FRv5.out⟩ ?_
              clear hK K bq
              refine tree_one ?_
              simp only [List.map_nil, opN, List.getD_cons_succ, List.getD_cons_zero]
              refine wpQuiet_nil ?_
              refine tree_step (by rfl) fun K hK => ?_
              go_simp
              have bq : Below v5.heap.size v5 (v5.alloc (.cells #[.string ⟨#[99, 108, 111, 110, 101]⟩, .string tx, .string ta, .string tb] 9)) := (Below.refl _ _).alloc (Nat.le_refl _) _
              have SA : Hid (StrsAt (v5.alloc (.cells #[.string ⟨#[99, 108, 111, 110, 101]⟩, .string tx, .string ta, .string tb] 9)) v5.heap.size W3) := by
                show StrsAt _ _ _
                rw [← HTX.out, ← HTA.out, ← HTB.out, ← HW3.out]
                exact strsN v5 [[99, 108, 111, 110, 101], Lib.itoa k, Sha.text (rch ra), Sha.text (rch rb)] 9
              have FRv6 := Lib.hid (FRv5.out.trans (bq.mono FRv5.out.size))
              have BBv6 := Lib.hid (BJ.out _ _ BW.out FRv6.out)
              refine hK _ _ ⟨BBv6.out, heap_below F4.out FRv6.out⟩ ?_
              clear hK K bq
              obtain ⟨zq, hzq⟩ : ∃ z, v5.heap.size = z := ⟨_, rfl⟩
              rw [hzq] at SA ⊢
              generalize (v5.alloc (.cells #[.string ⟨#[99, 108, 111, 110, 101]⟩, .string tx, .string ta, .string tb] 9)) = v6 at *
              clear hzq
              refine tree_one ?_
              simp only [List.map_nil, opN, List.getD_cons_succ, List.getD_cons_zero]
              refine wpQuiet_nil ?_
              refine tree_step (by rfl) fun K hK => ?_
              go_simp
              refine (line_any (n := 4) (c := 4) RL SA.out (by rw [← HW3.out]; rfl) (by omega) (by omega) HRL.out RLL.out (builder_below IB.out FRv6.out) BSL.out (BS.out _ BBv6.out)).mono ?_
              rintro e vL ⟨rfl, i4, b4, o4⟩
              have OL := Lib.hid (others_below (Lib.OthersKept.refl 5 (some B) wr) FRv6.out |>.trans o4)
              have BL := Lib.hid (BBv6.out.trans b4)
              have IL := Lib.hid i4
              refine hK _ _ ⟨BL.out, OL.out q _ F4.out (by intro e; injection e with e; have := QB.out; omega) (by intro c fz e; injection e with _ e; exact absurd e (by decide))⟩ ?_
              clear hK K i4 b4 o4 SA
              refine tree_last ?_
              refine wpQuiet_nil ?_
              refine NoPanic.normal ?_
              go_wp2_with fail
              refine ⟨⟨i + 1, hlt, rfl, by rw [ES.out]; exact IL.out, own_others OK.out (Nat.lt_succ_self B) (by decide) OL.out, BL.out⟩, by simp [intOf]; omega⟩
            · have ei : i = KC := by omega
              have ET := Lib.hid (show kc.take i = kc by rw [ei, ← HKC.out]; exact List.take_length)
              have di : decide ((i : Int) < (KC : Int)) = false := by simp; omega
              have dj : decide (i < KC) = false := by simp; omega
              rw [ET.out] at IB0
              clear ei ET hi hlt
              go_wp2_with fail
              refine (Tryz.Builder_String_any_k B B _ wr IB0.out (BS.out _ BW0.out)).mono ?_
              rintro e w4 ⟨rfl, _, b4, _⟩
              have B4 := Lib.hid (BW0.out.trans b4)
              clear b4
              go_wp2_with fail
              go_ret
              refine ⟨ko, ks, kc, Q1.out, Q2.out, Q3.out, ?_, by rw [HB.out]; exact B4.out⟩
              unfold encT
              rw [HT1.out, ← List.append_assoc, HT3.out]
              rfl
end Go.Proofs.YtpblfpnldbdncaaGreatDoor
