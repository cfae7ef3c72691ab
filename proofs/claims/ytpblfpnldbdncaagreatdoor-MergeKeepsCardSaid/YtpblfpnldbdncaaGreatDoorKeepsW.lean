/- The walk of the law MergeKeeps. -/
import Derived.Test.YtpblfpnldbdncaaGreatDoorBrokenW
import Derived.Test.YtpblfpnldbdncaaGreatDoorWipe
import Derived.Test.YtpblfpnldbdncaaGreatDoorSameE
import Derived.Test.YtpblfpnldbdncaaGreatDoorEncW
namespace Go.Proofs.YtpblfpnldbdncaaGreatDoor
open Go.RowKit Go.Sort Go.Maps
open Sg (Rc)
open Mg (Mst Jd H Pap Sale Pos zeroH)
set_option linter.unusedVariables false
set_option maxRecDepth 100000
theorem keep_pub (m : Mst) (r : Rc) : (m.keep r).1.pub = m.pub := by
  unfold Mst.keep
  cases m.kept r.kiosk r.serial with
  | none => rfl
  | some o =>
    simp only
    by_cases h : o = r
    · rw [if_pos h]
    · rw [if_neg h]
      cases m.clones r.kiosk <;> rfl
theorem keeps_pub : ∀ (l : List Rc) (m : Mst), (m.keeps l).1.pub = m.pub
  | [], m => rfl
  | r :: l, m => by
    show ((m.keep r).1.keeps l).1.pub = m.pub
    rw [keeps_pub l, keep_pub]
theorem take_pub (m : Mst) (k : Int) (l : List Rc) : (m.take rver rch k l).1.pub = m.pub := by
  unfold Mst.take
  cases m.pub k with
  | none => rfl
  | some y =>
    simp only
    split
    · rfl
    · split
      · rfl
      · split
        · exact keeps_pub l m
        · split <;> exact keeps_pub l m
theorem gsales_le (l : List Sale) : ∀ st, (gsales st l).length ≤ 2 * l.length := by
  induction l with
  | nil => intro st; exact Nat.le_refl _
  | cons x l ih =>
    intro st
    have h1 : (gextra x (st (x.kiosk % 4))).length ≤ 1 := by
      unfold gextra
      split <;> simp
    rw [gsales, List.length_append, List.length_cons, List.length_cons]
    have := ih (Mg.put st (x.kiosk % 4) (gnext x (st (x.kiosk % 4))))
    omega
theorem gall_le (l : List Sale) : (gall l).length ≤ 48 := by
  have := gsales_le (l.take 24) pos0
  rw [List.length_take] at this
  unfold gall
  omega
theorem evids_len (st : Mst) : (evids st [1, 2, 3]).length ≤ 100000 := by
  have h : ∀ k, (evid1 st k).length ≤ 2 := fun k => by
    have h1 := evClone_len st k
    have h2 := evLater_len (st.judged rch k) k
    unfold evid1
    rw [List.length_append]
    omega
  show (evid1 st 1 ++ (evid1 st 2 ++ (evid1 st 3 ++ []))).length ≤ 100000
  have a := h 1
  have b := h 2
  have c := h 3
  simp only [List.length_append, List.length_nil]
  omega
theorem run_build_rc0 (w : World) : (Instr.build 31 #[]).run Tryz.prog w = .ok (.agg (rcArr rc0)) w := by
  obtain ⟨i0, hi, hz0, hz1, hz2⟩ := info_parts rc_infos
  simp [Instr.build, Instr.fill, zeroValue, typeInfo, hi, hz0, run_underlying Tryz.underlying31, Result.andThen, Value.cells]
theorem run_build_ev0 (w : World) : (Instr.build 58 #[]).run Tryz.prog w = .ok (.agg evZ) w := by
  obtain ⟨i0, hi, hz0, hz1, hz2⟩ := info_parts ev_infos
  simp [Instr.build, Instr.fill, zeroValue, typeInfo, hi, hz0, run_underlying Tryz.underlying58, Result.andThen, Value.cells]
theorem run_build_mb0 (w : World) : (Instr.build 85 #[]).run Tryz.prog w = .ok (.agg #[.int .i64 0, .int .i64 0, .int .i64 0]) w := by
  obtain ⟨i0, hi, hz0, hz1, hz2⟩ := info_parts memK.info
  simp [Instr.build, Instr.fill, zeroValue, typeInfo, show Tryz.prog.info? 85 = some i0 from hi, hz0, run_underlying Tryz.underlying85, Result.andThen, Value.cells]
  rfl
def zEv : Array Value := evZ
def zRc : Array Value := rcArr rc0
theorem wp_build_rc0 {d : Option Tmp} {ty : TypeId} {pos : String} {after : Array Edge} {gd : Option (Nat × Bool)} {a : Act} {w : World} {K : Act → World → Prop} {Q : Exit → Act → World → Prop} :
    Oper.wp Tryz.prog ⟨d, .build 31 #[], ty, pos, after, gd⟩ a w K Q = K (a.put d (.agg zRc)) w := by
  have h : (Instr.build 31 #[]).run Tryz.prog w = .ok (.agg zRc) w := run_build_rc0 w
  unfold Oper.wp execOp
  simp [h, Oper.upon, Result.andThen]
theorem wp_build_ev0 {d : Option Tmp} {ty : TypeId} {pos : String} {after : Array Edge} {gd : Option (Nat × Bool)} {a : Act} {w : World} {K : Act → World → Prop} {Q : Exit → Act → World → Prop} :
    Oper.wp Tryz.prog ⟨d, .build 58 #[], ty, pos, after, gd⟩ a w K Q = K (a.put d (.agg zEv)) w := by
  have h : (Instr.build 58 #[]).run Tryz.prog w = .ok (.agg zEv) w := run_build_ev0 w
  unfold Oper.wp execOp
  simp [h, Oper.upon, Result.andThen]
attribute [local go_sem ↓] wp_build_rc0 wp_build_ev0
theorem Has.dropBlk {T : Thing} {b : Nat} {o : Obj} {w0 w w' : World} (h : Has (T.both (BlkT b o)) w0 w) (ht : Turned (fun k => k = b) w w') : Has T w0 w' := by
  obtain ⟨F, ⟨F1, F2, h1, h2, h3, h4⟩, h5, h6⟩ := h
  exact ⟨F1, T.kept h1 ht (fun k hk e => h3 k hk ((h2.2 k).2 e)), fun k hk => h5 k ((h4 k).2 (.inl hk)), h6.trans (ht.below h6.size fun k e => h5 k ((h4 k).2 (.inr ((h2.2 k).2 e))))⟩
theorem Has.swapL {A B C : Thing} {w0 w : World} (h : Has ((A.both B).both C) w0 w) : Has ((B.both A).both C) w0 w := (h.swap.mapRight Thing.swap).swap
/-- the second one to the front -/
theorem Has.flip2 {A B C : Thing} {w0 w : World} (h : Has (A.both (B.both C)) w0 w) : Has (B.both (A.both C)) w0 w := h.assoc'.swapL.assoc
theorem Thing.assocR {P Q R : Thing} {w : World} {F : Nat → Prop} (h : (P.both (Q.both R)).On w F) : ((P.both Q).both R).On w F := Thing.swap (Thing.assoc (Thing.swap (Thing.assoc (Thing.swap h))))
theorem kio_cell {g N cap k : Nat} {A : List Rc} {x : Rc} {w0 w : World} (h : Has (RowsT rcK (.slice (some ⟨g, 0, none⟩) N cap) A) w0 w) (hx : A[k]? = some x) {kk : Int} (hk : x.kiosk = kk) : w.cell? ⟨g, k * 102, none⟩ = some (.int .i64 kk) := by
  have := h.rows.rcAt hx 0 (.int .i64 x.kiosk) rfl
  rw [hk] at this
  exact this
theorem rows_max {P : Program} {α : Type} {R : Rk P α} {w : World} {B n : Nat} {v : Value} {xs : List α} (h : OwnsR R w B v xs) (hn : xs.length = n) : n ≤ maxLen := by
  rcases h.2.2 with ⟨_, h0⟩ | ⟨g, cap, cur, rfl, _, _, h1, h2, _⟩
  · omega
  · omega
theorem own_some {P : Program} {α : Type} {R : Rk P α} {w : World} {B n c : Nat} {ao : Option Addr} {xs : List α} (h : OwnsR R w B (.slice ao n c) xs) (hn : xs.length = n) : 0 < n → ∃ g, ao = some ⟨g, 0, none⟩ := by
  intro h0
  obtain ⟨g, cap, e⟩ := keys_nil_slice h hn h0
  injection e with e
  exact ⟨g, e⟩
theorem Has.swapIn {A B C D : Thing} {w0 w : World} (h : Has (((A.both B).both C).both D) w0 w) : Has (((A.both C).both B).both D) w0 w :=
  (h.swap.mapRight fun {w F} (x : ((A.both B).both C).On w F) => Thing.assocR (F := F) (by
    obtain ⟨F1, F2, h1, h2⟩ := Thing.assoc x
    exact ⟨F1, F2, h1, Thing.swap h2.1, h2.2⟩)).swap
/-- a receipt in a block is a row of one -/
theorem lies_blk1 {w : World} {b : Nat} {x : Rc} (hx : RcOk x) (h : w.heap[b]? = some (.cells (rcK.enc x).toArray rcK.ty (0, 0))) : LiesR rcK w (.slice (some ⟨b, 0, none⟩) 1 1) [x] :=
  lies_new (R := rcK) (xs := [x]) (by rw [cells_one]; exact h) rfl (fun y hy => by simp only [List.mem_cons, List.not_mem_nil, or_false] at hy; subst hy; exact hx)
theorem typed_blk1 {w : World} {b : Nat} {x : Rc} (h : w.heap[b]? = some (.cells (rcK.enc x).toArray rcK.ty (0, 0))) : ∀ b', sliceBlk (.slice (some ⟨b, 0, none⟩) 1 1) = some b' → ∃ cs fr, w.heap[b']? = some (.cells cs 31 fr) := by
  intro b' hb
  have e : b = b' := by simpa [sliceBlk] using hb
  subst e
  exact ⟨_, _, h⟩
/-- the two merges, the receipts -/
abbrev KP (p q n : Nat) (st : Mst) (v : Value) (A : List Rc) : Thing := (MrgT p st n).both ((MrgT q st n).both (RowsT rcK v A))
theorem two_takes {p q n bx by' g N cap : Nat} {st st' : Mst} {er : Int} {A : List Rc} {x : Rc} {kk : Int} {w w0 : World} (hE : Env w0) (hk : I64 kk) (hx : RcOk x) (hn : n + 1 ≤ 10000) (hr : st.take rver rch kk [x] = (st', er))
    (h : Has (((KP p q n st (.slice (some ⟨g, 0, none⟩) N cap) A).both (BlkT bx (.cells (rcK.enc x).toArray rcK.ty (0, 0)))).both (BlkT by' (.cells (rcK.enc x).toArray rcK.ty (0, 0)))) w0 w) :
    Calls Tryz.prog 18 #[.pointer (some ⟨p, 0, none⟩), .agg #[.int .i64 kk, .slice (some ⟨bx, 0, none⟩) 1 1]] w fun e w1 => e = .returned (.int .i64 er) ∧ Has (RowsT rcK (.slice (some ⟨g, 0, none⟩) N cap) A) w0 w1 ∧
      Calls Tryz.prog 18 #[.pointer (some ⟨q, 0, none⟩), .agg #[.int .i64 kk, .slice (some ⟨by', 0, none⟩) 1 1]] w1 fun e w2 => e = .returned (.int .i64 er) ∧ Has ((KP p q (n + 1) st' (.slice (some ⟨g, 0, none⟩) N cap) A).both (BlkT bx (.cells (rcK.enc x).toArray rcK.ty (0, 0)))) w0 w2 := by
  have h1 := h.assoc.assoc
  have c1 := take_rows h1 hE kk hk (lies_blk1 hx h.left.right.blk) (typed_blk1 h.left.right.blk) hn
  rw [hr] at c1
  refine c1.mono ?_
  rintro e w1 ⟨rfl, h2⟩
  have h3 := (h2.mapRight Thing.assoc).flip2
  refine ⟨rfl, h3.right.right.left, ?_⟩
  have hb := h3.right.right.right.right.blk
  have c2 := take_rows h3 hE kk hk (lies_blk1 hx hb) (typed_blk1 hb) hn
  rw [hr] at c2
  refine c2.mono ?_
  rintro e w2 ⟨rfl, h4⟩
  exact ⟨rfl, ((h4.flip2.mapRight Thing.assocR).assoc'.assoc').left⟩
set_option maxHeartbeats 8000000 in
theorem walk_MergeKeeps {w : World} (hE : Env w) {v : Value} {l : List Sale} (hA : LiesR saleK w v l) (hreach : l.length * 5 ≤ 140737488351232) :
    Calls Tryz.prog 8 #[v] w fun e w' => e = .returned (.bool true) ∧ Below w.heap.size w w' := by
  have CSAN := Lib.hid (sanity_any w hE)
  have HE := Lib.hid hE
  have HA := Lib.hid hA
  have HL := Lib.hid (show l.length ≤ 9000000000000000000 by omega)
  have A48 := gall_le l
  obtain ⟨A, hAA⟩ : ∃ A, gall l = A := ⟨_, rfl⟩
  rw [hAA] at A48
  have HAA := Lib.hid hAA
  have RI : Hid ((Tryz.prog.info? 31).map (·.size) = some zRc.size) := rc_info rc0_ok
  have RO : Hid (zRc.all (·.oneCell') = true) := rcArr_one rc0
  have RS : Hid (zRc.size = 102) := rcArr_size rc0_ok
  have EI : Hid ((Tryz.prog.info? 58).map (·.size) = some zEv.size) := by show _ = _; kernel_rfl
  have EO : Hid (zEv.all (·.oneCell') = true) := by show _ = _; exact evArr_one ⟨0, 0, [], []⟩
  have ES : Hid (zEv.size = 19) := by show _ = _; rfl
  clear hE hA hreach hAA
  go_enter Tryz.func8, Tryz.ntmps8
  go_wp2_with fail
  refine CSAN.out.mono ?_
  rintro e w1 ⟨rfl, b1⟩
  have H1 := Lib.hid (Has.nil b1)
  have CS := Lib.hid (sales_any (HA.out.below b1) HL.out)
  rw [HAA.out] at CS
  clear b1 CSAN HA HL HAA
  go_wp2_with fail
  refine CS.out.mono ?_
  rintro e w2 ⟨v4, rfl, o2, b2⟩
  obtain ⟨N, hN⟩ : ∃ N, A.length = N := ⟨_, rfl⟩
  obtain ⟨ao, cap, hv⟩ : ∃ ao cap, v4 = .slice ao N cap := by
    obtain ⟨ao, cap, h | h⟩ := o2.lies.slice hN
    · exact ⟨ao, cap, h.1⟩
    · exact ⟨ao, cap, h.1⟩
  subst hv
  have H2 := Lib.hid (H1.out.newRows b2 o2).right
  have HOK : Hid (∀ x ∈ A, RcOk x) := o2.1
  have HN := Lib.hid hN
  have N48 : N ≤ 48 := by omega
  have CK := Lib.hid (fun W => kiosks_any 3 (by omega) W)
  clear b2 o2 CS H1 hN A48
  go_wp2_with fail
  refine (CK.out _).mono ?_
  rintro e w3 ⟨v5, rfl, o3, b3⟩
  have hk4 : (kiosksL 3).length = 4 := rfl
  obtain ⟨gk, ck, hv⟩ := keys_nil_slice o3 hk4 (by omega)
  subst hv
  have H3 := Lib.hid (H2.out.newRows b3 o3)
  have CN := Lib.hid (new_has H3.out (H3.out.right.rows) (by decide))
  clear b3 o3 H2 hk4
  go_wp2_with fail
  refine CN.out.mono ?_
  rintro e w4 ⟨p, rfl, h4⟩
  have H4 := Lib.hid h4
  clear h4 CN H3
  go_wp2_with fail
  refine (CK.out _).mono ?_
  rintro e w5 ⟨v24, rfl, o5, b5⟩
  have CN2 := Lib.hid (new_has (H4.out.below b5) o5 (by decide))
  clear o5 b5 CK H4
  go_wp2_with fail
  refine CN2.out.mono ?_
  rintro e w6 ⟨q, rfl, h6⟩
  have H6 : Hid (Has (((MrgT p (newSt (kiosksL 3)) 4).both ((MrgT q (newSt (kiosksL 3)) 4).both (RowsT rcK (.slice ao N cap) A))).both (WideT (.slice (some ⟨gk, 0, none⟩) 4 ck) 12)) w w6) := by
    exact ((h6.flip2.mapRight Thing.assocR).assoc').wide rfl
  clear h6 CN2
  go_wp2_with fail
  go_loopw [8, 28] (fun _ v28 wx => ∃ i : Nat, i ≤ 4 ∧ v28 = .int .i64 i ∧ Has (((MrgT p (newSt (kiosksL 3)) 4).both ((MrgT q (newSt (kiosksL 3)) 4).both (RowsT rcK (.slice ao N cap) A))).both (WideT (.slice (some ⟨gk, 0, none⟩) 4 ck) 12)) w wx) (fun _ v28 _ => 4 - (intOf v28).toNat)
  case atStart => exact ⟨0, by omega, rfl, H6.out⟩
  case round =>
    obtain ⟨i, hi, rfl, hh⟩ := hrel
    have HH := Lib.hid hh
    clear hh H6
    by_cases hlt : i < 4
    · have d1 : decide ((i : Int) < 4) = true := decide_eq_true (by omega)
      have z0 : (0 : Int) ≤ (i : Int) := by omega
      have z1 : (i : Int) < 4 := by omega
      have TH := HH.out.right.wideAt.2
      obtain ⟨t0, f0⟩ := TH (i * 3) (by omega)
      obtain ⟨t1, f1⟩ := TH (i * 3 + 1) (by omega)
      obtain ⟨t2, f2⟩ := TH (i * 3 + 2) (by omega)
      rw [Nat.zero_add] at t0 f0 t1 f1 t2 f2
      obtain ⟨y0, t0⟩ := Option.isSome_iff_exists.1 t0
      obtain ⟨y1, t1⟩ := Option.isSome_iff_exists.1 t1
      obtain ⟨y2, t2⟩ := Option.isSome_iff_exists.1 t2
      have HW := Lib.hid (HH.out.wipe (i * 3) [.int .i64 0, .int .i64 0, .int .i64 0])
      clear TH
      go_wp2_with fail
      exact ⟨⟨i + 1, hlt, rfl, HW.out⟩, by simp [intOf]; omega⟩
    · have d1 : decide ((i : Int) < 4) = false := decide_eq_false (by omega)
      have H7 := Lib.hid HH.out.left
      clear HH hlt hi
      go_wp2_with fail
      go_loopw [9, 38] (fun _ v38 wx => ∃ (k : Nat) (st : Mst), k ≤ N ∧ v38 = .int .i64 ((k : Nat) : Int) ∧ st.pub = pubOf (kiosksL 3) ∧ Has ((MrgT p st (4 + k)).both ((MrgT q st (4 + k)).both (RowsT rcK (.slice ao N cap) A))) w wx) (fun _ v38 _ => N - (intOf v38).toNat)
      case atStart => exact ⟨0, newSt (kiosksL 3), by omega, rfl, rfl, H7.out⟩
      case round =>
        obtain ⟨k, st, hk, rfl, hp, hh⟩ := hrel
        have HH := Lib.hid hh
        have HP := Lib.hid hp
        clear hh hp H7
        by_cases hkt : k < N
        · have d2 : decide ((k : Int) < (N : Int)) = true := decide_eq_true (by omega)
          have d2' : decide (k < N) = true := decide_eq_true hkt
          have z0 : (0 : Int) ≤ (k : Int) := by omega
          have z1 : (k : Int) < (N : Int) := by omega
          obtain ⟨g, capg, e⟩ := keys_nil_slice HH.out.right.right.rows HN.out (by omega)
          injection e with e4 e5 e6
          subst e4
          clear e5 e6
          obtain ⟨x, hx⟩ : ∃ x, A[k]? = some x := ⟨A[k]'(by rw [HN.out]; exact hkt), List.getElem?_eq_getElem _⟩
          have HX := Lib.hid hx
          have OK := Lib.hid (HOK.out x (List.mem_of_getElem? hx))
          have GL : Hid (g < wr.heap.size) := (HH.out.right.right.rows.base_le g rfl).2
          have LX : Hid (∀ W, Below wr.heap.size wr W → (loadVar 31 ⟨g, k * 102, none⟩).run Tryz.prog W = .ok (.agg (rcArr x)) W) := fun W hb => load_rc_at OK.out (fun j v hv => (hb.cell (p := ⟨g, k * 102 + j, none⟩) GL.out).trans (HH.out.right.right.rows.rcAt hx j v hv))
          obtain ⟨kk, hkk⟩ : ∃ z, x.kiosk = z := ⟨_, rfl⟩
          have HKK := Lib.hid hkk
          clear hx hkk
          go_upto_region 13 with fail
          go_cut [10, 11] (fun v10 v11 wx => ∃ bx by', v10 = .slice (some ⟨bx, 0, none⟩) 1 1 ∧ v11 = .slice (some ⟨by', 0, none⟩) 1 1 ∧ Has ((((MrgT p st (4 + k)).both ((MrgT q st (4 + k)).both (RowsT rcK (.slice (some ⟨g, 0, none⟩) N cap) A))).both (BlkT bx (.cells (rcK.enc x).toArray rcK.ty (0, 0)))).both (BlkT by' (.cells (rcK.enc x).toArray rcK.ty (0, 0)))) w wx)
          case first =>
            refine wp_region_tree (fun W => Below wr.heap.size wr W) (.two [0, 1, 2, 3, 5, 6, 7, 8] 4 (.one [10] 9 (.last [11])) 9 (.one [] 4 (.last [10, 11]))) (by kernel_rfl) (by kernel_rfl) (by kernel_rfl) (Below.refl _ _).drew ?_
            have FRv0 : Hid (Below wr.heap.size wr wr.drew) := (Below.refl _ _).drew
            generalize wr.drew = v0 at *
            refine tree_two ?_
            simp only [List.map_cons, List.map_nil, opN, List.getD_cons_succ, List.getD_cons_zero]
            repeat (first
              | (refine quiet_load_row (by rfl) _ (.tmp 43) rfl _ _ rfl (.agg (rcArr x)) (fun w' h => LX.out w' h) ?_; simp only [Act.put, List.setIfInBounds_toArray, List.set_cons_zero, List.set_cons_succ])
              | (refine quiet_load_row (by rfl) _ (.tmp 48) rfl _ _ rfl (.agg (rcArr x)) (fun w' h => LX.out w' h) ?_; simp only [Act.put, List.setIfInBounds_toArray, List.set_cons_zero, List.set_cons_succ])
              | go_big_quiet_step (fail)
              | (go_big_quiet_want; go_big_quiet_op; refine ⟨_, fun _ _ => rfl, ?_⟩; go_big_quiet_on))
            refine wpQuiet_nil ?_
            have H0 := Lib.hid (HH.out.below FRv0.out)
            refine ⟨tree_step (by rfl) fun K hK => ?_, tree_step (by rfl) fun K hK => ?_⟩
            · refine wp_of_list (wpList_build_r rcK rfl (.tmp 44) rfl OK.out (.agg (rcArr x)) rfl rfl ?_)
              have bz : Below v0.heap.size v0 (v0.alloc (.cells (rcK.enc x).toArray rcK.ty)) := (Below.refl _ _).alloc (Nat.le_refl _) _
              have H0n := Lib.hid (H0.out.newBlk bz (heap_alloc_new v0 (.cells (rcK.enc x).toArray rcK.ty)) (Nat.le_refl _))
              have FRv1 := Lib.hid (below_join FRv0.out bz)
              refine hK _ _ FRv1.out ?_
              clear hK K bz
              obtain ⟨b44, hb⟩ : ∃ b, v0.heap.size = b := ⟨_, rfl⟩
              rw [hb] at H0n ⊢
              generalize v0.alloc (.cells (rcK.enc x).toArray rcK.ty) = v1 at *
              simp only [Act.put, List.setIfInBounds_toArray, List.set_cons_zero, List.set_cons_succ]
              clear hb
              refine tree_one ?_
              simp only [List.map_cons, List.map_nil, opN, List.getD_cons_succ, List.getD_cons_zero]
              repeat (first
                | go_big_quiet_step (fail)
                | (go_big_quiet_want; go_big_quiet_op; refine ⟨_, fun _ _ => rfl, ?_⟩; go_big_quiet_on))
              refine wpQuiet_nil ?_
              refine tree_step (by rfl) fun K hK => ?_
              refine wp_of_list (wpList_build_r rcK rfl (.tmp 49) rfl OK.out (.agg (rcArr x)) rfl rfl ?_)
              have bz : Below v1.heap.size v1 (v1.alloc (.cells (rcK.enc x).toArray rcK.ty)) := (Below.refl _ _).alloc (Nat.le_refl _) _
              have H0nn := Lib.hid (H0n.out.newBlk bz (heap_alloc_new v1 (.cells (rcK.enc x).toArray rcK.ty)) (Nat.le_refl _))
              have FRv2 := Lib.hid (below_join FRv1.out bz)
              refine hK _ _ FRv2.out ?_
              clear hK K bz
              obtain ⟨b49, hb⟩ : ∃ b, v1.heap.size = b := ⟨_, rfl⟩
              rw [hb] at H0nn ⊢
              generalize v1.alloc (.cells (rcK.enc x).toArray rcK.ty) = v2 at *
              simp only [Act.put, List.setIfInBounds_toArray, List.set_cons_zero, List.set_cons_succ]
              clear hb
              refine tree_last ?_
              simp only [List.map_cons, List.map_nil, opN, List.getD_cons_succ, List.getD_cons_zero]
              repeat (first
                | go_big_quiet_step (fail)
                | (go_big_quiet_want; go_big_quiet_op; refine ⟨_, fun _ _ => rfl, ?_⟩; go_big_quiet_on))
              refine wpQuiet_nil ?_
              refine NoPanic.normal ?_
              go_wp2_with fail
              go_meet
              exact ⟨_, _, rfl, rfl, H0nn.out⟩
            · refine wp_of_list (wpList_build_r rcK rfl (.tmp 49) rfl OK.out (.agg (rcArr x)) rfl rfl ?_)
              have bz : Below v0.heap.size v0 (v0.alloc (.cells (rcK.enc x).toArray rcK.ty)) := (Below.refl _ _).alloc (Nat.le_refl _) _
              have H0n := Lib.hid (H0.out.newBlk bz (heap_alloc_new v0 (.cells (rcK.enc x).toArray rcK.ty)) (Nat.le_refl _))
              have FRv1 := Lib.hid (below_join FRv0.out bz)
              refine hK _ _ FRv1.out ?_
              clear hK K bz
              obtain ⟨b49, hb⟩ : ∃ b, v0.heap.size = b := ⟨_, rfl⟩
              rw [hb] at H0n ⊢
              generalize v0.alloc (.cells (rcK.enc x).toArray rcK.ty) = v1 at *
              simp only [Act.put, List.setIfInBounds_toArray, List.set_cons_zero, List.set_cons_succ]
              clear hb
              refine tree_one ?_
              simp only [List.map_nil, opN, List.getD_cons_succ, List.getD_cons_zero]
              refine wpQuiet_nil ?_
              refine tree_step (by rfl) fun K hK => ?_
              refine wp_of_list (wpList_build_r rcK rfl (.tmp 44) rfl OK.out (.agg (rcArr x)) rfl rfl ?_)
              have bz : Below v1.heap.size v1 (v1.alloc (.cells (rcK.enc x).toArray rcK.ty)) := (Below.refl _ _).alloc (Nat.le_refl _) _
              have H0nn := Lib.hid (H0n.out.newBlk bz (heap_alloc_new v1 (.cells (rcK.enc x).toArray rcK.ty)) (Nat.le_refl _))
              have FRv2 := Lib.hid (below_join FRv1.out bz)
              refine hK _ _ FRv2.out ?_
              clear hK K bz
              obtain ⟨b44, hb⟩ : ∃ b, v1.heap.size = b := ⟨_, rfl⟩
              rw [hb] at H0nn ⊢
              generalize v1.alloc (.cells (rcK.enc x).toArray rcK.ty) = v2 at *
              simp only [Act.put, List.setIfInBounds_toArray, List.set_cons_zero, List.set_cons_succ]
              clear hb
              refine tree_last ?_
              simp only [List.map_cons, List.map_nil, opN, List.getD_cons_succ, List.getD_cons_zero]
              repeat (first
                | go_big_quiet_step (fail)
                | (go_big_quiet_want; go_big_quiet_op; refine ⟨_, fun _ _ => rfl, ?_⟩; go_big_quiet_on))
              refine wpQuiet_nil ?_
              refine NoPanic.normal ?_
              go_wp2_with fail
              go_meet
              exact ⟨_, _, rfl, rfl, H0nn.out.swap3⟩
          case rest =>
            obtain ⟨bx, by', rfl, rfl, hh⟩ := hcut
            have HB := Lib.hid hh
            obtain ⟨R, hR⟩ : ∃ R, st.take rver rch kk [x] = R := ⟨_, rfl⟩
            obtain ⟨st', er⟩ := R
            have HR := Lib.hid hR
            have KI : Hid (I64 kk) := by show I64 kk; rw [← HKK.out]; exact OK.out.kiosk
            have HP2 : Hid (st'.pub = pubOf (kiosksL 3)) := by
              have := take_pub st kk [x]
              rw [hR] at this
              exact this.trans HP.out
            clear hh HH LX GL hR HP
            go_upto_region 14 with fail
            go_cut [69] (fun v69 wx => v69 = .bool false ∧ Has (((MrgT p st' (4 + k + 1)).both ((MrgT q st' (4 + k + 1)).both (RowsT rcK (.slice (some ⟨g, 0, none⟩) N cap) A))).both (BlkT bx (.cells (rcK.enc x).toArray rcK.ty (0, 0)))) w wx)
            case first =>
              have KC0 : Hid (∀ W, Has (RowsT rcK (.slice (some ⟨g, 0, none⟩) N cap) A) w W → W.cell? ⟨g, k * 102, none⟩ = some (.int .i64 kk)) := fun W h => kio_cell h HX.out HKK.out
              have CT2 : Hid (∀ W, Has (((KP p q (4 + k) st (.slice (some ⟨g, 0, none⟩) N cap) A).both (BlkT bx (.cells (rcK.enc x).toArray rcK.ty (0, 0)))).both (BlkT by' (.cells (rcK.enc x).toArray rcK.ty (0, 0)))) w W → _) := fun W h => two_takes HE.out KI.out OK.out (by omega) HR.out h
              have dE : (er != er) = false := by simp
              refine wp_region_tree (fun W => W.cell? ⟨g, k * 102, none⟩ = some (.int .i64 kk)) (.one [0, 1, 2, 3, 4, 5, 6, 7, 9, 10, 11, 12, 13, 14, 15, 16] 8 (.one [] 17 (.last [18]))) (by kernel_rfl) (by kernel_rfl) (by kernel_rfl) (KC0.out _ (HB.out.below (Below.refl _ _).drew).left.left.right.right) ?_
              have H3 := Lib.hid (HB.out.below (Below.refl _ _).drew)
              clear HB
              generalize wc.drew = v0 at *
              refine tree_one ?_
              simp only [List.map_cons, List.map_nil, opN, List.getD_cons_succ, List.getD_cons_zero]
              repeat (first
                | (refine quiet_load_row (by rfl) _ (.tmp 55) rfl _ _ rfl (.int .i64 kk) (fun w' h => load_i64 h) ?_; simp only [Act.put, List.setIfInBounds_toArray, List.set_cons_zero, List.set_cons_succ])
                | (refine quiet_load_row (by rfl) _ (.tmp 64) rfl _ _ rfl (.int .i64 kk) (fun w' h => load_i64 h) ?_; simp only [Act.put, List.setIfInBounds_toArray, List.set_cons_zero, List.set_cons_succ])
                | go_big_quiet_step (fail)
                | (go_big_quiet_want; go_big_quiet_op; refine ⟨_, fun _ _ => rfl, ?_⟩; go_big_quiet_on))
              refine wpQuiet_nil ?_
              refine tree_step (by rfl) fun K hK => ?_
              go_simp
              refine (CT2.out _ H3.out).mono ?_
              rintro e v1 ⟨rfl, h1, c2⟩
              have C2 := Lib.hid c2
              refine hK _ _ (KC0.out _ h1) ?_
              clear hK K h1 c2 CT2 H3
              refine tree_one ?_
              simp only [List.map_nil, opN, List.getD_cons_succ, List.getD_cons_zero]
              refine wpQuiet_nil ?_
              refine tree_step (by rfl) fun K hK => ?_
              go_simp
              refine C2.out.mono ?_
              rintro e v2 ⟨rfl, h4⟩
              have H4 := Lib.hid h4
              refine hK _ _ (KC0.out _ h4.left.right.right) ?_
              clear hK K h4 C2
              refine tree_last ?_
              simp only [List.map_cons, List.map_nil, opN, List.getD_cons_succ, List.getD_cons_zero]
              repeat (first
                | go_big_quiet_step (fail)
                | (go_big_quiet_want; go_big_quiet_op; refine ⟨_, fun _ _ => rfl, ?_⟩; go_big_quiet_on))
              refine wpQuiet_nil ?_
              refine NoPanic.normal ?_
              go_wp2_with fail
              go_meet
              exact ⟨rfl, H4.out⟩
            case rest =>
              obtain ⟨rfl, hh⟩ := hcut
              have HC : Hid (Has ((KP p q (4 + k + 1) st' (.slice (some ⟨g, 0, none⟩) N cap) A).both (WideT (.slice (some ⟨bx, 0, none⟩) 1 1) 102)) w wc) := hh.mapRight (wide_of_blk (by rw [List.size_toArray]; exact rcK.len OK.out))
              have TH : Hid (wc.there bx 0 zRc.size) := by
                show wc.there bx 0 zRc.size
                rw [RS.out]
                exact HC.out.right.wideAt.2
              have HW := Lib.hid (HC.out.wipe 0 zRc.toList).left
              clear hh HB HC
              go_upto_region 17 with (refine wpList_store_mid rfl 31 (.tmp 72) (.tmp 71) rfl bx 0 zRc rfl rfl TH.out RI.out RO.out ?_)
              generalize wc.setCells bx 0 zRc.toList = wd at *
              clear TH
              go_wp2_with fail
              go_loopw [12, 73] (fun _ v73 wx => ∃ i : Nat, i ≤ 3 ∧ v73 = .int .i64 i ∧ Has (KP p q (4 + k + 1) st' (.slice (some ⟨g, 0, none⟩) N cap) A) w wx) (fun _ v73 _ => 3 - (intOf v73).toNat)
              case atStart => exact ⟨0, by omega, rfl, HW.out⟩
              case round =>
                obtain ⟨i, hi, rfl, hh⟩ := hrel
                have HJ := Lib.hid hh
                clear hh HW
                by_cases hit : i < 3
                · have d3 : decide ((i : Int) < 3) = true := decide_eq_true (by omega)
                  have CD : Hid (∀ W, Calls Tryz.prog 22 #[.int .i64 (i : Int)] W fun e w' => e = .returned (.string (bstr (drawName i))) ∧ Below W.heap.size W w') := fun W => draw_any i W (by omega)
                  obtain ⟨D, hD⟩ : ∃ D, drawName i = D := ⟨_, rfl⟩
                  rw [hD] at CD
                  have CR1 : Hid (∀ W, Has (KP p q (4 + k + 1) st' (.slice (some ⟨g, 0, none⟩) N cap) A) w W → Calls Tryz.prog 21 #[.pointer (some ⟨p, 0, none⟩), .string (bstr D), .int .i64 9] W (GivesRows rcK W (picks st' [1, 2, 3] (soon D 9)))) := fun W h => receipts_has h.left (by omega) (few3 HP2.out) (keys3 HP2.out) D 9
                  have CR2 : Hid (∀ W, Has (KP p q (4 + k + 1) st' (.slice (some ⟨g, 0, none⟩) N cap) A) w W → Calls Tryz.prog 25 #[.pointer (some ⟨p, 0, none⟩), .string (bstr D), .int .i64 0] W (GivesRows rcK W (picks st' [1, 2, 3] (late D 0)))) := fun W h => lates_has h.left (by omega) (few3 HP2.out) (keys3 HP2.out) D 0
                  obtain ⟨P1, hP1⟩ : ∃ P, picks st' [1, 2, 3] (soon D 9) = P := ⟨_, rfl⟩
                  obtain ⟨P2, hP2⟩ : ∃ P, picks st' [1, 2, 3] (late D 0) = P := ⟨_, rfl⟩
                  obtain ⟨l1, hl1⟩ : ∃ z, P1.length = z := ⟨_, rfl⟩
                  obtain ⟨l2, hl2⟩ : ∃ z, P2.length = z := ⟨_, rfl⟩
                  rw [hP1] at CR1
                  rw [hP2] at CR2
                  have HL1 := Lib.hid hl1
                  have HL2 := Lib.hid hl2
                  obtain ⟨ds, hds⟩ : ∃ s, bstr D = s := ⟨_, rfl⟩
                  rw [hds] at CD CR1 CR2
                  clear hD hP1 hP2 hl1 hl2 hds
                  go_wp2_with fail
                  refine (CD.out _).mono ?_
                  rintro e w6 ⟨rfl, b6⟩
                  have HJ1 := Lib.hid (HJ.out.below b6)
                  clear b6 HJ
                  go_wp2_with fail
                  refine (CR1.out _ HJ1.out).mono ?_
                  rintro e w7 ⟨v7, rfl, o7, b7⟩
                  obtain ⟨a7, c7, hv⟩ : ∃ ao cap, v7 = .slice ao l1 cap := by
                    obtain ⟨ao, cap, h | h⟩ := o7.lies.slice HL1.out
                    · exact ⟨ao, cap, h.1⟩
                    · exact ⟨ao, cap, h.1⟩
                  subst hv
                  have M1 : l1 ≤ 9223372036854775807 := rows_max o7 HL1.out
                  have AT0 := Lib.hid (own_some o7 HL1.out)
                  have HJ2 := Lib.hid (HJ1.out.newRows b7 o7)
                  clear b7 o7 CR1 HJ1
                  go_wp2_with fail
                  refine (CD.out _).mono ?_
                  rintro e w8 ⟨rfl, b8⟩
                  have HJ3 := Lib.hid (HJ2.out.below b8)
                  clear b8 HJ2 CD
                  go_wp2_with fail
                  refine (CR2.out _ HJ3.out.left).mono ?_
                  rintro e w9 ⟨v9, rfl, o9, b9⟩
                  obtain ⟨a9, c9, hv⟩ : ∃ ao cap, v9 = .slice ao l2 cap := by
                    obtain ⟨ao, cap, h | h⟩ := o9.lies.slice HL2.out
                    · exact ⟨ao, cap, h.1⟩
                    · exact ⟨ao, cap, h.1⟩
                  subst hv
                  have M2 : l2 ≤ 9223372036854775807 := rows_max o9 HL2.out
                  have AT1 := Lib.hid (own_some o9 HL2.out)
                  have HJ4 := Lib.hid (HJ3.out.newRows b9 o9)
                  have bz : Below w9.heap.size w9 (w9.alloc (.cells #[.slice a7 l1 c7, .slice a9 l2 c9] 24)) := (Below.refl _ _).alloc (Nat.le_refl _) _
                  have HJ5 : Hid (Has ((((KP p q (4 + k + 1) st' (.slice (some ⟨g, 0, none⟩) N cap) A).both (WideT (.slice a7 l1 c7) (l1 * 102))).both (WideT (.slice a9 l2 c9) (l2 * 102))).both (BlkT w9.heap.size (.cells #[.slice a7 l1 c7, .slice a9 l2 c9] 24 (0, 0)))) w (w9.alloc (.cells #[.slice a7 l1 c7, .slice a9 l2 c9] 24))) :=
                    (((HJ4.out.wide (n := l2 * 102) (by rw [HL2.out]; rfl)).swap3.wide (n := l1 * 102) (by rw [HL1.out]; rfl)).swap3).newBlk bz (heap_alloc_new w9 _) (Nat.le_refl _)
                  clear b9 o9 CR2 HJ3 HJ4 bz HL1 HL2
                  go_wp2_with fail
                  obtain ⟨z, hz⟩ : ∃ z, w9.heap.size = z := ⟨_, rfl⟩
                  rw [hz] at HJ5 ⊢
                  generalize w9.alloc (.cells #[.slice a7 l1 c7, .slice a9 l2 c9] 24) = wz at *
                  clear hz
                  go_loopw [14, 86] (fun _ v86 wx => ∃ j : Nat, j ≤ 2 ∧ v86 = .int .i64 j ∧ Has ((((KP p q (4 + k + 1) st' (.slice (some ⟨g, 0, none⟩) N cap) A).both (WideT (.slice a7 l1 c7) (l1 * 102))).both (WideT (.slice a9 l2 c9) (l2 * 102))).both (BlkT z (.cells #[.slice a7 l1 c7, .slice a9 l2 c9] 24 (0, 0)))) w wx) (fun _ v86 _ => 2 - (intOf v86).toNat)
                  case atStart => exact ⟨0, by omega, rfl, HJ5.out⟩
                  case round =>
                    obtain ⟨j, hj, rfl, hh⟩ := hrel
                    have HK := Lib.hid hh
                    clear hh HJ5
                    by_cases hjt : j < 2
                    · have d4 : decide ((j : Int) < 2) = true := decide_eq_true (by omega)
                      have y0 : wr.cell? ⟨z, 0, none⟩ = some (.slice a7 l1 c7) := (cell_of_row _ _ 0 _ _ _ HK.out.right.blk).trans rfl
                      have y1 : wr.cell? ⟨z, 1, none⟩ = some (.slice a9 l2 c9) := (cell_of_row _ _ 1 _ _ _ HK.out.right.blk).trans rfl
                      have hj2 : j = 0 ∨ j = 1 := by omega
                      rcases hj2 with hj2 | hj2
                      · subst hj2
                        have HQ : Hid (Has ((((KP p q (4 + k + 1) st' (.slice (some ⟨g, 0, none⟩) N cap) A).both (WideT (.slice a9 l2 c9) (l2 * 102))).both (BlkT z (.cells #[.slice a7 l1 c7, .slice a9 l2 c9] 24 (0, 0)))).both (WideT (.slice a7 l1 c7) (l1 * 102))) w wr) := HK.out.swapIn.swap3
                        clear HK
                        go_wp2_with fail
                        go_loopw [15, 92] (fun _ v92 wx => ∃ m : Nat, m ≤ l1 ∧ v92 = .int .i64 m ∧ Has ((((KP p q (4 + k + 1) st' (.slice (some ⟨g, 0, none⟩) N cap) A).both (WideT (.slice a9 l2 c9) (l2 * 102))).both (BlkT z (.cells #[.slice a7 l1 c7, .slice a9 l2 c9] 24 (0, 0)))).both (WideT (.slice a7 l1 c7) (l1 * 102))) w wx) (fun _ v92 _ => l1 - (intOf v92).toNat)
                        case atStart => exact ⟨0, by omega, rfl, HQ.out⟩
                        case round =>
                          obtain ⟨m, hm, rfl, hh⟩ := hrel
                          have HM := Lib.hid hh
                          clear hh HQ
                          by_cases hmt : m < l1
                          · have d5 : decide ((m : Int) < (l1 : Int)) = true := decide_eq_true (by omega)
                            have d5' : decide (m < l1) = true := decide_eq_true hmt
                            have x0 : (0 : Int) ≤ (m : Int) := by omega
                            have x1 : (m : Int) < (l1 : Int) := by omega
                            obtain ⟨gm, e⟩ : ∃ gm, a7 = some ⟨gm, 0, none⟩ := AT0.out (by omega)
                            subst e
                            have TH : Hid (wr.there gm (m * 102) zRc.size) := by
                              show wr.there gm (m * 102) zRc.size
                              rw [RS.out]
                              exact there_part HM.out.right.wideAt.2 (o := m * 102) (m := 102) (by have := Nat.mul_le_mul_right 102 (show m + 1 ≤ l1 by omega); omega)
                            have HW := Lib.hid (HM.out.wipe (m * 102) zRc.toList)
                            obtain ⟨WW, hWW⟩ : ∃ WW, wr.setCells gm (m * 102) zRc.toList = WW := ⟨_, rfl⟩
                            rw [hWW] at HW
                            go_upto_region 27 with (refine wpList_store_mid rfl 31 (.tmp 98) (.tmp 97) rfl gm (m * 102) zRc rfl rfl TH.out RI.out RO.out ?_; rw [hWW]; simp only [Act.put])
                            clear hWW
                            go_wp2_with fail
                            exact ⟨⟨m + 1, hmt, rfl, HW.out⟩, by simp [intOf]; omega⟩
                          · have d5 : decide ((m : Int) < (l1 : Int)) = false := decide_eq_false (by omega)
                            have d5' : decide (m < l1) = false := decide_eq_false hmt
                            have HZ : Hid (Has ((((KP p q (4 + k + 1) st' (.slice (some ⟨g, 0, none⟩) N cap) A).both (WideT (.slice a7 l1 c7) (l1 * 102))).both (WideT (.slice a9 l2 c9) (l2 * 102))).both (BlkT z (.cells #[.slice a7 l1 c7, .slice a9 l2 c9] 24 (0, 0)))) w wr) := HM.out.swap3.swapIn
                            clear HM hmt hm
                            go_wp2_with fail
                            exact ⟨⟨1, by omega, rfl, HZ.out⟩, by simp [intOf]⟩
                      · subst hj2
                        have HQ : Hid (Has ((((KP p q (4 + k + 1) st' (.slice (some ⟨g, 0, none⟩) N cap) A).both (WideT (.slice a7 l1 c7) (l1 * 102))).both (BlkT z (.cells #[.slice a7 l1 c7, .slice a9 l2 c9] 24 (0, 0)))).both (WideT (.slice a9 l2 c9) (l2 * 102))) w wr) := HK.out.swap3
                        clear HK
                        go_wp2_with fail
                        go_loopw [15, 92] (fun _ v92 wx => ∃ m : Nat, m ≤ l2 ∧ v92 = .int .i64 m ∧ Has ((((KP p q (4 + k + 1) st' (.slice (some ⟨g, 0, none⟩) N cap) A).both (WideT (.slice a7 l1 c7) (l1 * 102))).both (BlkT z (.cells #[.slice a7 l1 c7, .slice a9 l2 c9] 24 (0, 0)))).both (WideT (.slice a9 l2 c9) (l2 * 102))) w wx) (fun _ v92 _ => l2 - (intOf v92).toNat)
                        case atStart => exact ⟨0, by omega, rfl, HQ.out⟩
                        case round =>
                          obtain ⟨m, hm, rfl, hh⟩ := hrel
                          have HM := Lib.hid hh
                          clear hh HQ
                          by_cases hmt : m < l2
                          · have d5 : decide ((m : Int) < (l2 : Int)) = true := decide_eq_true (by omega)
                            have d5' : decide (m < l2) = true := decide_eq_true hmt
                            have x0 : (0 : Int) ≤ (m : Int) := by omega
                            have x1 : (m : Int) < (l2 : Int) := by omega
                            obtain ⟨gm, e⟩ : ∃ gm, a9 = some ⟨gm, 0, none⟩ := AT1.out (by omega)
                            subst e
                            have TH : Hid (wr.there gm (m * 102) zRc.size) := by
                              show wr.there gm (m * 102) zRc.size
                              rw [RS.out]
                              exact there_part HM.out.right.wideAt.2 (o := m * 102) (m := 102) (by have := Nat.mul_le_mul_right 102 (show m + 1 ≤ l2 by omega); omega)
                            have HW := Lib.hid (HM.out.wipe (m * 102) zRc.toList)
                            obtain ⟨WW, hWW⟩ : ∃ WW, wr.setCells gm (m * 102) zRc.toList = WW := ⟨_, rfl⟩
                            rw [hWW] at HW
                            go_upto_region 27 with (refine wpList_store_mid rfl 31 (.tmp 98) (.tmp 97) rfl gm (m * 102) zRc rfl rfl TH.out RI.out RO.out ?_; rw [hWW]; simp only [Act.put])
                            clear hWW
                            go_wp2_with fail
                            exact ⟨⟨m + 1, hmt, rfl, HW.out⟩, by simp [intOf]; omega⟩
                          · have d5 : decide ((m : Int) < (l2 : Int)) = false := decide_eq_false (by omega)
                            have d5' : decide (m < l2) = false := decide_eq_false hmt
                            have HZ : Hid (Has ((((KP p q (4 + k + 1) st' (.slice (some ⟨g, 0, none⟩) N cap) A).both (WideT (.slice a7 l1 c7) (l1 * 102))).both (WideT (.slice a9 l2 c9) (l2 * 102))).both (BlkT z (.cells #[.slice a7 l1 c7, .slice a9 l2 c9] 24 (0, 0)))) w wr) := HM.out.swap3
                            clear HM hmt hm
                            go_wp2_with fail
                            exact ⟨⟨2, by omega, rfl, HZ.out⟩, by simp [intOf]⟩
                    · have d4 : decide ((j : Int) < 2) = false := decide_eq_false (by omega)
                      have HZ := Lib.hid HK.out.left.left.left
                      clear HK hjt hj
                      go_wp2_with fail
                      exact ⟨⟨i + 1, hit, rfl, HZ.out⟩, by simp [intOf]; omega⟩
                · have d3 : decide ((i : Int) < 3) = false := decide_eq_false (by omega)
                  have CE : Hid (∀ W, Has (KP p q (4 + k + 1) st' (.slice (some ⟨g, 0, none⟩) N cap) A) w W → Calls Tryz.prog 19 #[.pointer (some ⟨p, 0, none⟩)] W (GivesRows evK W (evids st' [1, 2, 3]))) := fun W h => evids_has h.left (by omega) (few3 HP2.out) (keys3 HP2.out) HE.out
                  obtain ⟨P1, hP1⟩ : ∃ P, evids st' [1, 2, 3] = P := ⟨_, rfl⟩
                  obtain ⟨l1, hl1⟩ : ∃ z, P1.length = z := ⟨_, rfl⟩
                  rw [hP1] at CE
                  have HL1 := Lib.hid hl1
                  clear hP1 hl1 hit hi
                  go_wp2_with fail
                  refine (CE.out _ HJ.out).mono ?_
                  rintro e w7 ⟨v7, rfl, o7, b7⟩
                  obtain ⟨a7, c7, hv⟩ : ∃ ao cap, v7 = .slice ao l1 cap := by
                    obtain ⟨ao, cap, h | h⟩ := o7.lies.slice HL1.out
                    · exact ⟨ao, cap, h.1⟩
                    · exact ⟨ao, cap, h.1⟩
                  subst hv
                  have M1 : l1 ≤ 9223372036854775807 := rows_max o7 HL1.out
                  have O7 := Lib.hid o7
                  have HJ2 := Lib.hid ((HJ.out.newRows b7 o7).wide (n := l1 * 19) (by rw [HL1.out]; rfl))
                  clear b7 o7 CE HJ
                  go_wp2_with fail
                  go_loopw [17, 106] (fun _ v106 wx => ∃ m : Nat, m ≤ l1 ∧ v106 = .int .i64 m ∧ Has ((KP p q (4 + k + 1) st' (.slice (some ⟨g, 0, none⟩) N cap) A).both (WideT (.slice a7 l1 c7) (l1 * 19))) w wx) (fun _ v106 _ => l1 - (intOf v106).toNat)
                  case atStart => exact ⟨0, by omega, rfl, HJ2.out⟩
                  case round =>
                    obtain ⟨m, hm, rfl, hh⟩ := hrel
                    have HM := Lib.hid hh
                    clear hh HJ2
                    by_cases hmt : m < l1
                    · have d5 : decide ((m : Int) < (l1 : Int)) = true := decide_eq_true (by omega)
                      have d5' : decide (m < l1) = true := decide_eq_true hmt
                      have x0 : (0 : Int) ≤ (m : Int) := by omega
                      have x1 : (m : Int) < (l1 : Int) := by omega
                      obtain ⟨gm, capm, e⟩ := keys_nil_slice O7.out HL1.out (by omega)
                      injection e with e4 e5 e6
                      subst e4
                      clear e5 e6
                      have TH : Hid (wr.there gm (m * 19) zEv.size) := by
                        show wr.there gm (m * 19) zEv.size
                        rw [ES.out]
                        exact there_part HM.out.right.wideAt.2 (o := m * 19) (m := 19) (by have := Nat.mul_le_mul_right 19 (show m + 1 ≤ l1 by omega); omega)
                      have HW := Lib.hid (HM.out.wipe (m * 19) zEv.toList)
                      obtain ⟨WW, hWW⟩ : ∃ WW, wr.setCells gm (m * 19) zEv.toList = WW := ⟨_, rfl⟩
                      rw [hWW] at HW
                      go_upto_region 35 with (refine wpList_store_mid rfl 58 (.tmp 112) (.tmp 111) rfl gm (m * 19) zEv rfl rfl TH.out EI.out EO.out ?_; rw [hWW]; simp only [Act.put])
                      clear hWW
                      go_wp2_with fail
                      exact ⟨⟨m + 1, hmt, rfl, HW.out⟩, by simp [intOf]; omega⟩
                    · have d5 : decide ((m : Int) < (l1 : Int)) = false := decide_eq_false (by omega)
                      have d5' : decide (m < l1) = false := decide_eq_false hmt
                      have HZ := Lib.hid HM.out.left
                      clear HM hmt hm
                      go_wp2_with fail
                      exact ⟨⟨k + 1, st', hkt, rfl, HP2.out, HZ.out⟩, by simp [intOf]; omega⟩
        · have d2 : decide ((k : Int) < (N : Int)) = false := decide_eq_false (by omega)
          have d2' : decide (k < N) = false := decide_eq_false hkt
          have HPP := Lib.hid HP.out
          obtain ⟨vp, vo, vk, vc, hm1⟩ := HH.out.left.mrg
          have EW := HE.out.below HH.out.base
          have CE1 := Lib.hid (encode_any hm1 (by omega) EW.1 EW.2)
          clear hm1 EW hkt
          go_wp2_with fail
          refine CE1.out.mono ?_
          rintro e w7 ⟨ko, ks, kc, k1, k2, k3, rfl, b7⟩
          have H8 := Lib.hid (HH.out.below b7)
          have K1 := Lib.hid k1
          have K2 := Lib.hid k2
          have K3 := Lib.hid k3
          obtain ⟨T, hT⟩ : ∃ T, bstr (encT st ko ks kc) = T := ⟨_, rfl⟩
          rw [hT]
          have HT := Lib.hid hT
          obtain ⟨vp2, vo2, vk2, vc2, hm2⟩ := H8.out.right.left.mrg
          have EW := HE.out.below H8.out.base
          have CE2 := Lib.hid (encode_any hm2 (by omega) EW.1 EW.2)
          clear hm2 EW b7 k1 k2 k3 hT CE1 HH
          go_wp2_with fail
          refine CE2.out.mono ?_
          rintro e w8 ⟨ko2, ks2, kc2, k1, k2, k3, rfl, b8⟩
          rw [keys_unique k1 K1.out, keys_unique k2 K2.out, keys_unique k3 K3.out, HT.out]
          have H9 := Lib.hid (H8.out.below b8)
          have CV1 := Lib.hid (evids_has H9.out.left (by omega) (few3 HPP.out) (keys3 HPP.out) HE.out)
          clear b8 CE2 H8 k1 k2 k3
          go_wp2_with fail
          refine CV1.out.mono ?_
          rintro e w9 ⟨v9, rfl, o9, b9⟩
          have H10 := Lib.hid (H9.out.newRows b9 o9)
          have CV2 := Lib.hid (evids_has H10.out.left.right.left (by omega) (few3 HPP.out) (keys3 HPP.out) HE.out)
          clear b9 o9 CV1 H9
          go_wp2_with fail
          refine CV2.out.mono ?_
          rintro e w10 ⟨v10, rfl, o10, b10⟩
          have CS := Lib.hid (same_evs (H10.out.below b10).right.rows.lies o10.lies (evids_len st))
          have H11 := Lib.hid (H10.out.below b10)
          clear b10 o10 CV2 H10
          go_wp2_with fail
          refine CS.out.mono ?_
          rintro e w11 ⟨rfl, b11⟩
          have BF := Lib.hid (H11.out.below b11).base
          clear b11 CS H11
          go_wp2_with fail
          go_ret
          exact ⟨rfl, BF.out⟩
end Go.Proofs.YtpblfpnldbdncaaGreatDoor
