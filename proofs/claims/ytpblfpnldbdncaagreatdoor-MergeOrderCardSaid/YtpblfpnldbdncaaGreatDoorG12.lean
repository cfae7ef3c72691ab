/- The contract of merge's Learn. Literals of structs of many cells: papers, pairs, judged ones, receipts. The contract of merge's keep. -/
import Derived.Test.YtpblfpnldbdncaaGreatDoorG11
import Derived.Carry
namespace Go.Proofs.YtpblfpnldbdncaaGreatDoor
open Go.RowKit Go.Sort Go.Maps
open Sg (Rc)
open Mg (Mst)
set_option linter.unusedVariables false
set_option maxRecDepth 100000
attribute [local go_sem ↓] wp_alloc_h wp_build_h0 wp_store_h
/-- an output -/
structure Ot where
  rd : Int
  val : Int
  fin : ByteArray
  locked : List UInt8
  hash : List UInt8
structure OtOk (o : Ot) : Prop where
  rd : I64 o.rd
  val : I64 o.val
  fin : o.fin.size ≤ maxLen
  locked : o.locked.length = 32
  hash : o.hash.length = 32
def otList (o : Ot) : List Value := [.int .i64 o.rd, .int .i64 o.val, .string o.fin] ++ (hcl o.locked ++ hcl o.hash)
def otArr (o : Ot) : Array Value := (otList o).toArray
theorem otList_length {o : Ot} (h : OtOk o) : (otList o).length = 67 := by
  simp only [otList, List.length_append, hcl_length, h.locked, h.hash, List.length_cons, List.length_nil]
theorem ot_cells {w : World} {b : Nat} {o : Ot} {t : TypeId} {fr : Nat × Nat} (ho : OtOk o) (h : w.heap[b]? = some (.cells (otArr o) t fr)) : w.cell? ⟨b, 0, none⟩ = some (.int .i64 o.rd) ∧ w.rangeAt b 35 (hcl o.hash) := by
  have e : ∀ j v, (otList o)[j]? = some v → w.cell? ⟨b, j, none⟩ = some v := fun j v hv => by
    rw [cell_of_row _ _ _ _ _ _ h, otArr, List.getElem?_toArray]; exact hv
  refine ⟨e 0 _ rfl, fun j v hv => e _ _ ?_⟩
  have e1 : 35 + j - [Value.int .i64 o.rd, .int .i64 o.val, .string o.fin].length = 32 + j := by simp; omega
  have e2 : 32 + j - (hcl o.locked).length = j := by rw [hcl_length, ho.locked]; omega
  unfold otList
  rw [List.getElem?_append_right (by simp; omega), e1, List.getElem?_append_right (by rw [hcl_length, ho.locked]; omega), e2]
  exact hv
theorem upd_opt {κ : Type} [DecidableEq κ] {α : Type} (g : κ → Option α) (F : α → Value) (x : κ) (y : α) : upd (fun k => (g k).map F) x (F y) = fun k => ((if k = x then some y else g k)).map F := by
  funext k
  unfold upd
  by_cases e : k = x
  · rw [if_pos e, if_pos e]; rfl
  · rw [if_neg e, if_neg e]
/-- a merge behind a store into its map of outputs -/
theorem mrg_out {w w' : World} {p : Nat} {vp vo vk vc : Value} {st : Mst} {n b : Nat} (h : MrgAt w p vp vo vk vc st n) {rd : Int} {hsh : List UInt8}
    (hcells : w'.heap[p]? = some (.cells #[vp, .map (some b), vk, vc] 82 (0, 0))) (hmap : MapB kInt w' b (n + 1) (upd (outF st) rd (.agg (hashArr hsh)))) (ht : Turned (fun k => k = p ∨ k = b) w w')
    (hb : mapBlk vo = some b ∨ w.heap.size ≤ b) (hI : I64 rd) (hl : hsh.length = 32) : MrgAt w' p vp (.map (some b)) vk vc { st with outs := fun k => if k = rd then some hsh else st.outs k } (n + 1) := by
  have ne : ∀ {v : Value}, NeB v vo → (∀ k, mapBlk v = some k → k < w.heap.size) → NeB v (.map (some b)) := by
    intro v h1 h2 k hk e
    injection e with e
    subst e
    rcases hb with hb | hb
    · exact h1 b hk hb
    · have := h2 b hk; omega
  have n1 := ne h.po h.pub.lt
  have n2 := ne h.ok'.symm h.kept.lt
  have n3 := ne h.oc.symm h.clones.lt
  have tr : ∀ {v : Value}, NeB v (.map (some b)) → mapBlk v ≠ some p → ∀ k, mapBlk v = some k → ¬ (k = p ∨ k = b) := by
    intro v h1 h2 k hk hh
    rcases hh with rfl | rfl
    · exact h2 hk
    · exact h1 k hk rfl
  refine ⟨hcells, (mapIs_turned h.pub ht (tr n1 (h.ne_p h.pub))).mono (Nat.le_succ _), ?_, (mapIs_turned h.kept ht (tr n2 (h.ne_p h.kept))).mono (Nat.le_succ _), (mapIs_turned h.clones ht (tr n3 (h.ne_p h.clones))).mono (Nat.le_succ _), n1, h.pk, h.pc, n2.symm, n3.symm, h.kc, ?_⟩
  · refine .inr ⟨b, rfl, ?_⟩
    have e := upd_opt st.outs (fun h => Value.agg (hashArr h)) rd hsh
    have e2 : upd (outF st) rd (.agg (hashArr hsh)) = outF { st with outs := fun k => if k = rd then some hsh else st.outs k } := e
    rw [← e2]
    exact hmap
  · refine ⟨h.ok.pub, fun k x hx => ?_, h.ok.kept, h.ok.low, h.ok.clones⟩
    simp only at hx
    by_cases e : k = rd
    · rw [if_pos e] at hx
      injection hx with hx
      subst hx e
      exact ⟨hI, hl⟩
    · rw [if_neg e] at hx
      exact h.ok.outs k x hx
theorem grownBy_setCellP (w : World) (b o : Nat) (v : Value) : w.grownBy (w.setCell ⟨b, o, none⟩ v) (some b) :=
  ⟨rfl, rfl, rfl, by simp, fun k _ hk => Below.heap_setCell _ _ _ _ (fun e => hk (by rw [e]))⟩
/-- what Learn answers -/
def learnErr : Nat → Int
  | 0 => 0
  | 1 => 1
  | 2 => 33
  | _ => 42
def Learned (p : Nat) (vp vo vk vc : Value) (r : Mst × Nat) (n : Nat) (w : World) (e : Ending) (w' : World) : Prop :=
  e = .returned (.int .i64 (learnErr r.2)) ∧ ∃ vo', MrgAt w' p vp vo' vk vc r.1 (n + 1) ∧ Turned (FootM p vp vo vk vc) w w' ∧ ∀ k, mapBlk vo' = some k → mapBlk vo = some k ∨ w.heap.size ≤ k
theorem learned_same {p : Nat} {vp vo vk vc : Value} {st : Mst} {n : Nat} {w w' : World} (h : MrgAt w p vp vo vk vc st n) (hb : Below w.heap.size w w') (c : Nat) : Learned p vp vo vk vc (st, c) n w (.returned (.int .i64 (learnErr c))) w' :=
  ⟨rfl, vo, (h.below hb).mono (Nat.le_succ _), Turned.of_below hb, fun k hk => .inl hk⟩
set_option maxHeartbeats 4000000 in
theorem learn_any {w : World} {p : Nat} {vp vo vk vc : Value} {st : Mst} {n : Nat} (h : MrgAt w p vp vo vk vc st n) (o : Ot) (ho : OtOk o) (hn : n ≤ 100000) :
    Calls Tryz.prog 16 #[.pointer (some ⟨p, 0, none⟩), .agg (otArr o)] w (Learned p vp vo vk vc (st.learn o.rd o.hash) n w) := by
  have hb0 : Below w.heap.size w (w.alloc (.cells (otArr o) 42)) := (Below.refl _ _).alloc (Nat.le_refl _) _
  have RW := heap_alloc_new w (.cells (otArr o) 42)
  obtain ⟨k3, l1⟩ := ot_cells ho RW
  have HB0 := Lib.hid hb0
  have HM := Lib.hid h
  by_cases h1 : o.rd < 1
  · have el : st.learn o.rd o.hash = (st, 1) := by unfold Mst.learn; rw [if_pos h1]
    rw [el]
    have d1 : decide (o.rd < 1) = true := by simpa using h1
    have FIN := Lib.hid (learned_same h hb0 1)
    clear h hb0 RW l1 el h1
    go_enter Tryz.func16, Tryz.ntmps16
    go_wp2_with fail
    go_ret
    exact FIN.out
  · have d1 : decide (o.rd < 1) = false := by simpa using h1
    have hsn := ho.rd
    have OL := Lib.hid ho.hash
    have L1 := Lib.hid l1
    have k3L := k3
    obtain ⟨W0, hW⟩ : ∃ W0, w.alloc (.cells (otArr o) 42) = W0 := ⟨_, rfl⟩
    have HW := Lib.hid hW
    rw [hW] at HB0 k3 L1 hb0
    have hlen := h.ok.outLen o.rd
    have M0 := h.below hb0
    obtain ⟨v0, v1, v2, v3⟩ := M0.vals
    obtain ⟨Z, hZ⟩ : ∃ Z, W0.alloc (.cells (hashArr Mg.zeroH) 27) = Z := ⟨_, rfl⟩
    have bz : Below W0.heap.size W0 Z := by rw [← hZ]; exact (Below.refl _ _).alloc (Nat.le_refl _) _
    have y1 := (bz.cell (p := ⟨p, 1, none⟩) (rc_block_lt M0.cells)).trans v1
    have y3 := (bz.cell (p := ⟨w.heap.size, 0, none⟩) (block_lt_of_cell k3)).trans k3
    have a0 := isRowAt (n := 32) (by rw [hashArr_size, zeroH_length]) (show Z.drew.heap[W0.heap.size]? = _ by rw [← hZ]; exact heap_alloc_new W0 (.cells (hashArr Mg.zeroH) 27))
    have a1 := hash_isRow hlen
    have e1 : blockOf (.pointer (some ⟨W0.heap.size, 0, none⟩)) = W0.heap.size := rfl
    have lk1 := M0.lookOut (Below.refl W0.heap.size W0).drew hsn
    have lk2 := M0.lookOut bz.drew hsn
    obtain ⟨hh, ehh⟩ : ∃ hh, (st.outs o.rd).getD Mg.zeroH = hh := ⟨_, rfl⟩
    obtain ⟨bb, ebb⟩ : ∃ bb, (st.outs o.rd).isSome = bb := ⟨_, rfl⟩
    rw [ehh, ebb] at lk1 lk2
    rw [ehh] at a1 hlen
    have EHH := Lib.hid ehh
    have EBB := Lib.hid ebb
    rw [← hZ] at y1 y3 a0 lk2
    have H1 := Lib.hid h1
    have HI := Lib.hid hsn
    clear v0 v2 v3 hZ bz h hb0 RW l1 hW ehh ebb M0 h1
    go_enter Tryz.func16, Tryz.ntmps16
    go_wp2_with fail
    rw [HW.out]
    clear k3L
    go_region
    have BD : Below W0.heap.size W0 (W0.alloc (.cells (hashArr Mg.zeroH) 27)).drew := ((Below.refl _ _).alloc (Nat.le_refl _) _).drew
    have B2 := Lib.hid (below_setRow BD (Nat.le_refl _) (hashArr hh))
    have RZ := heap_alloc_new W0 (.cells (hashArr Mg.zeroH) 27)
    have R2 := setRow_heap (W0.alloc (.cells (hashArr Mg.zeroH) 27)).drew W0.heap.size (hashArr Mg.zeroH) (hashArr hh) _ _ RZ
    have LT := rc_block_lt_cell k3
    generalize (W0.alloc (.cells (hashArr Mg.zeroH) 27)).drew.setRow W0.heap.size (hashArr hh) = W2 at *
    have L2 : Hid (W2.rangeAt w.heap.size 35 (hcl o.hash)) := fun j v hv => (B2.out.cell (p := ⟨w.heap.size, 35 + j, none⟩) LT).trans (L1.out j v hv)
    have K2 : W2.cell? ⟨w.heap.size, 0, none⟩ = some (.int .i64 o.rd) := (B2.out.cell (p := ⟨w.heap.size, 0, none⟩) LT).trans k3
    have G2 : Hid (W2.rangeAt W0.heap.size 0 (hcl hh)) := fun j v hv => by
      rw [Nat.zero_add, cell_of_row _ _ _ _ _ _ R2, hashArr, List.getElem?_toArray]
      exact hv
    have BW2 := Lib.hid (HB0.out.trans (B2.out.mono HB0.out.size))
    have HL := Lib.hid hlen
    have M2 := HM.out.below BW2.out
    have M2H := Lib.hid M2
    obtain ⟨w0', w1', w2', w3'⟩ := M2.vals
    have fz := M2.frozen 1
    clear BD RZ R2 y1 y3 a0 a1 lk1 lk2 hlen d1 k3 v1 w0' w2' w3' M2 LT
    cases bb
    · have en : st.outs o.rd = none := by
        have := EBB.out
        cases hx : st.outs o.rd with
        | none => rfl
        | some x => rw [hx] at this; cases this
      have el : st.learn o.rd o.hash = ({ st with outs := fun k => if k = o.rd then some o.hash else st.outs k }, 0) := by
        unfold Mst.learn; rw [if_neg (by have := H1.out; omega), en]
      have EL := Lib.hid el
      have EN := Lib.hid en
      have qn : ∀ (W : World) (r : Option Nat), (binOp .eql 78 (.map r) (.map none)).run Tryz.prog W = .ok (.bool r.isNone) W := fun W r => run_eql_map_nil W _ _ _ r Tryz.underlying78
      have hmm := @run_makeMap Tryz.prog
      clear el en
      obtain ⟨ob, rfl⟩ := HM.out.outs.shape
      cases ob with
      | none =>
        have lp : p < W2.heap.size := rc_block_lt M2H.out.cells
        have b3 : Below W2.heap.size W2 (W2.alloc (.map #[] 0)) := (Below.refl _ _).alloc (Nat.le_refl _) _
        have x1 := (b3.cell (p := ⟨p, 1, none⟩) lp).trans w1'
        have xf : (W2.alloc (.map #[] 0)).frozen? ⟨p, 1, none⟩ = false := (b3.frozen (p := ⟨p, 1, none⟩) lp).trans fz
        have c3 := heap_below M2H.out.cells b3
        have mb3 := MapB.made kInt W2
        have lw : w.heap.size ≠ p := fun e => by have := HM.out.lt p (.inl rfl); omega
        obtain ⟨WX, hWX⟩ : ∃ WX, (W2.alloc (.map #[] 0)).setCell ⟨p, 1, none⟩ (.map (some W2.heap.size)) = WX := ⟨_, rfl⟩
        have gX := grownBy_setCellP (W2.alloc (.map #[] 0)) p 1 (.map (some W2.heap.size))
        rw [hWX] at gX
        have cX := heap_setCell_at (o := 1) c3 (.map (some W2.heap.size))
        rw [hWX] at cX
        obtain ⟨BX, hBX⟩ : ∃ BX, W2.heap.size = BX := ⟨_, rfl⟩
        have CXX : Hid (WX.heap[p]? = some (.cells #[vp, .map (some BX), vk, vc] 82 (0, 0))) := by rw [← hBX]; exact cX
        have nb : W2.heap.size ≠ p := by omega
        have MBX : Hid (MapB kInt WX BX n (outF st)) := by
          rw [← hBX]
          refine ((mb3.kept gX (by intro e; injection e with e; exact nb e)).mono (Nat.zero_le _)).congr (fun x hx => ?_)
          rcases HM.out.outs with ⟨_, h0⟩ | ⟨b, e, _⟩
          · exact (h0 x hx).symm
          · cases e
        have C1 : ∀ d os, (grow (redrawn WX d) os).cell? ⟨p, 1, none⟩ = some (.map (some BX)) := cell_regrown ((cell_of_row _ _ 1 _ _ _ CXX.out).trans rfl)
        have kX : WX.cell? ⟨w.heap.size, 0, none⟩ = some (.int .i64 o.rd) := by
          have h1 := (b3.cell (p := ⟨w.heap.size, 0, none⟩) (rc_block_lt_cell K2)).trans K2
          have h2 := gX.block w.heap.size (rc_block_lt_cell h1) (by intro e; injection e with e; exact lw e)
          unfold World.cell? at h1 ⊢
          simp only at h1 ⊢
          rw [h2]; exact h1
        have C0 := cell_regrown kX
        have lX := rc_block_lt_cell kX
        have LR : WX.rangeAt w.heap.size 35 (hcl o.hash) := fun j v hv => by
          have h1 := (b3.cell (p := ⟨w.heap.size, 35 + j, none⟩) (rc_block_lt_cell K2)).trans (L2.out j v hv)
          have h2 := gX.block w.heap.size (rc_block_lt_cell h1) (by intro e; injection e with e; exact lw e)
          unfold World.cell? at h1 ⊢
          simp only at h1 ⊢
          rw [h2]; exact h1
        have LH := Lib.hid (load_hash_re OL.out LR lX)
        have TXX : Hid (Turned (fun k => k = p ∨ k = BX) w WX) := ((Turned.of_below (F := fun k => k = p ∨ k = BX) (BW2.out.trans (b3.mono BW2.out.size))).trans (Turned.of_grown (F := fun k => k = p) gX (fun k e => by injection e with e; exact e.symm)) (fun k hk => .inl (.inl hk)))
        have PB : Hid (BX ≠ p) := by rw [← hBX]; exact nb
        have HBX : Hid (mapBlk (.map none) = some BX ∨ w.heap.size ≤ BX) := .inr (by rw [← hBX]; exact BW2.out.size)
        have HWX := Lib.hid hWX
        have HBBX := Lib.hid hBX
        clear b3 c3 mb3 gX cX nb kX lX LR lw lp hWX hBX
        go_wp2_with fail
        rw [HWX.out]
        clear x1 xf w1' fz K2
        refine wp_region_tail_below 8 (by kernel_rfl) (by kernel_rfl) ?_
        simp only [List.take_succ_cons, List.take_zero, List.drop_succ_cons, List.drop_zero]
        repeat (first
          | (refine quiet_load_row (by rfl) _ (.tmp 44) rfl _ _ rfl _ LH.out ?_; simp only [Act.put, List.setIfInBounds_toArray, List.set_cons_zero, List.set_cons_succ])
          | go_big_quiet_step (fail))
        refine wpQuiet_nil ?_
        intro _ hw'
        obtain ⟨⟨dq, osq⟩, hw''⟩ := hw'
        subst hw''
        have hq := below_regrown WX dq osq
        have MB := Lib.hid (MBX.out.below hq)
        have CX := Lib.hid (heap_below CXX.out hq)
        have TX := Lib.hid (TXX.out.trans (Turned.of_below (F := fun _ => False) hq) (fun k f => f.elim))
        clear hq C1 C0
        generalize grow (redrawn WX dq) osq = W5 at *
        go_wp2_with (refine wpList_putV rfl rfl (.tmp 41) (.tmp 43) (.tmp 45) rfl Tryz.underlying78 rfl MB.out rfl HI.out (by unfold maxLen; omega) (.agg (hashArr o.hash)) rfl ?_; intro w6 mb6 g6)
        have c6 := (g6.block p (rc_block_lt CX.out) (by intro e; injection e with e; exact PB.out e.symm)).trans CX.out
        have t6 : Turned (fun k => k = p ∨ k = BX) w w6 := TX.out.trans (Turned.of_grown (F := fun k => k = BX) g6 (fun k e => by injection e with e; exact e.symm)) (fun k hk => .inl (.inr hk))
        have M6 := mrg_out HM.out c6 mb6 t6 HBX.out HI.out OL.out
        go_wp2_with fail
        go_ret
        refine ⟨by rw [EL.out]; rfl, _, by rw [EL.out]; exact M6, ⟨t6.os, t6.tape, t6.output, t6.size, fun k hk hn => t6.block k hk (fun hh => ?_)⟩, fun k hk => ?_⟩
        · rcases hh with rfl | rfl
          · exact hn (.inl rfl)
          · rcases HBX.out with h | h
            · exact hn (.inr (.inr (.inl h)))
            · omega
        · injection hk with hk
          subst hk
          exact HBX.out
      | some BX =>
        have CXX : Hid (W2.heap[p]? = some (.cells #[vp, .map (some BX), vk, vc] 82 (0, 0))) := M2H.out.cells
        obtain ⟨WX, hWX⟩ : ∃ WX, W2 = WX := ⟨_, rfl⟩
        subst hWX
        have MBX : Hid (MapB kInt W2 BX n (outF st)) := by
          rcases M2H.out.outs with ⟨e, _⟩ | ⟨b, e, hm⟩
          · cases e
          · injection e with e; injection e with e; subst e; exact hm
        have C1 : ∀ d os, (grow (redrawn W2 d) os).cell? ⟨p, 1, none⟩ = some (.map (some BX)) := cell_regrown w1'
        have C0 := cell_regrown K2
        have LH := Lib.hid (load_hash_re OL.out L2.out (rc_block_lt_cell K2))
        have TXX : Hid (Turned (fun k => k = p ∨ k = BX) w W2) := Turned.of_below BW2.out
        have PB : Hid (BX ≠ p) := by
          intro e
          exact M2H.out.ne_p M2H.out.outs (by rw [e]; rfl)
        have HBX : Hid (mapBlk (.map (some BX)) = some BX ∨ w.heap.size ≤ BX) := .inl rfl
        go_wp2_with fail
        clear w1' fz K2
        refine wp_region_tail_below 8 (by kernel_rfl) (by kernel_rfl) ?_
        simp only [List.take_succ_cons, List.take_zero, List.drop_succ_cons, List.drop_zero]
        repeat (first
          | (refine quiet_load_row (by rfl) _ (.tmp 44) rfl _ _ rfl _ LH.out ?_; simp only [Act.put, List.setIfInBounds_toArray, List.set_cons_zero, List.set_cons_succ])
          | go_big_quiet_step (fail))
        refine wpQuiet_nil ?_
        intro _ hw'
        obtain ⟨⟨dq, osq⟩, hw''⟩ := hw'
        subst hw''
        have hq := below_regrown W2 dq osq
        have MB := Lib.hid (MBX.out.below hq)
        have CX := Lib.hid (heap_below CXX.out hq)
        have TX := Lib.hid (TXX.out.trans (Turned.of_below (F := fun _ => False) hq) (fun k f => f.elim))
        clear hq C1 C0
        generalize grow (redrawn W2 dq) osq = W5 at *
        go_wp2_with (refine wpList_putV rfl rfl (.tmp 41) (.tmp 43) (.tmp 45) rfl Tryz.underlying78 rfl MB.out rfl HI.out (by unfold maxLen; omega) (.agg (hashArr o.hash)) rfl ?_; intro w6 mb6 g6)
        have c6 := (g6.block p (rc_block_lt CX.out) (by intro e; injection e with e; exact PB.out e.symm)).trans CX.out
        have t6 : Turned (fun k => k = p ∨ k = BX) w w6 := TX.out.trans (Turned.of_grown (F := fun k => k = BX) g6 (fun k e => by injection e with e; exact e.symm)) (fun k hk => .inl (.inr hk))
        have M6 := mrg_out HM.out c6 mb6 t6 HBX.out HI.out OL.out
        go_wp2_with fail
        go_ret
        refine ⟨by rw [EL.out]; rfl, _, by rw [EL.out]; exact M6, ⟨t6.os, t6.tape, t6.output, t6.size, fun k hk hn => t6.block k hk (fun hh => ?_)⟩, fun k hk => ?_⟩
        · rcases hh with rfl | rfl
          · exact hn (.inl rfl)
          · rcases HBX.out with h | h
            · exact hn (.inr (.inr (.inl h)))
            · omega
        · injection hk with hk
          subst hk
          exact HBX.out
    · obtain ⟨x, ex⟩ : ∃ x, st.outs o.rd = some x := by
        have := EBB.out
        cases hx : st.outs o.rd with
        | none => rw [hx] at this; cases this
        | some x => exact ⟨x, rfl⟩
      have exh : x = hh := by have := EHH.out; rw [ex] at this; exact this
      subst exh
      have E1x := hash_eql x o.hash HL.out OL.out
      have el : st.learn o.rd o.hash = (st, if x = o.hash then 2 else 3) := by
        unfold Mst.learn; rw [if_neg (by have := H1.out; omega), ex]
      have FIN := Lib.hid (fun c => learned_same HM.out BW2.out c)
      obtain ⟨cc, hcc⟩ : ∃ cc, (x == o.hash) = cc := ⟨_, rfl⟩
      rw [hcc] at E1x
      have EL := Lib.hid el
      have HCC := Lib.hid hcc
      clear ex el hcc w1' fz K2
      cases cc
      · go_wp2_with (first
          | (refine wpList_load_h rfl (.tmp 5) rfl W0.heap.size 0 rfl HL.out G2.out ?_)
          | (refine wpList_load_h rfl (.tmp 26) rfl w.heap.size 35 rfl OL.out L2.out ?_))
        go_ret
        have e3 : st.learn o.rd o.hash = (st, 3) := by rw [EL.out, if_neg (by have := HCC.out; simpa using this)]
        rw [e3]
        exact FIN.out 3
      · go_wp2_with (first
          | (refine wpList_load_h rfl (.tmp 5) rfl W0.heap.size 0 rfl HL.out G2.out ?_)
          | (refine wpList_load_h rfl (.tmp 26) rfl w.heap.size 35 rfl OL.out L2.out ?_))
        go_ret
        have e3 : st.learn o.rd o.hash = (st, 2) := by rw [EL.out, if_pos (by have := HCC.out; simpa using this)]
        rw [e3]
        exact FIN.out 2
end Go.Proofs.YtpblfpnldbdncaaGreatDoor
namespace Go.Proofs.YtpblfpnldbdncaaGreatDoor
open Go.RowKit Go.Sort
open Sg (Rc)
open Mg (Jd)
set_option linter.unusedVariables false
set_option maxRecDepth 100000
theorem fold_put (off : Nat) : ∀ (l : List Value) (j : Nat) (cs : Array Value), (l.zipIdx j).foldl (fun cs (x : Value × Nat) => cs.setIfInBounds (off + x.2) x.1) cs = putCells cs (off + j) l
  | [], _, _ => rfl
  | v :: l, j, cs => by
    rw [List.zipIdx_cons, List.foldl_cons, fold_put off l (j + 1), putCells]
    rfl
theorem fill_step (place : Nat → Option (Nat × Nat)) (cells : Array Value) (i off size : Nat) (v : Value) (rest : List (Nat × Value)) (hp : place i = some (off, size)) (h1 : v.cells.size = size) (h2 : off + size ≤ cells.size) :
    Instr.fill place cells ((i, v) :: rest) = Instr.fill place (putCells cells off v.cells.toList) rest := by
  have := fold_put off v.cells.toList 0 cells
  rw [Nat.add_zero] at this
  rw [← this]
  conv => lhs; unfold Instr.fill
  simp only [hp]
  rw [if_neg (by simp; omega), ← Array.foldl_toList, Array.toList_zipIdx]
theorem run_build_pap {c : Rc} {h : List UInt8} (hc : RcOk c) (hl : h.length = 32) (w : World) : (Instr.build 105 #[(0, .agg (rcArr c)), (1, .agg (hashArr h))]).run Tryz.prog w = .ok (.agg (rcList c ++ hcl h).toArray) w := by
  obtain ⟨i0, hi, hz0, hz1, hz2⟩ := info_parts pap_infos
  have e1 : putCells pap0 0 (rcList c) = (rcList c ++ hcl Mg.zeroH).toArray := putCells_mid [] (rcList rc0) (hcl Mg.zeroH) (rcList c) (by rw [rcList_length hc, rcList_length rc0_ok]) 0 rfl
  have e2 : putCells (rcList c ++ hcl Mg.zeroH).toArray 102 (hcl h) = (rcList c ++ hcl h).toArray := by
    have := putCells_mid (rcList c) (hcl Mg.zeroH) [] (hcl h) (by rw [hcl_length, hcl_length, hl, zeroH_length]) 102 (rcList_length hc).symm
    simpa using this
  have hf : Instr.fill (fun i => ([(0, 102), (102, 32)] : List (Nat × Nat))[i]?) pap0 [(0, .agg (rcArr c)), (1, .agg (hashArr h))] = some (rcList c ++ hcl h).toArray := by
    refine Eq.trans (fill_step _ _ 0 0 102 _ _ ?_ ?_ ?_) ?_
    · rfl
    · exact (rcArr_size hc)
    · exact (by rw [pap0_size]; omega)
    rw [show (Value.agg (rcArr c)).cells.toList = rcList c from rcArr_list c, e1]
    refine Eq.trans (fill_step _ _ 1 102 32 _ _ ?_ ?_ ?_) ?_
    · rfl
    · exact (by show (hashArr h).size = 32; rw [hashArr_size, hl])
    · exact (by rw [List.size_toArray, List.length_append, rcList_length hc, hcl_length, zeroH_length]; omega)
    rw [show (Value.agg (hashArr h)).cells.toList = hcl h from hashArr_list h, e2]
    rfl
  simp [Instr.build, zeroValue, typeInfo, hi, hz0, run_underlying Tryz.underlying105, Tryz.sizeOf31, Tryz.sizeOf27, Result.andThen, Value.cells, hf]
theorem run_build_papc {c : Rc} (hc : RcOk c) (w : World) : (Instr.build 105 #[(0, .agg (rcArr c)), (1, .agg (hashArr (rch c)))]).run Tryz.prog w = .ok (.agg (papArr c)) w := run_build_pap hc (rch_length c) w
theorem run_build_pair {a b : Rc} (ha : RcOk a) (hb : RcOk b) (w : World) : (Instr.build 109 #[(0, .agg (rcArr a)), (1, .agg (rcArr b))]).run Tryz.prog w = .ok (.agg (pairArr a b)) w := by
  obtain ⟨i0, hi, hz0, hz1, hz2⟩ := info_parts pair_infos
  have e1 : putCells (pairArr rc0 rc0) 0 (rcList a) = (rcList a ++ rcList rc0).toArray := putCells_mid [] (rcList rc0) (rcList rc0) (rcList a) (by rw [rcList_length ha, rcList_length rc0_ok]) 0 rfl
  have e2 : putCells (rcList a ++ rcList rc0).toArray 102 (rcList b) = (rcList a ++ rcList b).toArray := by
    have := putCells_mid (rcList a) (rcList rc0) [] (rcList b) (by rw [rcList_length hb, rcList_length rc0_ok]) 102 (rcList_length ha).symm
    simpa using this
  have hf : Instr.fill (fun i => some (i * 102, 102)) (pairArr rc0 rc0) [(0, .agg (rcArr a)), (1, .agg (rcArr b))] = some (pairArr a b) := by
    refine Eq.trans (fill_step _ _ 0 0 102 _ _ ?_ ?_ ?_) ?_
    · rfl
    · exact (rcArr_size ha)
    · exact (by rw [pairArr_size rc0_ok rc0_ok]; omega)
    rw [show (Value.agg (rcArr a)).cells.toList = rcList a from rcArr_list a, e1]
    refine Eq.trans (fill_step _ _ 1 102 102 _ _ ?_ ?_ ?_) ?_
    · rfl
    · exact (rcArr_size hb)
    · exact (by rw [List.size_toArray, List.length_append, rcList_length ha, rcList_length rc0_ok]; omega)
    rw [show (Value.agg (rcArr b)).cells.toList = rcList b from rcArr_list b, e2]
    rfl
  simp [Instr.build, zeroValue, typeInfo, hi, hz0, run_underlying Tryz.underlying109, Tryz.sizeOf31, Result.andThen, Value.cells, hf]
theorem run_build_jd {c : Rc} (hc : RcOk c) (w : World) : (Instr.build 107 #[(0, .agg (papArr c))]).run Tryz.prog w = .ok (.agg (jdArr ⟨c, rch c, false, false, false⟩)) w := by
  obtain ⟨i0, hi, hz0, hz1, hz2⟩ := info_parts jd_infos
  have e0 : jdArr jd0 = ([] ++ ((rcList rc0 ++ hcl Mg.zeroH) ++ [Value.bool false, Value.bool false, Value.bool false])).toArray := by
    unfold jdArr jdList
    rw [List.nil_append, List.append_assoc]
    rfl
  have e1 : putCells (jdArr jd0) 0 (papList c) = jdArr ⟨c, rch c, false, false, false⟩ := by
    rw [e0, putCells_mid [] (rcList rc0 ++ hcl Mg.zeroH) [.bool false, .bool false, .bool false] (papList c) (by rw [papList_length hc, List.length_append, rcList_length rc0_ok, hcl_length, zeroH_length]) 0 rfl]
    unfold jdArr jdList papList
    rw [List.nil_append, List.append_assoc]
    rfl
  have hf : Instr.fill (fun i => ([(0, 134), (134, 1), (135, 1), (136, 1)] : List (Nat × Nat))[i]?) (jdArr jd0) [(0, .agg (papArr c))] = some (jdArr ⟨c, rch c, false, false, false⟩) := by
    refine Eq.trans (fill_step _ _ 0 0 134 _ _ ?_ ?_ ?_) ?_
    · rfl
    · exact (papArr_size hc)
    · exact (by rw [jdArr_size jd0_ok]; omega)
    rw [show (Value.agg (papArr c)).cells.toList = papList c by simp [papArr, Value.cells], e1]
    rfl
  simp [Instr.build, zeroValue, typeInfo, hi, hz0, run_underlying Tryz.underlying107, Tryz.sizeOf105, Tryz.sizeOf4, Result.andThen, Value.cells, hf]
theorem putCells_one (pre post : List Value) (a v : Value) (o : Nat) (ho : o = pre.length) : putCells (pre ++ a :: post).toArray o [v] = (pre ++ v :: post).toArray := putCells_mid pre [a] post [v] rfl o ho
/-- 'api.Receipt{Kiosk: .., Serial: .., Draw: .., Seen: .., Prev: ..}' -/
theorem run_build_rc (k s n : Int) (d : List UInt8) {pv : List UInt8} (hl : pv.length = 32) (w : World) :
    (Instr.build 31 #[(0, .int .i64 k), (1, .int .i64 s), (2, .string (bstr d)), (3, .int .i64 n), (6, .agg (hashArr pv))]).run Tryz.prog w = .ok (.agg (rcArr ⟨k, s, d, n, Mg.zeroH, Mg.zeroH, pv, 0, 0⟩)) w := by
  obtain ⟨i0, hi, hz0, hz1, hz2⟩ := info_parts rc_infos
  have z : ∀ {l : List Value}, l.length = 102 → l.toArray.size = 102 := fun h => by rw [List.size_toArray, h]
  have l0 : ∀ (a b c d : Value) , ([a, b, c, d] ++ (hcl Mg.zeroH ++ (hcl Mg.zeroH ++ (hcl Mg.zeroH ++ [Value.int .i64 0, Value.int .i64 0])))).length = 102 := by
    intro a b c d
    simp only [List.length_append, hcl_length, zeroH_length, List.length_cons, List.length_nil]
  have hf : Instr.fill (fun i => ([(0, 1), (1, 1), (2, 1), (3, 1), (4, 32), (36, 32), (68, 32), (100, 2)] : List (Nat × Nat))[i]?) (rcArr rc0) [(0, .int .i64 k), (1, .int .i64 s), (2, .string (bstr d)), (3, .int .i64 n), (6, .agg (hashArr pv))] = some (rcArr ⟨k, s, d, n, Mg.zeroH, Mg.zeroH, pv, 0, 0⟩) := by
    refine Eq.trans (fill_step _ _ 0 0 1 _ _ ?_ ?_ ?_) ?_
    · rfl
    · exact rfl
    · exact (by rw [rcArr_size rc0_ok]; omega)
    rw [show putCells (rcArr rc0) 0 (Value.int .i64 k).cells.toList = ([Value.int .i64 k, .int .i64 0, .string (bstr []), .int .i64 0] ++ (hcl Mg.zeroH ++ (hcl Mg.zeroH ++ (hcl Mg.zeroH ++ [Value.int .i64 0, Value.int .i64 0])))).toArray from rfl]
    refine Eq.trans (fill_step _ _ 1 1 1 _ _ ?_ ?_ ?_) ?_
    · rfl
    · exact rfl
    · exact (by rw [z (l0 _ _ _ _)]; omega)
    rw [show putCells ([Value.int .i64 k, .int .i64 0, .string (bstr []), .int .i64 0] ++ (hcl Mg.zeroH ++ (hcl Mg.zeroH ++ (hcl Mg.zeroH ++ [Value.int .i64 0, Value.int .i64 0])))).toArray 1 (Value.int .i64 s).cells.toList = ([Value.int .i64 k, .int .i64 s, .string (bstr []), .int .i64 0] ++ (hcl Mg.zeroH ++ (hcl Mg.zeroH ++ (hcl Mg.zeroH ++ [Value.int .i64 0, Value.int .i64 0])))).toArray from rfl]
    refine Eq.trans (fill_step _ _ 2 2 1 _ _ ?_ ?_ ?_) ?_
    · rfl
    · exact rfl
    · exact (by rw [z (l0 _ _ _ _)]; omega)
    rw [show putCells ([Value.int .i64 k, .int .i64 s, .string (bstr []), .int .i64 0] ++ (hcl Mg.zeroH ++ (hcl Mg.zeroH ++ (hcl Mg.zeroH ++ [Value.int .i64 0, Value.int .i64 0])))).toArray 2 (Value.string (bstr d)).cells.toList = ([Value.int .i64 k, .int .i64 s, .string (bstr d), .int .i64 0] ++ (hcl Mg.zeroH ++ (hcl Mg.zeroH ++ (hcl Mg.zeroH ++ [Value.int .i64 0, Value.int .i64 0])))).toArray from rfl]
    refine Eq.trans (fill_step _ _ 3 3 1 _ _ ?_ ?_ ?_) ?_
    · rfl
    · exact rfl
    · exact (by rw [z (l0 _ _ _ _)]; omega)
    rw [show putCells ([Value.int .i64 k, .int .i64 s, .string (bstr d), .int .i64 0] ++ (hcl Mg.zeroH ++ (hcl Mg.zeroH ++ (hcl Mg.zeroH ++ [Value.int .i64 0, Value.int .i64 0])))).toArray 3 (Value.int .i64 n).cells.toList = ([Value.int .i64 k, .int .i64 s, .string (bstr d), .int .i64 n] ++ (hcl Mg.zeroH ++ (hcl Mg.zeroH ++ (hcl Mg.zeroH ++ [Value.int .i64 0, Value.int .i64 0])))).toArray from rfl]
    refine Eq.trans (fill_step _ _ 6 68 32 _ _ ?_ ?_ ?_) ?_
    · rfl
    · exact (by show (hashArr pv).size = 32; rw [hashArr_size, hl])
    · exact (by rw [z (l0 _ _ _ _)]; omega)
    rw [show (Value.agg (hashArr pv)).cells.toList = hcl pv from hashArr_list pv]
    have := putCells_mid ([Value.int .i64 k, .int .i64 s, .string (bstr d), .int .i64 n] ++ (hcl Mg.zeroH ++ hcl Mg.zeroH)) (hcl Mg.zeroH) [Value.int .i64 0, Value.int .i64 0] (hcl pv) (by rw [hcl_length, hcl_length, hl, zeroH_length]) 68 (by simp only [List.length_append, hcl_length, zeroH_length, List.length_cons, List.length_nil])
    simp only [List.append_assoc] at this
    rw [this]
    rfl
  simp [Instr.build, zeroValue, typeInfo, hi, hz0, run_underlying Tryz.underlying31, Tryz.sizeOf3, Tryz.sizeOf9, Tryz.sizeOf29, Tryz.sizeOf27, Result.andThen, Value.cells, hf]
/-- a literal, in a region whose operations are quiet -/
theorem quiet_build {P : Program} {ops : Array Oper} {C : World → Prop} {Q : Act → Prop} {a : Act} {o : Oper} {rest : List Oper} (hw : Region.wanted o (yielded ops a.tmps) = true) (t : TypeId) (parts : Array (Nat × Operand)) (ho : o.op = .build t parts) (vals : Array (Nat × Value)) (hv : parts.map (fun (x : Nat × Operand) => (x.1, a.eval x.2)) = vals) (v : Value)
    (hl : ∀ w, (Instr.build t vals).run P w = .ok v w) (h : wpQuiet P ops C Q rest (a.put o.dst v)) : wpQuiet P ops C Q (o :: rest) a :=
  BigFrame.wpQuiet_want hw fun K hK => ⟨v, fun w hC => by
    unfold Oper.quietAt execOp
    simp only [ho, Sem.run_bind, Sem.run_pure]
    rw [show (parts.map fun x => (x.1, a.eval x.2)) = vals from hv, hl w]
    exact ⟨rfl, rfl⟩, hK _ h⟩
end Go.Proofs.YtpblfpnldbdncaaGreatDoor
namespace Go.Proofs.YtpblfpnldbdncaaGreatDoor
open Go.RowKit Go.Sort Go.Maps
open Sg (Rc)
open Mg (Mst)
set_option linter.unusedVariables false
set_option maxRecDepth 100000
attribute [local go_sem ↓] wp_alloc_pap wp_alloc_pair wp_store_pap wp_store_pair
theorem load_pl_at {w : World} {b o : Nat} {x y : Int} (h0 : w.cell? ⟨b, o, none⟩ = some (.int .i64 x)) (h1 : w.cell? ⟨b, o + 1, none⟩ = some (.int .i64 y)) : (loadVar 149 ⟨b, o, none⟩).run Tryz.prog w = .ok (.agg #[.int .i64 x, .int .i64 y]) w :=
  run_loadVar_mid w b o 149 [.int .i64 x, .int .i64 y] _ (fun j v hv => by
    match j, hv with
    | 0, hv => injection hv with hv; subst hv; exact h0
    | 1, hv => injection hv with hv; subst hv; exact h1
    | j + 2, hv => simp at hv) Tryz.underlying149 rfl (by kernel_rfl)
theorem load_pl_re {w : World} {b o : Nat} {x y : Int} (h0 : w.cell? ⟨b, o, none⟩ = some (.int .i64 x)) (h1 : w.cell? ⟨b, o + 1, none⟩ = some (.int .i64 y)) (hb : b < w.heap.size) : ∀ w', (∃ p : Regrown, w' = grow (redrawn w p.d) p.os) → (loadVar 149 ⟨b, o, none⟩).run Tryz.prog w' = .ok (.agg #[.int .i64 x, .int .i64 y]) w' := by
  rintro w' ⟨p, rfl⟩
  exact load_pl_at (((below_regrown w p.d p.os).cell (p := ⟨b, o, none⟩) hb).trans h0) (((below_regrown w p.d p.os).cell (p := ⟨b, o + 1, none⟩) hb).trans h1)
theorem MrgAt.lookKept {w W : World} {p : Nat} {vp vo vk vc : Value} {st : Mst} {n : Nat} (h : MrgAt w p vp vo vk vc st n) (hb : Below w.heap.size w W) {k s : Int} (hk : I64 k) (hs : I64 s) :
    (Instr.lookup 79 vk (.agg #[.int .i64 k, .int .i64 s]) true).run Tryz.prog W = .ok (.tuple #[((st.kept k s).map fun c => Value.agg (papArr c)).getD (.agg pap0), .bool (st.kept k s).isSome]) W := by
  have := (h.kept.below hb).look_ok Tryz.underlying79 (pap_zero W) (x := (k, s)) ⟨hk, hs⟩
  have e2 : (keptF st (k, s)).isSome = (st.kept k s).isSome := by unfold keptF; cases st.kept k s <;> rfl
  rw [e2] at this
  exact this
theorem MrgAt.lookClone {w W : World} {p : Nat} {vp vo vk vc : Value} {st : Mst} {n : Nat} (h : MrgAt w p vp vo vk vc st n) (hb : Below w.heap.size w W) {k : Int} (hk : I64 k) :
    (Instr.lookup 80 vc (.int .i64 k) true).run Tryz.prog W = .ok (.tuple #[((st.clones k).map fun x => Value.agg (pairArr x.1 x.2)).getD (.agg (pairArr rc0 rc0)), .bool (st.clones k).isSome]) W := by
  have := (h.clones.below hb).look_ok Tryz.underlying80 (pair_zero W) (x := k) hk
  have e2 : (cloneF st k).isSome = (st.clones k).isSome := by unfold cloneF; cases st.clones k <;> rfl
  rw [e2] at this
  exact this
theorem kept_row {st : Mst} (h : StOk st) (k s : Int) : ∃ cs, ((st.kept k s).map fun c => Value.agg (papArr c)).getD (.agg pap0) = .agg cs ∧ cs.size = 134 ∧ cs.all (·.oneCell') = true := by
  cases hk : st.kept k s with
  | none => exact ⟨pap0, rfl, pap0_size, by decide +kernel⟩
  | some c => exact ⟨papArr c, rfl, papArr_size (h.kept k s c hk).1, papArr_one c⟩
theorem clone_row {st : Mst} (h : StOk st) (k : Int) : ∃ cs, ((st.clones k).map fun x => Value.agg (pairArr x.1 x.2)).getD (.agg (pairArr rc0 rc0)) = .agg cs ∧ cs.size = 204 ∧ cs.all (·.oneCell') = true := by
  cases hk : st.clones k with
  | none => exact ⟨pairArr rc0 rc0, rfl, pairArr_size rc0_ok rc0_ok, pairArr_one _ _⟩
  | some x => exact ⟨pairArr x.1 x.2, rfl, pairArr_size (h.clones k x hk).2.1 (h.clones k x hk).2.2, pairArr_one _ _⟩
/-- what stands outside of the call: tables of the library -/
def Env (w : World) : Prop := Pow10 w ∧ Tabs w
theorem Env.below {w w' : World} (h : Env w) (hb : Below w.heap.size w w') : Env w' := ⟨h.1.below hb, h.2.below hb⟩
theorem turned_two {F : Nat → Prop} {w w' : World} {p b : Nat} (h : Turned (fun k => k = p ∨ k = b) w w') (hp : F p) (hb : F b ∨ w.heap.size ≤ b) : Turned F w w' :=
  ⟨h.os, h.tape, h.output, h.size, fun k hk hn => h.block k hk (fun hh => by
    rcases hh with rfl | rfl
    · exact hn hp
    · rcases hb with hb | hb
      · exact hn hb
      · omega)⟩
theorem pap_at {w : World} {b : Nat} {c : Rc} {t : TypeId} {fr : Nat × Nat} (h : w.heap[b]? = some (.cells (papArr c) t fr)) : RcAt w b 0 c := by
  intro j v hv
  rw [Nat.zero_add, cell_of_row _ _ _ _ _ _ h, papArr, List.getElem?_toArray, papList, List.getElem?_append_left (List.getElem?_eq_some_iff.1 hv).1]
  exact hv
/-- what a call of keep leaves -/
def KeptBy (p : Nat) (vp vo vk vc : Value) (r : Mst × Bool) (n : Nat) (w : World) (e : Ending) (w' : World) : Prop :=
  e = .returned (.bool r.2) ∧ ∃ vk' vc', MrgAt w' p vp vo vk' vc' r.1 (n + 1) ∧ Turned (FootM p vp vo vk vc) w w' ∧ (∀ k, mapBlk vk' = some k → mapBlk vk = some k ∨ w.heap.size ≤ k) ∧ ∀ k, mapBlk vc' = some k → mapBlk vc = some k ∨ w.heap.size ≤ k
theorem kept_same {p : Nat} {vp vo vk vc : Value} {st : Mst} {n : Nat} {w w' : World} (h : MrgAt w p vp vo vk vc st n) (hb : Below w.heap.size w w') (c : Bool) : KeptBy p vp vo vk vc (st, c) n w (.returned (.bool c)) w' :=
  ⟨rfl, vk, vc, (h.below hb).mono (Nat.le_succ _), Turned.of_below hb, fun k hk => .inl hk, fun k hk => .inl hk⟩
theorem ne_new {w : World} {v vo : Value} {b : Nat} (h1 : NeB v vo) (h2 : ∀ k, mapBlk v = some k → k < w.heap.size) (hb : mapBlk vo = some b ∨ w.heap.size ≤ b) : NeB v (.map (some b)) := by
  intro k hk e
  injection e with e
  subst e
  rcases hb with hb | hb
  · exact h1 b hk hb
  · have := h2 b hk; omega
theorem ne_two {v : Value} {p b : Nat} (h1 : NeB v (.map (some b))) (h2 : mapBlk v ≠ some p) : ∀ k, mapBlk v = some k → ¬ (k = p ∨ k = b) := by
  intro k hk hh
  rcases hh with rfl | rfl
  · exact h2 hk
  · exact h1 k hk rfl
/-- a merge behind a store into its map of receipts -/
theorem mrg_kept {w w' : World} {p : Nat} {vp vo vk vc : Value} {st : Mst} {n b : Nat} (h : MrgAt w p vp vo vk vc st n) {c : Rc} (hc : RcOk c) (h1 : 1 ≤ c.serial)
    (hcells : w'.heap[p]? = some (.cells #[vp, vo, .map (some b), vc] 82 (0, 0))) (hmap : MapB kPl w' b (n + 1) (upd (keptF st) (c.kiosk, c.serial) (.agg (papArr c)))) (ht : Turned (fun k => k = p ∨ k = b) w w')
    (hb : mapBlk vk = some b ∨ w.heap.size ≤ b) : MrgAt w' p vp vo (.map (some b)) vc { st with kept := fun k s => if k = c.kiosk ∧ s = c.serial then some c else st.kept k s } (n + 1) := by
  have n1 := ne_new h.pk h.pub.lt hb
  have n2 := ne_new h.ok' h.outs.lt hb
  have n3 := ne_new h.kc.symm h.clones.lt hb
  refine ⟨hcells, (mapIs_turned h.pub ht (ne_two n1 (h.ne_p h.pub))).mono (Nat.le_succ _), (mapIs_turned h.outs ht (ne_two n2 (h.ne_p h.outs))).mono (Nat.le_succ _), ?_, (mapIs_turned h.clones ht (ne_two n3 (h.ne_p h.clones))).mono (Nat.le_succ _), h.po, n1, h.pc, n2, h.oc, n3.symm, ?_⟩
  · refine .inr ⟨b, rfl, hmap.congr fun x _ => ?_⟩
    obtain ⟨k, s⟩ := x
    unfold upd keptF
    by_cases e : k = c.kiosk ∧ s = c.serial
    · rw [if_pos (by rw [e.1, e.2])]
      show _ = Option.map _ (if k = c.kiosk ∧ s = c.serial then some c else st.kept k s)
      rw [if_pos e]; rfl
    · rw [if_neg (by intro h; injection h with h1 h2; exact e ⟨h1, h2⟩)]
      show _ = Option.map _ (if k = c.kiosk ∧ s = c.serial then some c else st.kept k s)
      rw [if_neg e]
  · refine ⟨h.ok.pub, h.ok.outs, fun k s x hx => ?_, fun k s x hx => ?_, h.ok.clones⟩
    all_goals simp only at hx
    · by_cases e : k = c.kiosk ∧ s = c.serial
      · rw [if_pos e] at hx
        injection hx with hx
        subst hx
        exact ⟨hc, e.1.symm, e.2.symm⟩
      · rw [if_neg e] at hx
        exact h.ok.kept k s x hx
    · by_cases e : k = c.kiosk ∧ s = c.serial
      · rw [e.2]; exact h1
      · rw [if_neg e] at hx
        exact h.ok.low k s x hx
theorem mrg_clone {w w' : World} {p : Nat} {vp vo vk vc : Value} {st : Mst} {n b : Nat} (h : MrgAt w p vp vo vk vc st n) {a c : Rc} (ha : RcOk a) (hc : RcOk c)
    (hcells : w'.heap[p]? = some (.cells #[vp, vo, vk, .map (some b)] 82 (0, 0))) (hmap : MapB kInt w' b (n + 1) (upd (cloneF st) c.kiosk (.agg (pairArr a c)))) (ht : Turned (fun k => k = p ∨ k = b) w w')
    (hb : mapBlk vc = some b ∨ w.heap.size ≤ b) : MrgAt w' p vp vo vk (.map (some b)) { st with clones := fun k => if k = c.kiosk then some (a, c) else st.clones k } (n + 1) := by
  have n1 := ne_new h.pc h.pub.lt hb
  have n2 := ne_new h.oc h.outs.lt hb
  have n3 := ne_new h.kc h.kept.lt hb
  refine ⟨hcells, (mapIs_turned h.pub ht (ne_two n1 (h.ne_p h.pub))).mono (Nat.le_succ _), (mapIs_turned h.outs ht (ne_two n2 (h.ne_p h.outs))).mono (Nat.le_succ _), (mapIs_turned h.kept ht (ne_two n3 (h.ne_p h.kept))).mono (Nat.le_succ _), ?_, h.po, h.pk, n1, h.ok', n2, n3, ?_⟩
  · refine .inr ⟨b, rfl, ?_⟩
    have e := upd_opt st.clones (fun x => Value.agg (pairArr x.1 x.2)) c.kiosk (a, c)
    have e2 : upd (cloneF st) c.kiosk (.agg (pairArr a c)) = cloneF { st with clones := fun k => if k = c.kiosk then some (a, c) else st.clones k } := e
    rw [← e2]
    exact hmap
  · refine ⟨h.ok.pub, h.ok.outs, h.ok.kept, h.ok.low, fun k x hx => ?_⟩
    simp only at hx
    by_cases e : k = c.kiosk
    · rw [if_pos e] at hx
      injection hx with hx
      subst hx e
      exact ⟨hc.kiosk, ha, hc⟩
    · rw [if_neg e] at hx
      exact h.ok.clones k x hx
set_option maxHeartbeats 8000000 in
theorem keep_new {w : World} {p : Nat} {vp vo vk vc : Value} {st : Mst} {n : Nat} (h : MrgAt w p vp vo vk vc st n) (c : Rc) (hc : RcOk c) (h1 : 1 ≤ c.serial) (hn : n ≤ 100000) (hE : ∀ W, Turned (FootM p vp vo vk vc) w W → Env W) (hk : st.kept c.kiosk c.serial = none) :
    Calls Tryz.prog 42 #[.pointer (some ⟨p, 0, none⟩), .agg (rcArr c)] w (KeptBy p vp vo vk vc (st.keep c) n w) := by
  have hb0 : Below w.heap.size w ((w.alloc (.cells (rcArr c) 31)).alloc (.cells #[.int .i64 c.kiosk, .int .i64 c.serial] 149)) := ((Below.refl _ _).alloc (Nat.le_refl _) _).alloc (by simp) _
  have RW := heap_alloc2_old w (.cells (rcArr c) 31) (.cells #[.int .i64 c.kiosk, .int .i64 c.serial] 149)
  have RP := heap_alloc2_new w (.cells (rcArr c) 31) (.cells #[.int .i64 c.kiosk, .int .i64 c.serial] 149)
  have RL := heap_alloc_new w (.cells (rcArr c) 31)
  have q0 := (RcAt.of_row RL).kiosk
  have q1 := (RcAt.of_row RL).serial
  rw [Nat.zero_add] at q1
  have HM := Lib.hid h
  obtain ⟨W0, hW⟩ : ∃ W0, (w.alloc (.cells (rcArr c) 31)).alloc (.cells #[.int .i64 c.kiosk, .int .i64 c.serial] 149) = W0 := ⟨_, rfl⟩
  have HW := Lib.hid hW
  rw [hW] at hb0 RW RP
  have HB0 := Lib.hid hb0
  have at0 := RcAt.of_row RW
  have HA0 := Lib.hid at0
  have HK := Lib.hid hc
  have H1 := Lib.hid h1
  have lt0 := rc_block_lt RW
  have p0 : W0.cell? ⟨w.heap.size + 1, 0, none⟩ = some (.int .i64 c.kiosk) := (cell_of_row _ _ 0 _ _ _ RP).trans rfl
  have p1 : W0.cell? ⟨w.heap.size + 1, 1, none⟩ = some (.int .i64 c.serial) := (cell_of_row _ _ 1 _ _ _ RP).trans rfl
  have P0 := Lib.hid p0
  have P1 := Lib.hid p1
  have M0 := h.below hb0
  obtain ⟨v0, v1, v2, v3⟩ := M0.vals
  obtain ⟨Z, hZ⟩ : ∃ Z, W0.alloc (.cells pap0 105) = Z := ⟨_, rfl⟩
  have bz : Below W0.heap.size W0 Z := by rw [← hZ]; exact (Below.refl _ _).alloc (Nat.le_refl _) _
  have y2 := (bz.cell (p := ⟨p, 2, none⟩) (rc_block_lt M0.cells)).trans v2
  have y3 := (bz.cell (p := ⟨w.heap.size + 1, 0, none⟩) (rc_block_lt_cell p0)).trans p0
  have y4 := (bz.cell (p := ⟨w.heap.size + 1, 1, none⟩) (rc_block_lt_cell p0)).trans p1
  obtain ⟨cs, ecs, zcs, ocs⟩ := kept_row h.ok c.kiosk c.serial
  have a0 := isRowAt (n := 134) pap0_size (show Z.drew.heap[W0.heap.size]? = _ by rw [← hZ]; exact heap_alloc_new W0 (.cells pap0 105))
  have a1 := isRow zcs ocs
  have e1 : blockOf (.pointer (some ⟨W0.heap.size, 0, none⟩)) = W0.heap.size := rfl
  have lk1 := M0.lookKept (Below.refl W0.heap.size W0).drew hc.kiosk hc.serial
  have lk2 := M0.lookKept bz.drew hc.kiosk hc.serial
  obtain ⟨bb, ebb⟩ : ∃ bb, (st.kept c.kiosk c.serial).isSome = bb := ⟨_, rfl⟩
  rw [ecs, ebb] at lk1 lk2
  have ECS := Lib.hid ecs
  have EBB := Lib.hid ebb
  have HE := Lib.hid hE
  have ZCS := Lib.hid zcs
  rw [← hZ] at y2 y3 y4 a0 lk2
  have el : st.keep c = ({ st with kept := fun k s => if k = c.kiosk ∧ s = c.serial then some c else st.kept k s }, true) := by unfold Mst.keep; rw [hk]
  have EL := Lib.hid el
  rw [hk] at ebb
  have eb : bb = false := ebb.symm
  have NP0 := Lib.hid (show w.heap.size ≠ p from fun e => by have := h.lt p (.inl rfl); omega)
  have NP1 := Lib.hid (show w.heap.size + 1 ≠ p from fun e => by have := h.lt p (.inl rfl); omega)
  have RC0 := Lib.hid RW
  have RP0 := Lib.hid RP
  subst eb
  clear hk el
  clear v0 v1 v3 hZ bz h hb0 RW RP RL at0 hW ecs ebb M0 hE hc h1 zcs ocs
  go_enter Tryz.func42, Tryz.ntmps42
  go_wp2_with fail
  rw [HW.out]
  clear q0 q1
  go_region
  have BD : Below W0.heap.size W0 (W0.alloc (.cells pap0 105)).drew := ((Below.refl _ _).alloc (Nat.le_refl _) _).drew
  have B2 := Lib.hid (below_setRow BD (Nat.le_refl _) cs)
  have RZ := heap_alloc_new W0 (.cells pap0 105)
  have R2 := Lib.hid (setRow_heap (W0.alloc (.cells pap0 105)).drew W0.heap.size pap0 cs _ _ RZ)
  generalize (W0.alloc (.cells pap0 105)).drew.setRow W0.heap.size cs = W2 at *
  have A2 := HA0.out.below lt0 B2.out
  have A2H := Lib.hid A2
  have BW2 := Lib.hid (HB0.out.trans (B2.out.mono HB0.out.size))
  have M2 := HM.out.below BW2.out
  have M2H := Lib.hid M2
  obtain ⟨w0', w1', w2', w3'⟩ := M2.vals
  have lt2 := Nat.lt_of_lt_of_le lt0 B2.out.size
  have LT2 := Lib.hid lt2
  have LTP := Lib.hid (rc_block_lt_cell P0.out)
  have g0 := (B2.out.cell (p := ⟨w.heap.size + 1, 0, none⟩) LTP.out).trans P0.out
  have g1 := (B2.out.cell (p := ⟨w.heap.size + 1, 1, none⟩) LTP.out).trans P1.out
  clear BD RZ y2 y3 y4 a0 a1 lk1 lk2 v2 w0' w1' M2 lt0 lt2 A2 p0 p1
  have RC2 := Lib.hid (heap_below RC0.out B2.out)
  have RP2 := Lib.hid (heap_below RP0.out B2.out)
  clear g0 g1 w3'
  have fz := M2H.out.frozen 2
  have qn : ∀ (W : World) (r : Option Nat), (binOp .eql 79 (.map r) (.map none)).run Tryz.prog W = .ok (.bool r.isNone) W := fun W r => run_eql_map_nil W _ _ _ r Tryz.underlying79
  have hmm := @run_makeMap Tryz.prog
  obtain ⟨ob, rfl⟩ := HM.out.kept.shape
  cases ob with
  | none =>
        have lp : p < W2.heap.size := rc_block_lt M2H.out.cells
        have b3 : Below W2.heap.size W2 (W2.alloc (.map #[] 0)) := (Below.refl _ _).alloc (Nat.le_refl _) _
        have x1 := (b3.cell (p := ⟨p, 2, none⟩) lp).trans w2'
        have xf : (W2.alloc (.map #[] 0)).frozen? ⟨p, 2, none⟩ = false := (b3.frozen (p := ⟨p, 2, none⟩) lp).trans fz
        have c3 := heap_below M2H.out.cells b3
        have mb3 := MapB.made kPl W2
        obtain ⟨WX, hWX⟩ : ∃ WX, (W2.alloc (.map #[] 0)).setCell ⟨p, 2, none⟩ (.map (some W2.heap.size)) = WX := ⟨_, rfl⟩
        have gX := grownBy_setCellP (W2.alloc (.map #[] 0)) p 2 (.map (some W2.heap.size))
        rw [hWX] at gX
        have cX := heap_setCell_at (o := 2) c3 (.map (some W2.heap.size))
        rw [hWX] at cX
        obtain ⟨BX, hBX⟩ : ∃ BX, W2.heap.size = BX := ⟨_, rfl⟩
        have CXX : Hid (WX.heap[p]? = some (.cells #[vp, vo, .map (some BX), vc] 82 (0, 0))) := by rw [← hBX]; exact cX
        have nb : W2.heap.size ≠ p := by omega
        have MBX : Hid (MapB kPl WX BX n (keptF st)) := by
          rw [← hBX]
          refine ((mb3.kept gX (by intro e; injection e with e; exact nb e)).mono (Nat.zero_le _)).congr (fun x hx => ?_)
          rcases HM.out.kept with ⟨_, h0⟩ | ⟨b, e, _⟩
          · exact (h0 x hx).symm
          · cases e
        have keepB : ∀ b (x : Obj), b ≠ p → W2.heap[b]? = some x → WX.heap[b]? = some x := fun b x hb hx =>
          (gX.block b (by have := rc_block_lt hx; simp; omega) (by intro e; injection e with e; exact hb e)).trans (heap_below hx b3)
        have TXX : Hid (Turned (fun k => k = p ∨ k = BX) w WX) := ((Turned.of_below (F := fun k => k = p ∨ k = BX) (BW2.out.trans (b3.mono BW2.out.size))).trans (Turned.of_grown (F := fun k => k = p) gX (fun k e => by injection e with e; exact e.symm)) (fun k hk => .inl (.inl hk)))
        have PB : Hid (BX ≠ p) := by rw [← hBX]; exact nb
        have HBX : Hid (mapBlk (.map none) = some BX ∨ w.heap.size ≤ BX) := .inr (by rw [← hBX]; exact BW2.out.size)
        have KB := Lib.hid keepB
        have HWX := Lib.hid hWX
        have CF : ∀ d os, (grow (redrawn WX d) os).cell? ⟨p, 2, none⟩ = some (.map (some BX)) := cell_regrown ((cell_of_row _ _ 2 _ _ _ CXX.out).trans rfl)
        have TF : Hid (∀ W, Below WX.heap.size WX W → Env W) := fun W hb => HE.out W ((turned_two TXX.out (.inl rfl) (by rcases HBX.out with h | h; exact .inl (.inr (.inr (.inr (.inl h)))); exact .inr h)).trans (Turned.of_below (F := fun _ => False) hb) (fun k f => f.elim))
        have RXX : Hid (WX.heap[w.heap.size]? = some (.cells (rcArr c) 31 (0, 0))) := KB.out _ _ NP0.out RC2.out
        have RPX : Hid (WX.heap[w.heap.size + 1]? = some (.cells #[.int .i64 c.kiosk, .int .i64 c.serial] 149 (0, 0))) := KB.out _ _ NP1.out RP2.out
        have LR := Lib.hid (load_rc_re HK.out (RcAt.of_row RXX.out) (rc_block_lt RXX.out))
        have LP := Lib.hid (load_pl_re ((cell_of_row _ _ 0 _ _ _ RPX.out).trans rfl) ((cell_of_row _ _ 1 _ _ _ RPX.out).trans rfl) (rc_block_lt RPX.out))
        have CH := Lib.hid (fun W (hb : Below WX.heap.size WX W) => ehash_any c HK.out W (TF.out W hb).1 (TF.out W hb).2)
        have BE := Lib.hid (run_build_papc HK.out)
        clear b3 c3 mb3 gX cX nb lp hWX hBX keepB
        go_wp2_with fail
        rw [HWX.out]
        clear x1 xf w2' fz
        refine wp_region_tail_below 9 (by kernel_rfl) (by kernel_rfl) ?_
        simp only [List.take_succ_cons, List.take_zero, List.drop_succ_cons, List.drop_zero]
        repeat (first
          | (refine quiet_load_row (by rfl) _ (.tmp 5) rfl _ _ rfl _ LP.out ?_; simp only [Act.put, List.setIfInBounds_toArray, List.set_cons_zero, List.set_cons_succ])
          | (refine quiet_load_row (by rfl) _ (.tmp 3) rfl _ _ rfl _ LR.out ?_; simp only [Act.put, List.setIfInBounds_toArray, List.set_cons_zero, List.set_cons_succ])
          | (refine quiet_build (by rfl) 105 #[(0, .tmp 40), (1, .tmp 42)] rfl #[(0, .agg (rcArr c)), (1, .agg (hashArr (rch c)))] (by simp only [List.map_toArray, List.map_cons, List.map_nil]; rfl) _ BE.out ?_; simp only [Act.put, List.setIfInBounds_toArray, List.set_cons_zero, List.set_cons_succ])
          | go_big_quiet_step ((first | with_reducible exact Calls.regrown_of (CH.out _ (below_regrown _ _ _)))))
        refine wpQuiet_nil ?_
        intro _ hw'
        obtain ⟨⟨dq, osq⟩, hw''⟩ := hw'
        subst hw''
        have hq := below_regrown WX dq osq
        have MB := Lib.hid (MBX.out.below hq)
        have CX := Lib.hid (heap_below CXX.out hq)
        have TX := Lib.hid (TXX.out.trans (Turned.of_below (F := fun _ => False) hq) (fun k f => f.elim))
        clear hq CF
        generalize grow (redrawn WX dq) osq = W5 at *
        go_wp2_with (refine wpList_putV (y := (c.kiosk, c.serial)) rfl rfl (.tmp 38) (.tmp 39) (.tmp 43) rfl Tryz.underlying79 rfl MB.out rfl ⟨HK.out.kiosk, HK.out.serial⟩ (by unfold maxLen; omega) (.agg (papArr c)) rfl ?_; intro w6 mb6 g6)
        have c6 := (g6.block p (rc_block_lt CX.out) (by intro e; injection e with e; exact PB.out e.symm)).trans CX.out
        have t6 : Turned (fun k => k = p ∨ k = BX) w w6 := TX.out.trans (Turned.of_grown (F := fun k => k = BX) g6 (fun k e => by injection e with e; exact e.symm)) (fun k hk => .inl (.inr hk))
        have M6 := mrg_kept HM.out HK.out H1.out c6 mb6 t6 HBX.out
        go_wp2_with fail
        go_ret
        refine ⟨by rw [EL.out]; rfl, _, vc, by rw [EL.out]; exact M6, turned_two t6 (.inl rfl) ?_, fun k hk => ?_, fun k hk => .inl hk⟩
        · rcases HBX.out with h | h
          · exact .inl (.inr (.inr (.inr (.inl h))))
          · exact .inr h
        · injection hk with hk
          subst hk
          exact HBX.out
  | some BX =>
        have CXX : Hid (W2.heap[p]? = some (.cells #[vp, vo, .map (some BX), vc] 82 (0, 0))) := M2H.out.cells
        have MBX : Hid (MapB kPl W2 BX n (keptF st)) := by
          rcases M2H.out.kept with ⟨e, _⟩ | ⟨b, e, hm⟩
          · cases e
          · injection e with e; injection e with e; subst e; exact hm
        have TXX : Hid (Turned (fun k => k = p ∨ k = BX) w W2) := Turned.of_below BW2.out
        have PB : Hid (BX ≠ p) := by
          intro e
          exact M2H.out.ne_p M2H.out.kept (by rw [e]; rfl)
        have HBX : Hid (mapBlk (.map (some BX)) = some BX ∨ w.heap.size ≤ BX) := .inl rfl
        have KB : Hid (∀ b (x : Obj), b ≠ p → W2.heap[b]? = some x → W2.heap[b]? = some x) := fun _ _ _ h => h
        have CF : ∀ d os, (grow (redrawn W2 d) os).cell? ⟨p, 2, none⟩ = some (.map (some BX)) := cell_regrown ((cell_of_row _ _ 2 _ _ _ CXX.out).trans rfl)
        have TF : Hid (∀ W, Below W2.heap.size W2 W → Env W) := fun W hb => HE.out W ((turned_two TXX.out (.inl rfl) (by rcases HBX.out with h | h; exact .inl (.inr (.inr (.inr (.inl h)))); exact .inr h)).trans (Turned.of_below (F := fun _ => False) hb) (fun k f => f.elim))
        have RXX : Hid (W2.heap[w.heap.size]? = some (.cells (rcArr c) 31 (0, 0))) := KB.out _ _ NP0.out RC2.out
        have RPX : Hid (W2.heap[w.heap.size + 1]? = some (.cells #[.int .i64 c.kiosk, .int .i64 c.serial] 149 (0, 0))) := KB.out _ _ NP1.out RP2.out
        have LR := Lib.hid (load_rc_re HK.out (RcAt.of_row RXX.out) (rc_block_lt RXX.out))
        have LP := Lib.hid (load_pl_re ((cell_of_row _ _ 0 _ _ _ RPX.out).trans rfl) ((cell_of_row _ _ 1 _ _ _ RPX.out).trans rfl) (rc_block_lt RPX.out))
        have CH := Lib.hid (fun W (hb : Below W2.heap.size W2 W) => ehash_any c HK.out W (TF.out W hb).1 (TF.out W hb).2)
        have BE := Lib.hid (run_build_papc HK.out)
        go_wp2_with fail
        clear w2' fz
        refine wp_region_tail_below 9 (by kernel_rfl) (by kernel_rfl) ?_
        simp only [List.take_succ_cons, List.take_zero, List.drop_succ_cons, List.drop_zero]
        repeat (first
          | (refine quiet_load_row (by rfl) _ (.tmp 5) rfl _ _ rfl _ LP.out ?_; simp only [Act.put, List.setIfInBounds_toArray, List.set_cons_zero, List.set_cons_succ])
          | (refine quiet_load_row (by rfl) _ (.tmp 3) rfl _ _ rfl _ LR.out ?_; simp only [Act.put, List.setIfInBounds_toArray, List.set_cons_zero, List.set_cons_succ])
          | (refine quiet_build (by rfl) 105 #[(0, .tmp 40), (1, .tmp 42)] rfl #[(0, .agg (rcArr c)), (1, .agg (hashArr (rch c)))] (by simp only [List.map_toArray, List.map_cons, List.map_nil]; rfl) _ BE.out ?_; simp only [Act.put, List.setIfInBounds_toArray, List.set_cons_zero, List.set_cons_succ])
          | go_big_quiet_step ((first | with_reducible exact Calls.regrown_of (CH.out _ (below_regrown _ _ _)))))
        refine wpQuiet_nil ?_
        intro _ hw'
        obtain ⟨⟨dq, osq⟩, hw''⟩ := hw'
        subst hw''
        have hq := below_regrown W2 dq osq
        have MB := Lib.hid (MBX.out.below hq)
        have CX := Lib.hid (heap_below CXX.out hq)
        have TX := Lib.hid (TXX.out.trans (Turned.of_below (F := fun _ => False) hq) (fun k f => f.elim))
        clear hq CF
        generalize grow (redrawn W2 dq) osq = W5 at *
        go_wp2_with (refine wpList_putV (y := (c.kiosk, c.serial)) rfl rfl (.tmp 38) (.tmp 39) (.tmp 43) rfl Tryz.underlying79 rfl MB.out rfl ⟨HK.out.kiosk, HK.out.serial⟩ (by unfold maxLen; omega) (.agg (papArr c)) rfl ?_; intro w6 mb6 g6)
        have c6 := (g6.block p (rc_block_lt CX.out) (by intro e; injection e with e; exact PB.out e.symm)).trans CX.out
        have t6 : Turned (fun k => k = p ∨ k = BX) w w6 := TX.out.trans (Turned.of_grown (F := fun k => k = BX) g6 (fun k e => by injection e with e; exact e.symm)) (fun k hk => .inl (.inr hk))
        have M6 := mrg_kept HM.out HK.out H1.out c6 mb6 t6 HBX.out
        go_wp2_with fail
        go_ret
        refine ⟨by rw [EL.out]; rfl, _, vc, by rw [EL.out]; exact M6, turned_two t6 (.inl rfl) ?_, fun k hk => ?_, fun k hk => .inl hk⟩
        · rcases HBX.out with h | h
          · exact .inl (.inr (.inr (.inr (.inl h))))
          · exact .inr h
        · injection hk with hk
          subst hk
          exact HBX.out
set_option maxHeartbeats 8000000 in
theorem keep_old {w : World} {p : Nat} {vp vo vk vc : Value} {st : Mst} {n : Nat} (h : MrgAt w p vp vo vk vc st n) (c : Rc) (hc : RcOk c) (h1 : 1 ≤ c.serial) (hn : n ≤ 100000) (hE : ∀ W, Turned (FootM p vp vo vk vc) w W → Env W) (hk : st.kept c.kiosk c.serial = some c) :
    Calls Tryz.prog 42 #[.pointer (some ⟨p, 0, none⟩), .agg (rcArr c)] w (KeptBy p vp vo vk vc (st.keep c) n w) := by
  have hb0 : Below w.heap.size w ((w.alloc (.cells (rcArr c) 31)).alloc (.cells #[.int .i64 c.kiosk, .int .i64 c.serial] 149)) := ((Below.refl _ _).alloc (Nat.le_refl _) _).alloc (by simp) _
  have RW := heap_alloc2_old w (.cells (rcArr c) 31) (.cells #[.int .i64 c.kiosk, .int .i64 c.serial] 149)
  have RP := heap_alloc2_new w (.cells (rcArr c) 31) (.cells #[.int .i64 c.kiosk, .int .i64 c.serial] 149)
  have RL := heap_alloc_new w (.cells (rcArr c) 31)
  have q0 := (RcAt.of_row RL).kiosk
  have q1 := (RcAt.of_row RL).serial
  rw [Nat.zero_add] at q1
  have HM := Lib.hid h
  obtain ⟨W0, hW⟩ : ∃ W0, (w.alloc (.cells (rcArr c) 31)).alloc (.cells #[.int .i64 c.kiosk, .int .i64 c.serial] 149) = W0 := ⟨_, rfl⟩
  have HW := Lib.hid hW
  rw [hW] at hb0 RW RP
  have HB0 := Lib.hid hb0
  have at0 := RcAt.of_row RW
  have HA0 := Lib.hid at0
  have HK := Lib.hid hc
  have H1 := Lib.hid h1
  have lt0 := rc_block_lt RW
  have p0 : W0.cell? ⟨w.heap.size + 1, 0, none⟩ = some (.int .i64 c.kiosk) := (cell_of_row _ _ 0 _ _ _ RP).trans rfl
  have p1 : W0.cell? ⟨w.heap.size + 1, 1, none⟩ = some (.int .i64 c.serial) := (cell_of_row _ _ 1 _ _ _ RP).trans rfl
  have P0 := Lib.hid p0
  have P1 := Lib.hid p1
  have M0 := h.below hb0
  obtain ⟨v0, v1, v2, v3⟩ := M0.vals
  obtain ⟨Z, hZ⟩ : ∃ Z, W0.alloc (.cells pap0 105) = Z := ⟨_, rfl⟩
  have bz : Below W0.heap.size W0 Z := by rw [← hZ]; exact (Below.refl _ _).alloc (Nat.le_refl _) _
  have y2 := (bz.cell (p := ⟨p, 2, none⟩) (rc_block_lt M0.cells)).trans v2
  have y3 := (bz.cell (p := ⟨w.heap.size + 1, 0, none⟩) (rc_block_lt_cell p0)).trans p0
  have y4 := (bz.cell (p := ⟨w.heap.size + 1, 1, none⟩) (rc_block_lt_cell p0)).trans p1
  obtain ⟨cs, ecs, zcs, ocs⟩ := kept_row h.ok c.kiosk c.serial
  have a0 := isRowAt (n := 134) pap0_size (show Z.drew.heap[W0.heap.size]? = _ by rw [← hZ]; exact heap_alloc_new W0 (.cells pap0 105))
  have a1 := isRow zcs ocs
  have e1 : blockOf (.pointer (some ⟨W0.heap.size, 0, none⟩)) = W0.heap.size := rfl
  have lk1 := M0.lookKept (Below.refl W0.heap.size W0).drew hc.kiosk hc.serial
  have lk2 := M0.lookKept bz.drew hc.kiosk hc.serial
  obtain ⟨bb, ebb⟩ : ∃ bb, (st.kept c.kiosk c.serial).isSome = bb := ⟨_, rfl⟩
  rw [ecs, ebb] at lk1 lk2
  have ECS := Lib.hid ecs
  have EBB := Lib.hid ebb
  have HE := Lib.hid hE
  have ZCS := Lib.hid zcs
  rw [← hZ] at y2 y3 y4 a0 lk2
  obtain ⟨o, ho⟩ : ∃ o, c = o := ⟨_, rfl⟩
  have hk' := hk
  rw [show st.kept c.kiosk c.serial = some o by rw [hk, ho]] at ebb ecs
  have el : st.keep c = (st, true) := by unfold Mst.keep; rw [hk]; simp
  have EL := Lib.hid el
  have HO := Lib.hid (show RcOk o from ho ▸ hc)
  have EO := Lib.hid ho
  have eb : bb = true := ebb.symm
  have EC := Lib.hid (show papArr o = cs by injection ecs)
  have NP0 := Lib.hid (show w.heap.size ≠ p from fun e => by have := h.lt p (.inl rfl); omega)
  have RC0 := Lib.hid RW
  subst eb
  clear hk hk' el ho
  clear v0 v1 v3 hZ bz h hb0 RW RP RL at0 hW ecs ebb M0 hE hc h1 zcs ocs
  go_enter Tryz.func42, Tryz.ntmps42
  go_wp2_with fail
  rw [HW.out]
  clear q0 q1
  go_region
  have BD : Below W0.heap.size W0 (W0.alloc (.cells pap0 105)).drew := ((Below.refl _ _).alloc (Nat.le_refl _) _).drew
  have B2 := Lib.hid (below_setRow BD (Nat.le_refl _) cs)
  have RZ := heap_alloc_new W0 (.cells pap0 105)
  have R2 := Lib.hid (setRow_heap (W0.alloc (.cells pap0 105)).drew W0.heap.size pap0 cs _ _ RZ)
  generalize (W0.alloc (.cells pap0 105)).drew.setRow W0.heap.size cs = W2 at *
  have A2 := HA0.out.below lt0 B2.out
  have A2H := Lib.hid A2
  have BW2 := Lib.hid (HB0.out.trans (B2.out.mono HB0.out.size))
  have M2 := HM.out.below BW2.out
  have M2H := Lib.hid M2
  obtain ⟨w0', w1', w2', w3'⟩ := M2.vals
  have lt2 := Nat.lt_of_lt_of_le lt0 B2.out.size
  have LT2 := Lib.hid lt2
  have LTP := Lib.hid (rc_block_lt_cell P0.out)
  have g0 := (B2.out.cell (p := ⟨w.heap.size + 1, 0, none⟩) LTP.out).trans P0.out
  have g1 := (B2.out.cell (p := ⟨w.heap.size + 1, 1, none⟩) LTP.out).trans P1.out
  clear BD RZ y2 y3 y4 a0 a1 lk1 lk2 v2 w0' w1' M2 lt0 lt2 A2 p0 p1
  have RC2 := Lib.hid (heap_below RC0.out B2.out)
  have R2x := R2.out
  rw [← EC.out] at R2x
  have RQ2 := Lib.hid R2x
  have GO := Lib.hid (pap_at R2x)
  have EQ := rc_eql HO.out HK.out
  clear g0 g1 w2' R2x
  have ed : decide (o = c) = true := by simp [EO.out]
  rw [ed] at EQ
  have FIN := Lib.hid (kept_same HM.out BW2.out true)
  clear w3' ed
  go_wp2_with (first
    | (refine wpList_load_c rfl (.tmp 44) rfl W0.heap.size 0 rfl HO.out GO.out ?_)
    | (refine wpList_load_c rfl (.tmp 3) rfl w.heap.size 0 rfl HK.out A2H.out ?_))
  go_ret
  rw [EL.out]
  exact FIN.out
set_option maxHeartbeats 8000000 in
theorem keep_clone {w : World} {p : Nat} {vp vo vk vc : Value} {st : Mst} {n : Nat} (h : MrgAt w p vp vo vk vc st n) (c : Rc) (hc : RcOk c) (h1 : 1 ≤ c.serial) (hn : n ≤ 100000) (hE : ∀ W, Turned (FootM p vp vo vk vc) w W → Env W) (o : Rc) (hk : st.kept c.kiosk c.serial = some o) (hne : o ≠ c) (hcn : (st.clones c.kiosk).isSome = true) :
    Calls Tryz.prog 42 #[.pointer (some ⟨p, 0, none⟩), .agg (rcArr c)] w (KeptBy p vp vo vk vc (st.keep c) n w) := by
  have hb0 : Below w.heap.size w ((w.alloc (.cells (rcArr c) 31)).alloc (.cells #[.int .i64 c.kiosk, .int .i64 c.serial] 149)) := ((Below.refl _ _).alloc (Nat.le_refl _) _).alloc (by simp) _
  have RW := heap_alloc2_old w (.cells (rcArr c) 31) (.cells #[.int .i64 c.kiosk, .int .i64 c.serial] 149)
  have RP := heap_alloc2_new w (.cells (rcArr c) 31) (.cells #[.int .i64 c.kiosk, .int .i64 c.serial] 149)
  have RL := heap_alloc_new w (.cells (rcArr c) 31)
  have q0 := (RcAt.of_row RL).kiosk
  have q1 := (RcAt.of_row RL).serial
  rw [Nat.zero_add] at q1
  have HM := Lib.hid h
  obtain ⟨W0, hW⟩ : ∃ W0, (w.alloc (.cells (rcArr c) 31)).alloc (.cells #[.int .i64 c.kiosk, .int .i64 c.serial] 149) = W0 := ⟨_, rfl⟩
  have HW := Lib.hid hW
  rw [hW] at hb0 RW RP
  have HB0 := Lib.hid hb0
  have at0 := RcAt.of_row RW
  have HA0 := Lib.hid at0
  have HK := Lib.hid hc
  have H1 := Lib.hid h1
  have lt0 := rc_block_lt RW
  have p0 : W0.cell? ⟨w.heap.size + 1, 0, none⟩ = some (.int .i64 c.kiosk) := (cell_of_row _ _ 0 _ _ _ RP).trans rfl
  have p1 : W0.cell? ⟨w.heap.size + 1, 1, none⟩ = some (.int .i64 c.serial) := (cell_of_row _ _ 1 _ _ _ RP).trans rfl
  have P0 := Lib.hid p0
  have P1 := Lib.hid p1
  have M0 := h.below hb0
  obtain ⟨v0, v1, v2, v3⟩ := M0.vals
  obtain ⟨Z, hZ⟩ : ∃ Z, W0.alloc (.cells pap0 105) = Z := ⟨_, rfl⟩
  have bz : Below W0.heap.size W0 Z := by rw [← hZ]; exact (Below.refl _ _).alloc (Nat.le_refl _) _
  have y2 := (bz.cell (p := ⟨p, 2, none⟩) (rc_block_lt M0.cells)).trans v2
  have y3 := (bz.cell (p := ⟨w.heap.size + 1, 0, none⟩) (rc_block_lt_cell p0)).trans p0
  have y4 := (bz.cell (p := ⟨w.heap.size + 1, 1, none⟩) (rc_block_lt_cell p0)).trans p1
  obtain ⟨cs, ecs, zcs, ocs⟩ := kept_row h.ok c.kiosk c.serial
  have a0 := isRowAt (n := 134) pap0_size (show Z.drew.heap[W0.heap.size]? = _ by rw [← hZ]; exact heap_alloc_new W0 (.cells pap0 105))
  have a1 := isRow zcs ocs
  have e1 : blockOf (.pointer (some ⟨W0.heap.size, 0, none⟩)) = W0.heap.size := rfl
  have lk1 := M0.lookKept (Below.refl W0.heap.size W0).drew hc.kiosk hc.serial
  have lk2 := M0.lookKept bz.drew hc.kiosk hc.serial
  obtain ⟨bb, ebb⟩ : ∃ bb, (st.kept c.kiosk c.serial).isSome = bb := ⟨_, rfl⟩
  rw [ecs, ebb] at lk1 lk2
  have ECS := Lib.hid ecs
  have EBB := Lib.hid ebb
  have HE := Lib.hid hE
  have ZCS := Lib.hid zcs
  rw [← hZ] at y2 y3 y4 a0 lk2
  have HO := Lib.hid (h.ok.kept _ _ _ hk).1
  rw [hk] at ebb ecs
  have eb : bb = true := ebb.symm
  have EC := Lib.hid (show papArr o = cs by injection ecs)
  have NP0 := Lib.hid (show w.heap.size ≠ p from fun e => by have := h.lt p (.inl rfl); omega)
  have RC0 := Lib.hid RW
  subst eb
  have NE := Lib.hid hne
  have el : st.keep c = (st, false) := by
    unfold Mst.keep
    rw [hk]
    simp only
    rw [if_neg hne]
    obtain ⟨x, hx⟩ := Option.isSome_iff_exists.1 hcn
    rw [hx]
  have EL := Lib.hid el
  have HCN := Lib.hid hcn
  clear hk el hne hcn
  clear v0 v1 v3 hZ bz h hb0 RW RP RL at0 hW ecs ebb M0 hE hc h1 zcs ocs
  go_enter Tryz.func42, Tryz.ntmps42
  go_wp2_with fail
  rw [HW.out]
  clear q0 q1
  go_region
  have BD : Below W0.heap.size W0 (W0.alloc (.cells pap0 105)).drew := ((Below.refl _ _).alloc (Nat.le_refl _) _).drew
  have B2 := Lib.hid (below_setRow BD (Nat.le_refl _) cs)
  have RZ := heap_alloc_new W0 (.cells pap0 105)
  have R2 := Lib.hid (setRow_heap (W0.alloc (.cells pap0 105)).drew W0.heap.size pap0 cs _ _ RZ)
  generalize (W0.alloc (.cells pap0 105)).drew.setRow W0.heap.size cs = W2 at *
  have A2 := HA0.out.below lt0 B2.out
  have A2H := Lib.hid A2
  have BW2 := Lib.hid (HB0.out.trans (B2.out.mono HB0.out.size))
  have M2 := HM.out.below BW2.out
  have M2H := Lib.hid M2
  obtain ⟨w0', w1', w2', w3'⟩ := M2.vals
  have lt2 := Nat.lt_of_lt_of_le lt0 B2.out.size
  have LT2 := Lib.hid lt2
  have LTP := Lib.hid (rc_block_lt_cell P0.out)
  have g0 := (B2.out.cell (p := ⟨w.heap.size + 1, 0, none⟩) LTP.out).trans P0.out
  have g1 := (B2.out.cell (p := ⟨w.heap.size + 1, 1, none⟩) LTP.out).trans P1.out
  clear BD RZ y2 y3 y4 a0 a1 lk1 lk2 v2 w0' w1' M2 lt0 lt2 A2 p0 p1
  have RC2 := Lib.hid (heap_below RC0.out B2.out)
  have R2x := R2.out
  rw [← EC.out] at R2x
  have RQ2 := Lib.hid R2x
  have GO := Lib.hid (pap_at R2x)
  have EQ := rc_eql HO.out HK.out
  clear g0 g1 w2' R2x
  have ed : decide (o = c) = false := by simpa using NE.out
  rw [ed] at EQ
  obtain ⟨Z2, hZ2⟩ : ∃ Z, W2.alloc (.cells (pairArr rc0 rc0) 109) = Z := ⟨_, rfl⟩
  have bz2 : Below W2.heap.size W2 Z2 := by rw [← hZ2]; exact (Below.refl _ _).alloc (Nat.le_refl _) _
  have z3 := (bz2.cell (p := ⟨p, 3, none⟩) (rc_block_lt M2H.out.cells)).trans w3'
  have k0 := A2H.out.kiosk
  have k1 := (bz2.cell (p := ⟨w.heap.size, 0, none⟩) (rc_block_lt_cell k0)).trans k0
  obtain ⟨ps, eps, zps, ops⟩ := clone_row M2H.out.ok c.kiosk
  have b0 := isRowAt (n := 204) (pairArr_size rc0_ok rc0_ok) (show Z2.drew.heap[W2.heap.size]? = _ by rw [← hZ2]; exact heap_alloc_new W2 (.cells (pairArr rc0 rc0) 109))
  have b1 := isRow zps ops
  have be1 : blockOf (.pointer (some ⟨W2.heap.size, 0, none⟩)) = W2.heap.size := rfl
  have ck1 := M2H.out.lookClone (Below.refl W2.heap.size W2).drew HK.out.kiosk
  have ck2 := M2H.out.lookClone bz2.drew HK.out.kiosk
  rw [eps, HCN.out] at ck1 ck2
  rw [← hZ2] at z3 k1 b0 ck2
  have BD2 : Below W2.heap.size W2 (W2.alloc (.cells (pairArr rc0 rc0) 109)).drew := ((Below.refl _ _).alloc (Nat.le_refl _) _).drew
  have B3 := Lib.hid (below_setRow BD2 (Nat.le_refl _) ps)
  clear hZ2 bz2 eps zps ops ed BD2
  go_wp2_with (first
    | (refine wpList_load_c rfl (.tmp 44) rfl W0.heap.size 0 rfl HO.out GO.out ?_)
    | (refine wpList_load_c rfl (.tmp 3) rfl w.heap.size 0 rfl HK.out A2H.out ?_))
  go_region
  generalize (W2.alloc (.cells (pairArr rc0 rc0) 109)).drew.setRow W2.heap.size ps = W3 at *
  have BW3 := Lib.hid (BW2.out.trans (B3.out.mono BW2.out.size))
  have M3 := HM.out.below BW3.out
  have M3H := Lib.hid M3
  obtain ⟨u0', u1', u2', u3'⟩ := M3.vals
  clear z3 k0 k1 b0 b1 ck1 ck2 w3' u0' u1' u2' M3
  have FIN := Lib.hid (kept_same HM.out BW3.out false)
  clear u3'
  go_wp2_with fail
  go_ret
  rw [EL.out]
  exact FIN.out
set_option maxHeartbeats 8000000 in
theorem keep_two {w : World} {p : Nat} {vp vo vk vc : Value} {st : Mst} {n : Nat} (h : MrgAt w p vp vo vk vc st n) (c : Rc) (hc : RcOk c) (h1 : 1 ≤ c.serial) (hn : n ≤ 100000) (hE : ∀ W, Turned (FootM p vp vo vk vc) w W → Env W) (o : Rc) (hk : st.kept c.kiosk c.serial = some o) (hne : o ≠ c) (hcn : st.clones c.kiosk = none) :
    Calls Tryz.prog 42 #[.pointer (some ⟨p, 0, none⟩), .agg (rcArr c)] w (KeptBy p vp vo vk vc (st.keep c) n w) := by
  have hb0 : Below w.heap.size w ((w.alloc (.cells (rcArr c) 31)).alloc (.cells #[.int .i64 c.kiosk, .int .i64 c.serial] 149)) := ((Below.refl _ _).alloc (Nat.le_refl _) _).alloc (by simp) _
  have RW := heap_alloc2_old w (.cells (rcArr c) 31) (.cells #[.int .i64 c.kiosk, .int .i64 c.serial] 149)
  have RP := heap_alloc2_new w (.cells (rcArr c) 31) (.cells #[.int .i64 c.kiosk, .int .i64 c.serial] 149)
  have RL := heap_alloc_new w (.cells (rcArr c) 31)
  have q0 := (RcAt.of_row RL).kiosk
  have q1 := (RcAt.of_row RL).serial
  rw [Nat.zero_add] at q1
  have HM := Lib.hid h
  obtain ⟨W0, hW⟩ : ∃ W0, (w.alloc (.cells (rcArr c) 31)).alloc (.cells #[.int .i64 c.kiosk, .int .i64 c.serial] 149) = W0 := ⟨_, rfl⟩
  have HW := Lib.hid hW
  rw [hW] at hb0 RW RP
  have HB0 := Lib.hid hb0
  have at0 := RcAt.of_row RW
  have HA0 := Lib.hid at0
  have HK := Lib.hid hc
  have H1 := Lib.hid h1
  have lt0 := rc_block_lt RW
  have p0 : W0.cell? ⟨w.heap.size + 1, 0, none⟩ = some (.int .i64 c.kiosk) := (cell_of_row _ _ 0 _ _ _ RP).trans rfl
  have p1 : W0.cell? ⟨w.heap.size + 1, 1, none⟩ = some (.int .i64 c.serial) := (cell_of_row _ _ 1 _ _ _ RP).trans rfl
  have P0 := Lib.hid p0
  have P1 := Lib.hid p1
  have M0 := h.below hb0
  obtain ⟨v0, v1, v2, v3⟩ := M0.vals
  obtain ⟨Z, hZ⟩ : ∃ Z, W0.alloc (.cells pap0 105) = Z := ⟨_, rfl⟩
  have bz : Below W0.heap.size W0 Z := by rw [← hZ]; exact (Below.refl _ _).alloc (Nat.le_refl _) _
  have y2 := (bz.cell (p := ⟨p, 2, none⟩) (rc_block_lt M0.cells)).trans v2
  have y3 := (bz.cell (p := ⟨w.heap.size + 1, 0, none⟩) (rc_block_lt_cell p0)).trans p0
  have y4 := (bz.cell (p := ⟨w.heap.size + 1, 1, none⟩) (rc_block_lt_cell p0)).trans p1
  obtain ⟨cs, ecs, zcs, ocs⟩ := kept_row h.ok c.kiosk c.serial
  have a0 := isRowAt (n := 134) pap0_size (show Z.drew.heap[W0.heap.size]? = _ by rw [← hZ]; exact heap_alloc_new W0 (.cells pap0 105))
  have a1 := isRow zcs ocs
  have e1 : blockOf (.pointer (some ⟨W0.heap.size, 0, none⟩)) = W0.heap.size := rfl
  have lk1 := M0.lookKept (Below.refl W0.heap.size W0).drew hc.kiosk hc.serial
  have lk2 := M0.lookKept bz.drew hc.kiosk hc.serial
  obtain ⟨bb, ebb⟩ : ∃ bb, (st.kept c.kiosk c.serial).isSome = bb := ⟨_, rfl⟩
  rw [ecs, ebb] at lk1 lk2
  have ECS := Lib.hid ecs
  have EBB := Lib.hid ebb
  have HE := Lib.hid hE
  have ZCS := Lib.hid zcs
  rw [← hZ] at y2 y3 y4 a0 lk2
  have HO := Lib.hid (h.ok.kept _ _ _ hk).1
  rw [hk] at ebb ecs
  have eb : bb = true := ebb.symm
  have EC := Lib.hid (show papArr o = cs by injection ecs)
  have NP0 := Lib.hid (show w.heap.size ≠ p from fun e => by have := h.lt p (.inl rfl); omega)
  have RC0 := Lib.hid RW
  subst eb
  have NE := Lib.hid hne
  have el : st.keep c = ({ st with clones := fun k => if k = c.kiosk then some (o, c) else st.clones k }, false) := by
    unfold Mst.keep
    rw [hk]
    simp only
    rw [if_neg hne, hcn]
  have EL := Lib.hid el
  have HCN := Lib.hid (show (st.clones c.kiosk).isSome = false by rw [hcn]; rfl)
  have NP2 := Lib.hid (show W0.heap.size ≠ p from fun e => by have := h.lt p (.inl rfl); have := hb0.size; omega)
  clear hk el hne hcn
  clear v0 v1 v3 hZ bz h hb0 RW RP RL at0 hW ecs ebb M0 hE hc h1 zcs ocs
  go_enter Tryz.func42, Tryz.ntmps42
  go_wp2_with fail
  rw [HW.out]
  clear q0 q1
  go_region
  have BD : Below W0.heap.size W0 (W0.alloc (.cells pap0 105)).drew := ((Below.refl _ _).alloc (Nat.le_refl _) _).drew
  have B2 := Lib.hid (below_setRow BD (Nat.le_refl _) cs)
  have RZ := heap_alloc_new W0 (.cells pap0 105)
  have R2 := Lib.hid (setRow_heap (W0.alloc (.cells pap0 105)).drew W0.heap.size pap0 cs _ _ RZ)
  generalize (W0.alloc (.cells pap0 105)).drew.setRow W0.heap.size cs = W2 at *
  have A2 := HA0.out.below lt0 B2.out
  have A2H := Lib.hid A2
  have BW2 := Lib.hid (HB0.out.trans (B2.out.mono HB0.out.size))
  have M2 := HM.out.below BW2.out
  have M2H := Lib.hid M2
  obtain ⟨w0', w1', w2', w3'⟩ := M2.vals
  have lt2 := Nat.lt_of_lt_of_le lt0 B2.out.size
  have LT2 := Lib.hid lt2
  have LTP := Lib.hid (rc_block_lt_cell P0.out)
  have g0 := (B2.out.cell (p := ⟨w.heap.size + 1, 0, none⟩) LTP.out).trans P0.out
  have g1 := (B2.out.cell (p := ⟨w.heap.size + 1, 1, none⟩) LTP.out).trans P1.out
  clear BD RZ y2 y3 y4 a0 a1 lk1 lk2 v2 w0' w1' M2 lt0 lt2 A2 p0 p1
  have RC2 := Lib.hid (heap_below RC0.out B2.out)
  have R2x := R2.out
  rw [← EC.out] at R2x
  have RQ2 := Lib.hid R2x
  have GO := Lib.hid (pap_at R2x)
  have EQ := rc_eql HO.out HK.out
  clear g0 g1 w2' R2x
  have ed : decide (o = c) = false := by simpa using NE.out
  rw [ed] at EQ
  obtain ⟨Z2, hZ2⟩ : ∃ Z, W2.alloc (.cells (pairArr rc0 rc0) 109) = Z := ⟨_, rfl⟩
  have bz2 : Below W2.heap.size W2 Z2 := by rw [← hZ2]; exact (Below.refl _ _).alloc (Nat.le_refl _) _
  have z3 := (bz2.cell (p := ⟨p, 3, none⟩) (rc_block_lt M2H.out.cells)).trans w3'
  have k0 := A2H.out.kiosk
  have k1 := (bz2.cell (p := ⟨w.heap.size, 0, none⟩) (rc_block_lt_cell k0)).trans k0
  obtain ⟨ps, eps, zps, ops⟩ := clone_row M2H.out.ok c.kiosk
  have b0 := isRowAt (n := 204) (pairArr_size rc0_ok rc0_ok) (show Z2.drew.heap[W2.heap.size]? = _ by rw [← hZ2]; exact heap_alloc_new W2 (.cells (pairArr rc0 rc0) 109))
  have b1 := isRow zps ops
  have be1 : blockOf (.pointer (some ⟨W2.heap.size, 0, none⟩)) = W2.heap.size := rfl
  have ck1 := M2H.out.lookClone (Below.refl W2.heap.size W2).drew HK.out.kiosk
  have ck2 := M2H.out.lookClone bz2.drew HK.out.kiosk
  rw [eps, HCN.out] at ck1 ck2
  rw [← hZ2] at z3 k1 b0 ck2
  have BD2 : Below W2.heap.size W2 (W2.alloc (.cells (pairArr rc0 rc0) 109)).drew := ((Below.refl _ _).alloc (Nat.le_refl _) _).drew
  have B3 := Lib.hid (below_setRow BD2 (Nat.le_refl _) ps)
  clear hZ2 bz2 eps zps ops ed BD2
  go_wp2_with (first
    | (refine wpList_load_c rfl (.tmp 44) rfl W0.heap.size 0 rfl HO.out GO.out ?_)
    | (refine wpList_load_c rfl (.tmp 3) rfl w.heap.size 0 rfl HK.out A2H.out ?_))
  go_region
  generalize (W2.alloc (.cells (pairArr rc0 rc0) 109)).drew.setRow W2.heap.size ps = W3 at *
  have BW3 := Lib.hid (BW2.out.trans (B3.out.mono BW2.out.size))
  have M3 := HM.out.below BW3.out
  have M3H := Lib.hid M3
  obtain ⟨u0', u1', u2', u3'⟩ := M3.vals
  clear z3 k0 k1 b0 b1 ck1 ck2 w3' u0' u1' u2' M3
  have RC3 := Lib.hid (heap_below RC2.out B3.out)
  have RQ3 := Lib.hid (heap_below RQ2.out B3.out)
  have fz := M3H.out.frozen 3
  have qn : ∀ (W : World) (r : Option Nat), (binOp .eql 80 (.map r) (.map none)).run Tryz.prog W = .ok (.bool r.isNone) W := fun W r => run_eql_map_nil W _ _ _ r Tryz.underlying80
  have hmm := @run_makeMap Tryz.prog
  obtain ⟨ob, rfl⟩ := HM.out.clones.shape
  cases ob with
  | none =>
        have lp : p < W3.heap.size := rc_block_lt M3H.out.cells
        have b3 : Below W3.heap.size W3 (W3.alloc (.map #[] 0)) := (Below.refl _ _).alloc (Nat.le_refl _) _
        have x1 := (b3.cell (p := ⟨p, 3, none⟩) lp).trans u3'
        have xf : (W3.alloc (.map #[] 0)).frozen? ⟨p, 3, none⟩ = false := (b3.frozen (p := ⟨p, 3, none⟩) lp).trans fz
        have c3 := heap_below M3H.out.cells b3
        have mb3 := MapB.made kInt W3
        obtain ⟨WX, hWX⟩ : ∃ WX, (W3.alloc (.map #[] 0)).setCell ⟨p, 3, none⟩ (.map (some W3.heap.size)) = WX := ⟨_, rfl⟩
        have gX := grownBy_setCellP (W3.alloc (.map #[] 0)) p 3 (.map (some W3.heap.size))
        rw [hWX] at gX
        have cX := heap_setCell_at (o := 3) c3 (.map (some W3.heap.size))
        rw [hWX] at cX
        obtain ⟨BX, hBX⟩ : ∃ BX, W3.heap.size = BX := ⟨_, rfl⟩
        have CXX : Hid (WX.heap[p]? = some (.cells #[vp, vo, vk, .map (some BX)] 82 (0, 0))) := by rw [← hBX]; exact cX
        have nb : W3.heap.size ≠ p := by omega
        have MBX : Hid (MapB kInt WX BX n (cloneF st)) := by
          rw [← hBX]
          refine ((mb3.kept gX (by intro e; injection e with e; exact nb e)).mono (Nat.zero_le _)).congr (fun x hx => ?_)
          rcases HM.out.clones with ⟨_, h0⟩ | ⟨b, e, _⟩
          · exact (h0 x hx).symm
          · cases e
        have keepB : ∀ b (x : Obj), b ≠ p → W3.heap[b]? = some x → WX.heap[b]? = some x := fun b x hb hx =>
          (gX.block b (by have := rc_block_lt hx; simp; omega) (by intro e; injection e with e; exact hb e)).trans (heap_below hx b3)
        have TXX : Hid (Turned (fun k => k = p ∨ k = BX) w WX) := ((Turned.of_below (F := fun k => k = p ∨ k = BX) (BW3.out.trans (b3.mono BW3.out.size))).trans (Turned.of_grown (F := fun k => k = p) gX (fun k e => by injection e with e; exact e.symm)) (fun k hk => .inl (.inl hk)))
        have PB : Hid (BX ≠ p) := by rw [← hBX]; exact nb
        have HBX : Hid (mapBlk (.map none) = some BX ∨ w.heap.size ≤ BX) := .inr (by rw [← hBX]; exact BW3.out.size)
        have KB := Lib.hid keepB
        have HWX := Lib.hid hWX
        have CF : ∀ d os, (grow (redrawn WX d) os).cell? ⟨p, 3, none⟩ = some (.map (some BX)) := cell_regrown ((cell_of_row _ _ 3 _ _ _ CXX.out).trans rfl)
        have TF : Hid (∀ W, Below WX.heap.size WX W → Env W) := fun W hb => HE.out W ((turned_two TXX.out (.inl rfl) (by rcases HBX.out with h | h; exact .inl (.inr (.inr (.inr (.inr h)))); exact .inr h)).trans (Turned.of_below (F := fun _ => False) hb) (fun k f => f.elim))
        have RXX : Hid (WX.heap[w.heap.size]? = some (.cells (rcArr c) 31 (0, 0))) := KB.out _ _ NP0.out RC3.out
        have RQX : Hid (WX.heap[W0.heap.size]? = some (.cells (papArr o) 105 (0, 0))) := KB.out _ _ NP2.out RQ3.out
        have LR := Lib.hid (load_rc_re HK.out (RcAt.of_row RXX.out) (rc_block_lt RXX.out))
        have LQ := Lib.hid (load_rc_re HO.out (pap_at RQX.out) (rc_block_lt RQX.out))
        have LK := cell_regrown (RcAt.of_row RXX.out).kiosk
        have BE := Lib.hid (run_build_pair HO.out HK.out)
        clear b3 c3 mb3 gX cX nb lp hWX hBX keepB
        go_wp2_with fail
        rw [HWX.out]
        clear x1 xf u3' fz
        refine wp_region_tail_below 10 (by kernel_rfl) (by kernel_rfl) ?_
        simp only [List.take_succ_cons, List.take_zero, List.drop_succ_cons, List.drop_zero]
        repeat (first
          | (refine quiet_load_row (by rfl) _ (.tmp 75) rfl _ _ rfl _ LQ.out ?_; simp only [Act.put, List.setIfInBounds_toArray, List.set_cons_zero, List.set_cons_succ])
          | (refine quiet_load_row (by rfl) _ (.tmp 3) rfl _ _ rfl _ LR.out ?_; simp only [Act.put, List.setIfInBounds_toArray, List.set_cons_zero, List.set_cons_succ])
          | (refine quiet_build (by rfl) 109 #[(0, .tmp 76), (1, .tmp 77)] rfl #[(0, .agg (rcArr o)), (1, .agg (rcArr c))] (by simp only [List.map_toArray, List.map_cons, List.map_nil]; rfl) _ BE.out ?_; simp only [Act.put, List.setIfInBounds_toArray, List.set_cons_zero, List.set_cons_succ])
          | go_big_quiet_step (fail))
        refine wpQuiet_nil ?_
        intro _ hw'
        obtain ⟨⟨dq, osq⟩, hw''⟩ := hw'
        subst hw''
        have hq := below_regrown WX dq osq
        have MB := Lib.hid (MBX.out.below hq)
        have CX := Lib.hid (heap_below CXX.out hq)
        have TX := Lib.hid (TXX.out.trans (Turned.of_below (F := fun _ => False) hq) (fun k f => f.elim))
        clear hq CF LK
        generalize grow (redrawn WX dq) osq = W5 at *
        go_wp2_with (refine wpList_putV (y := c.kiosk) rfl rfl (.tmp 72) (.tmp 74) (.tmp 78) rfl Tryz.underlying80 rfl MB.out rfl HK.out.kiosk (by unfold maxLen; omega) (.agg (pairArr o c)) rfl ?_; intro w6 mb6 g6)
        have c6 := (g6.block p (rc_block_lt CX.out) (by intro e; injection e with e; exact PB.out e.symm)).trans CX.out
        have t6 : Turned (fun k => k = p ∨ k = BX) w w6 := TX.out.trans (Turned.of_grown (F := fun k => k = BX) g6 (fun k e => by injection e with e; exact e.symm)) (fun k hk => .inl (.inr hk))
        have M6 := mrg_clone HM.out HO.out HK.out c6 mb6 t6 HBX.out
        go_wp2_with fail
        go_ret
        refine ⟨by rw [EL.out]; rfl, vk, _, by rw [EL.out]; exact M6, turned_two t6 (.inl rfl) ?_, fun k hk => .inl hk, fun k hk => ?_⟩
        · rcases HBX.out with h | h
          · exact .inl (.inr (.inr (.inr (.inr h))))
          · exact .inr h
        · injection hk with hk
          subst hk
          exact HBX.out
  | some BX =>
        have CXX : Hid (W3.heap[p]? = some (.cells #[vp, vo, vk, .map (some BX)] 82 (0, 0))) := M3H.out.cells
        have MBX : Hid (MapB kInt W3 BX n (cloneF st)) := by
          rcases M3H.out.clones with ⟨e, _⟩ | ⟨b, e, hm⟩
          · cases e
          · injection e with e; injection e with e; subst e; exact hm
        have TXX : Hid (Turned (fun k => k = p ∨ k = BX) w W3) := Turned.of_below BW3.out
        have PB : Hid (BX ≠ p) := by
          intro e
          exact M3H.out.ne_p M3H.out.clones (by rw [e]; rfl)
        have HBX : Hid (mapBlk (.map (some BX)) = some BX ∨ w.heap.size ≤ BX) := .inl rfl
        have KB : Hid (∀ b (x : Obj), b ≠ p → W3.heap[b]? = some x → W3.heap[b]? = some x) := fun _ _ _ h => h
        have CF : ∀ d os, (grow (redrawn W3 d) os).cell? ⟨p, 3, none⟩ = some (.map (some BX)) := cell_regrown ((cell_of_row _ _ 3 _ _ _ CXX.out).trans rfl)
        have TF : Hid (∀ W, Below W3.heap.size W3 W → Env W) := fun W hb => HE.out W ((turned_two TXX.out (.inl rfl) (by rcases HBX.out with h | h; exact .inl (.inr (.inr (.inr (.inr h)))); exact .inr h)).trans (Turned.of_below (F := fun _ => False) hb) (fun k f => f.elim))
        have RXX : Hid (W3.heap[w.heap.size]? = some (.cells (rcArr c) 31 (0, 0))) := KB.out _ _ NP0.out RC3.out
        have RQX : Hid (W3.heap[W0.heap.size]? = some (.cells (papArr o) 105 (0, 0))) := KB.out _ _ NP2.out RQ3.out
        have LR := Lib.hid (load_rc_re HK.out (RcAt.of_row RXX.out) (rc_block_lt RXX.out))
        have LQ := Lib.hid (load_rc_re HO.out (pap_at RQX.out) (rc_block_lt RQX.out))
        have LK := cell_regrown (RcAt.of_row RXX.out).kiosk
        have BE := Lib.hid (run_build_pair HO.out HK.out)
        go_wp2_with fail
        clear u3' fz
        refine wp_region_tail_below 10 (by kernel_rfl) (by kernel_rfl) ?_
        simp only [List.take_succ_cons, List.take_zero, List.drop_succ_cons, List.drop_zero]
        repeat (first
          | (refine quiet_load_row (by rfl) _ (.tmp 75) rfl _ _ rfl _ LQ.out ?_; simp only [Act.put, List.setIfInBounds_toArray, List.set_cons_zero, List.set_cons_succ])
          | (refine quiet_load_row (by rfl) _ (.tmp 3) rfl _ _ rfl _ LR.out ?_; simp only [Act.put, List.setIfInBounds_toArray, List.set_cons_zero, List.set_cons_succ])
          | (refine quiet_build (by rfl) 109 #[(0, .tmp 76), (1, .tmp 77)] rfl #[(0, .agg (rcArr o)), (1, .agg (rcArr c))] (by simp only [List.map_toArray, List.map_cons, List.map_nil]; rfl) _ BE.out ?_; simp only [Act.put, List.setIfInBounds_toArray, List.set_cons_zero, List.set_cons_succ])
          | go_big_quiet_step (fail))
        refine wpQuiet_nil ?_
        intro _ hw'
        obtain ⟨⟨dq, osq⟩, hw''⟩ := hw'
        subst hw''
        have hq := below_regrown W3 dq osq
        have MB := Lib.hid (MBX.out.below hq)
        have CX := Lib.hid (heap_below CXX.out hq)
        have TX := Lib.hid (TXX.out.trans (Turned.of_below (F := fun _ => False) hq) (fun k f => f.elim))
        clear hq CF LK
        generalize grow (redrawn W3 dq) osq = W5 at *
        go_wp2_with (refine wpList_putV (y := c.kiosk) rfl rfl (.tmp 72) (.tmp 74) (.tmp 78) rfl Tryz.underlying80 rfl MB.out rfl HK.out.kiosk (by unfold maxLen; omega) (.agg (pairArr o c)) rfl ?_; intro w6 mb6 g6)
        have c6 := (g6.block p (rc_block_lt CX.out) (by intro e; injection e with e; exact PB.out e.symm)).trans CX.out
        have t6 : Turned (fun k => k = p ∨ k = BX) w w6 := TX.out.trans (Turned.of_grown (F := fun k => k = BX) g6 (fun k e => by injection e with e; exact e.symm)) (fun k hk => .inl (.inr hk))
        have M6 := mrg_clone HM.out HO.out HK.out c6 mb6 t6 HBX.out
        go_wp2_with fail
        go_ret
        refine ⟨by rw [EL.out]; rfl, vk, _, by rw [EL.out]; exact M6, turned_two t6 (.inl rfl) ?_, fun k hk => .inl hk, fun k hk => ?_⟩
        · rcases HBX.out with h | h
          · exact .inl (.inr (.inr (.inr (.inr h))))
          · exact .inr h
        · injection hk with hk
          subst hk
          exact HBX.out
theorem keep_any {w : World} {p : Nat} {vp vo vk vc : Value} {st : Mst} {n : Nat} (h : MrgAt w p vp vo vk vc st n) (c : Rc) (hc : RcOk c) (h1 : 1 ≤ c.serial) (hn : n ≤ 100000) (hE : ∀ W, Turned (FootM p vp vo vk vc) w W → Env W) :
    Calls Tryz.prog 42 #[.pointer (some ⟨p, 0, none⟩), .agg (rcArr c)] w (KeptBy p vp vo vk vc (st.keep c) n w) := by
  cases hk : st.kept c.kiosk c.serial with
  | none => exact keep_new h c hc h1 hn hE hk
  | some o =>
    by_cases e : o = c
    · subst e
      exact keep_old h o hc h1 hn hE hk
    · cases hcn : st.clones c.kiosk with
      | none => exact keep_two h c hc h1 hn hE o hk e hcn
      | some x => exact keep_clone h c hc h1 hn hE o hk e (by rw [hcn]; rfl)
end Go.Proofs.YtpblfpnldbdncaaGreatDoor
