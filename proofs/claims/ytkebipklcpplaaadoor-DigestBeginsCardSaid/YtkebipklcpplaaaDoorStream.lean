/- The contract of Stream. -/
import Derived.Test.YtkebipklcpplaaaDoorBlocks
import Derived.RangeFuncBox
import Derived.Maps.AppendAt
namespace Go.Proofs.YtkebipklcpplaaaDoor
open Go.RowKit Go.Sort
set_option linter.unusedVariables false
section
variable {F : Fence} {N : Nat} {P : Program}
/-- a row stored into a variable made last, inside a fence -/
theorem wpListIn_store_new {ops : Array Oper} {rest : List Oper} {o : Oper} {a : Act} {Q : Exit → Act → World → Prop} {w : World} (hgd : o.guard = none) (ty : TypeId) (x y : Operand) (ho : o.op = .store ty x y) (cells : Array Value)
    (hx : a.eval x = .pointer (some ⟨w.heap.size, 0, none⟩)) (hy : a.eval y = .agg cells) (t : TypeId) (old : Array Value) (hi : (P.info? ty).map (·.size) = some cells.size)
    (hold : old.size = cells.size) (h1 : cells.all (·.oneCell') = true)
    (h : wpListIn F N P ops Q rest (a.put o.dst undef) (w.alloc (.cells cells t))) : wpListIn F N P ops Q (o :: rest) a (w.alloc (.cells old t)) := by
  refine wpListIn_plain hgd fun K hK => ?_
  unfold Oper.wpIn
  refine ⟨by simp [Oper.about, ho], ?_⟩
  rw [Oper.semAt_plain F _ _ (by rw [ho]; intro c hc; cases hc)]
  simp only [execOp, ho, hx, hy, Instr.storeAt, Instr.sureAddr, Sem.run_bind, Sem.run_pure, Result.andThen_ok, run_storeVar_row (w.alloc (.cells old t)) w.heap.size t ty old cells (heap_alloc_new _ _) hi hold h1, World.setRow_alloc_new]
  exact hK _ _ h
end
theorem size_of {W W' : World} {b : Nat} (h : W'.heap[b]? = W.heap[b]?) (hb : b < W.heap.size) : b < W'.heap.size := by
  rw [Array.getElem?_eq_getElem hb] at h
  exact (Array.getElem?_eq_some_iff.1 h).1
theorem Tabs.blocks {W W' : World} (h : Tabs W) (h1 : W'.heap[0]? = W.heap[0]?) (h2 : W'.heap[1]? = W.heap[1]?) : Tabs W' :=
  ⟨fun i hi => (World.cell?_of_block (w := W) (a := ⟨_, i, none⟩) h1).trans (h.1 i hi), fun i hi => (World.cell?_of_block (w := W) (a := ⟨_, i, none⟩) h2).trans (h.2.1 i hi), size_of h1 h.2.2.1, size_of h2 h.2.2.2⟩
theorem Tabs.lt1 {W : World} (h : Tabs W) : 0 < W.heap.size := h.2.2.1
theorem Tabs.lt2 {W : World} (h : Tabs W) : 1 < W.heap.size := h.2.2.2
theorem Kq.trans {Bs : Nat} {A B C : World} (h : Kq Bs A B) (k : Kq Bs B C) : Kq Bs A C := ⟨k.1.trans h.1, fun t => k.2 (h.2 t)⟩
theorem Kq.grown {Bs n₀ : Nat} {A B : World} {row : Option Nat} (hg : A.grownBy B row) (hb : Bs < A.heap.size) (hr : ∀ r, row = some r → r ≠ Bs ∧ n₀ ≤ r) (h1 : 0 < n₀) (h2 : 1 < n₀) : Kq Bs A B :=
  ⟨hg.block Bs hb (fun e => (hr Bs e.symm).1 rfl), fun t => t.blocks (hg.block _ t.lt1 (fun e => by have := (hr _ e.symm).2; omega)) (hg.block _ t.lt2 (fun e => by have := (hr _ e.symm).2; omega))⟩
theorem Kq.put {Bs n₀ : Nat} {w : World} (hb : Bs < w.heap.size) (h1 : 0 < n₀) (h2 : 1 < n₀) (hn : n₀ ≤ w.heap.size) (W : World) (l : Nat) (o o' : Obj) (hl : w.heap.size ≤ l) (h : W.heap[l]? = some o) (_ : o.isCells = false) (_ : o.isWalk = false) : Kq Bs W (W.putObj l o') := by
  have hlt := (Array.getElem?_eq_some_iff.1 h).1
  exact Kq.grown (grownBy_putObj' W l o') (by omega) (fun r e => by cases e; exact ⟨by omega, by omega⟩) h1 h2
/-- the bytes of blocks that have come -/
def bytesCome (pre : List HashL) : List UInt8 := pre.flatMap (·.1)
theorem bytesCome_length (pre : List HashL) : (bytesCome pre).length = 32 * pre.length := by
  induction pre with
  | nil => rfl
  | cons h t ih => simp only [bytesCome, List.flatMap_cons, List.length_append] at ih ⊢; rw [ih, h.2, List.length_cons]; omega
theorem bytesCome_snoc (pre : List HashL) (x : HashL) : bytesCome (pre ++ [x]) = bytesCome pre ++ x.1 := by simp [bytesCome]
theorem hash_row_own (Bx : Nat) (cs : Array Value) (t : TypeId) : Own (fun (_ : Unit) W => W.heap[Bx]? = some (.cells cs t (0, 0))) := fun s X Y row hs hg hrow =>
  (hg.block Bx (Array.getElem?_eq_some_iff.1 hs).1 (fun e' => by obtain ⟨o, ho, hc⟩ := hrow Bx e'.symm; rw [hs] at ho; cases ho; cases hc)).trans hs
set_option maxHeartbeats 1000000 in
theorem blocks_any (x : ByteArray) (M : Int) (w : World) :
    Calls Tryd.prog 43 #[.string x, .int .i64 M] w fun e w' => e = .returned (.func (.func 64) #[] #[.pointer (some ⟨w.heap.size + 1, 0, none⟩), .pointer (some ⟨w.heap.size, 0, none⟩)]) ∧ w' = (w.alloc (.cells #[.string x] 9)).alloc (.cells #[.int .i64 M] 3) := by
  go_enter Tryd.func43, Tryd.ntmps43
  go_wp2_with fail
  go_ret
  exact ⟨rfl, rfl⟩
def Sha.stream (x : List UInt8) (n : Nat) : List UInt8 := ((List.range ((n + 31) / 32)).flatMap (Sha.blk x)).take n
theorem u8_infos : (Tryd.prog.info? 5).map (fun i => (i.zero, i.size, i.bytes)) = some (some (.int .u8 0), 1, 1) := by kernel_rfl
attribute [local go_sem] Oper.semAt_some wide_fn
set_option maxHeartbeats 2000000 in
set_option maxRecDepth 100000 in
theorem stream_any (x : ByteArray) (n : Nat) (w : World) (hx : x.size ≤ 1000) (h1 : 1 ≤ n) (hn : n ≤ 400) (hT : Tabs w) :
    Calls Tryd.prog 26 #[.string x, .int .i64 (n : Int)] w fun e w' => e = .returned (.string ⟨(Sha.stream x.data.toList n).toArray⟩) ∧ Below w.heap.size w w' := by
  refine (callsIn_wide (n := 5)).1 ?_
  obtain ⟨M, eM⟩ : ∃ M, (n + 31) / 32 = M := ⟨_, rfl⟩
  have d1 : decide ((n : Int) < 1) = false := by simp; omega
  have d2 : decide ((1048576 : Int) < (n : Int)) = false := by simp; omega
  have q1 : IntKind.i64.wrap ((n : Int) + 32) = (n : Int) + 32 := IntWalk.i64_in _ (by omega)
  have q2 : IntKind.i64.wrap ((n : Int) + 31) = (n : Int) + 31 := IntWalk.i64_in _ (by omega)
  have q3 : Int.tdiv ((n : Int) + 31) 32 = (M : Int) := by rw [Int.tdiv_eq_ediv_of_nonneg (by omega)]; omega
  have q4 : IntKind.i64.wrap (M : Int) = (M : Int) := IntWalk.i64_in _ (by omega)
  obtain ⟨i0, hi, hz0, hz1, hz2⟩ := info_parts u8_infos
  have HT := Lib.hid hT
  have HI := Lib.hid hi
  have Z0 := Lib.hid hz0
  have Z1 := Lib.hid hz1
  have Z2 := Lib.hid hz2
  have EM := Lib.hid eM
  clear hT hi hz0 hz1 hz2 eM
  refine callsIn_of_wp_marks Tryd.func26 rfl trivial ?_ rfl
  simp only [Tryd.ntmps26, List.size_toArray, List.length_cons, List.length_nil, Nat.reduceAdd, Nat.reduceSub, Array.replicate_succ, Array.replicate_zero, List.push_toArray, List.append_toArray, List.nil_append, List.cons_append]
  gi_wp2_with (first
    | (gi_at_make; refine wpListIn_make_own _ rfl _ _ 33 rfl w.heap.size 5 i0 (.int .u8 0) 1 Tryd.underlying33 HI.out Z0.out Z1.out .i64 .i64 _ (n + 32) rfl rfl (by omega) (by rw [Z2.out]; omega) (by unfold maxLen; omega) (Nat.le_refl _) ?_; intro w1 hown1 hgrow1)
    | (gi_at_call 43; refine (callsIn_wide.2 (blocks_any x M _)).mono ?_; rintro e w' ⟨rfl, rfl⟩))
  have bw : Below w.heap.size w w1 := ⟨hgrow1.os, hgrow1.tape, hgrow1.output, hgrow1.size, fun k hk => hgrow1.block k hk (by simp)⟩
  have hgl : w.heap.size < w1.heap.size := by
    rcases hown1.2 with ⟨h, _⟩ | ⟨g, cap, cur, e, _, hg, _⟩
    · cases h
    · injection e with e; injection e with e; injection e with e; rw [← e] at hg; exact (Array.getElem?_eq_some_iff.1 hg).1
  have hB0 : Below w.heap.size w (((w1.alloc (.cells #[.slice (some ⟨w.heap.size, 0, none⟩) 0 (n + 32)] 33)).alloc (.cells #[.string x] 9)).alloc (.cells #[.int .i64 (M : Int)] 3)) := ((bw.alloc bw.size _).alloc (by simp; omega) _).alloc (by simp; omega) _
  have bO := ((Boxed.new w1 33 (.slice (some ⟨w.heap.size, 0, none⟩) 0 (n + 32))).alloc (.cells #[.string x] 9)).alloc (.cells #[.int .i64 (M : Int)] 3)
  have bS := (Boxed.new (w1.alloc (.cells #[.slice (some ⟨w.heap.size, 0, none⟩) 0 (n + 32)] 33)) 9 (.string x)).alloc (.cells #[.int .i64 (M : Int)] 3)
  have bN := Boxed.new ((w1.alloc (.cells #[.slice (some ⟨w.heap.size, 0, none⟩) 0 (n + 32)] 33)).alloc (.cells #[.string x] 9)) 3 (.int .i64 (M : Int))
  have hsz : (((w1.alloc (.cells #[.slice (some ⟨w.heap.size, 0, none⟩) 0 (n + 32)] 33)).alloc (.cells #[.string x] 9)).alloc (.cells #[.int .i64 (M : Int)] 3)).heap.size = w1.heap.size + 3 := by simp
  have hr1 := ((hown1.alloc (.cells #[.slice (some ⟨w.heap.size, 0, none⟩) 0 (n + 32)] 33)).alloc (.cells #[.string x] 9)).alloc (.cells #[.int .i64 (M : Int)] 3)
  simp only [World.size_alloc] at bS bN
  have hTl := HT.out.below hB0
  have g1 := HT.out.lt1
  have g2 := HT.out.lt2
  clear hown1 hgrow1 bw
  generalize ((w1.alloc (.cells #[.slice (some ⟨w.heap.size, 0, none⟩) 0 (n + 32)] 33)).alloc (.cells #[.string x] 9)).alloc (.cells #[.int .i64 (M : Int)] 3) = Wl at *
  obtain ⟨B5, eB5⟩ : ∃ B, w1.heap.size = B := ⟨_, rfl⟩
  rw [eB5] at bO bS bN hsz hgl
  rw [eB5]
  clear eB5
  refine wpIn_rangeFunc_ownH rfl (by omega) (gf := 64) (lb := #[.pointer (some ⟨B5 + 1 + 1, 0, none⟩), .pointer (some ⟨B5 + 1, 0, none⟩)]) rfl trivial (enters_of Tryd.func64 (by kernel_rfl) rfl)
    (blocks1_stops 4 (by omega) (B5 + 1 + 1) (B5 + 1) M x Wl (by have := EM.out; omega) hx bN.cell bS hTl) (fun h k => Kq.trans h k) (Kq.put (n₀ := w.heap.size) (by omega) g1 g2 (by omega)) (Below.refl _ _) (fun _ => rfl)
    (fun pre W => (∃ v, Boxed W B5 33 v ∧ W.ownsRow w.heap.size 5 1 v (32 * pre.length) ((bytesCome pre).map fun b => Value.int .u8 (b.toNat : Int)) ∧ v = .slice (some ⟨w.heap.size, 0, none⟩) (32 * pre.length) (n + 32)) ∧ Below w.heap.size w W ∧ Wl.heap.size ≤ W.heap.size)
    (fun _ _ _ => False)
    (OwnFrom.and (Own.from (holdsRow_own w.heap.size B5 33 5 1 (fun pre => 32 * pre.length) (fun pre => (bytesCome pre).map fun b => Value.int .u8 (b.toNat : Int)) (fun pre v => v = .slice (some ⟨w.heap.size, 0, none⟩) (32 * pre.length) (n + 32))) _) (OwnFrom.and (ownFrom_below (Nat.le_refl _) (by omega)) (fun _ _ _ _ hs hg _ => Nat.le_trans hs hg.size)))
    (fun _ _ _ _ _ hs _ _ => hs)
    ⟨⟨_, bO, hr1, rfl⟩, hB0, Nat.le_refl _⟩
    (fun h a' W => ∃ Bx, Wl.heap.size ≤ Bx ∧ W.heap[Bx]? = some (.cells (hashArr h.1) 24 (0, 0)) ∧ a' = { tmps := #[.string x, .int .i64 (n : Int), undef, undef, .string ⟨#[]⟩, .pointer (some ⟨B5, 0, none⟩), .pointer (some ⟨Bx, 0, none⟩), .int .i64 (n : Int), .bool false, .bool false, .int .i64 (n : Int), .bool false, .bool false, .int .i64 (n : Int), .int .i64 ((n : Int) + 32), .slice (some ⟨w.heap.size, 0, none⟩) 0 (n + 32), .string x, .int .i64 (n : Int), .int .i64 ((n : Int) + 31), .int .i64 (M : Int), .func (.func 64) #[] #[.pointer (some ⟨B5 + 1 + 1, 0, none⟩), .pointer (some ⟨B5 + 1, 0, none⟩)], .agg (hashArr h.1), undef, undef, undef, undef, undef, undef, undef], defers := [] })
    (fun h a' s X Y row ⟨Bx, hle, hs, e⟩ hg hr => ⟨Bx, hle, hash_row_own Bx _ _ s X Y row hs hg (fun r e => (hr r e).2), e⟩) ?assign ?body ?done ?stop
  case assign =>
    rintro l pre h W K ⟨⟨v, hv, hrow, rfl⟩, hB, hZ⟩ hK
    have hk := fun a' W' => hK a' W'
    have HL := Lib.hid h.2
    gi_wp2_with ((refine wpListIn_store_new rfl 24 (.tmp 6) (.tmp 21) rfl (hashArr h.1) rfl rfl 24 _ (hash_info _ HL.out) (by rw [hashArr_size, HL.out]; rfl) (hashArr_one _) ?_))
    have ga : W.grownBy (W.alloc (.cells (hashArr h.1) 24)) none := World.grownBy_alloc W _ none
    exact hK _ _ ((KeepsOthers.alloc _ _).from _) (Kq.grown (n₀ := w.heap.size) ga (by omega) (fun r e => by cases e) g1 g2) ⟨⟨_, hv.alloc _, hrow.alloc _, rfl⟩, hB.alloc hB.size _, by simp; omega⟩ ⟨W.heap.size, hZ, World.alloc_heap_new W _, rfl⟩
  case body =>
    rintro l pre h a' W hl ⟨r, hr⟩ ⟨⟨v, hv, hrow, rfl⟩, hB, hZ⟩ ⟨Bx, hBx, hbx, rfl⟩ hlt
    have p5 : ∀ d os, (grow (redrawn W d) os).cell? ⟨B5, 0, none⟩ = some (.slice (some ⟨w.heap.size, 0, none⟩) (32 * pre.length) (n + 32)) := fun d os => ((below_regrown W d os).cell (p := ⟨B5, 0, none⟩) hv.lt).trans hv.cell
    have HV := Lib.hid hv
    have HROW := Lib.hid hrow
    have HB := Lib.hid hB
    have HBX := Lib.hid hbx
    have HLE := Lib.hid hBx
    have HL := Lib.hid h.2
    have HLT := Lib.hid hlt
    clear hv hrow hB hbx hlt hBx hr
    gi_wp2
    refine wpIn_region_tail_below 2 (by kernel_rfl) (by kernel_rfl) (by kernel_rfl) ?_
    simp only [List.take_succ_cons, List.take_zero, List.drop_succ_cons, List.drop_zero]
    repeat (gi_big_quiet_step (fail))
    refine wpQuietIn_nil ?_
    intro _ hw'
    obtain ⟨⟨dq, osq⟩, hw''⟩ := hw'
    subst hw''
    have hq := below_regrown W dq osq
    have gq : W.grownBy (grow (redrawn W dq) osq) none := ⟨hq.os, hq.tape, hq.output, hq.size, fun k hk _ => hq.block k hk⟩
    have V1 := Lib.hid (HV.out.kept gq (by simp))
    have R1 := Lib.hid (HROW.out.kept gq (.inr (by simp [Value.ownBlock])))
    have X1 := Lib.hid (heap_below HBX.out hq)
    have BB := Lib.hid (HB.out.trans (hq.mono HB.out.size))
    have G1 := Lib.hid gq
    clear hq gq p5
    generalize grow (redrawn W dq) osq = V at *
    have XC : Hid (∀ j u, (hashArr h.1).toList[j]? = some u → V.cell? ((⟨Bx, 0, none⟩ : Addr).add j) = some u) := fun j u hu => by
      rw [add_none, cell_of_row _ _ _ _ _ _ X1.out, ← hu, Array.getElem?_toList]
    have XO : Hid (∀ u ∈ (hashArr h.1).toList, u.oneCell' = true) := fun u hu => by
      have := hashArr_one h.1
      rw [Array.all_eq_true_iff_forall_mem] at this
      exact this u (by simpa using hu)
    have BN : Hid (32 * pre.length + 32 ≤ n + 32) := by show _ ≤ _; have := HLT.out; have := EM.out; omega
    gi_wp2_with (gi_at_builtin; refine wpListIn_append_fits _ rfl _ _ 33 rfl w.heap.size 5 i0 1 Tryd.underlying33 HI.out Z1.out w.heap.size (32 * pre.length) (n + 32) _ rfl R1.out ⟨Bx, 0, none⟩ 32 32 (hashArr h.1).toList rfl (by rw [Array.length_toList, hashArr_size, HL.out]) XC.out XO.out BN.out ?_; intro w2 hown2 hgrow2; have V2 := V1.out.kept hgrow2 (by intro e; injection e with e; omega); have c2 := V2.cell; have f2 := V2.frozen; have HOWN2 := Lib.hid hown2; have HG2 := Lib.hid hgrow2; clear hown2 hgrow2)
    have gS := grownBy_setCell' w2 B5 (.slice (some ⟨w.heap.size, 0, none⟩) (32 * pre.length + 32) (n + 32))
    have s1 := G1.out.size
    have s2 := HG2.out.size
    have el : 32 * (pre ++ [h]).length = 32 * pre.length + 32 := by simp; omega
    have eb : (bytesCome (pre ++ [h])).map (fun b => Value.int .u8 (b.toNat : Int)) = (bytesCome pre).map (fun b => Value.int .u8 (b.toNat : Int)) ++ (hashArr h.1).toList := by rw [bytesCome_snoc, List.map_append]; simp [hashArr]
    refine ⟨((KeepsFrom.of_grownBy G1.out (fun j e => by cases e)).trans (KeepsFrom.of_grownBy HG2.out (fun j e => by cases e; omega))).trans (KeepsFrom.of_grownBy gS (fun j e => by cases e; omega)),
      Kq.trans (Kq.trans (Kq.grown (n₀ := w.heap.size) G1.out (by omega) (fun r e => by cases e) g1 g2) (Kq.grown (n₀ := w.heap.size) HG2.out (by omega) (fun r e => by cases e; exact ⟨by omega, by omega⟩) g1 g2)) (Kq.grown (n₀ := w.heap.size) gS (by omega) (fun r e => by cases e; exact ⟨by omega, by omega⟩) g1 g2),
      ⟨_, V2.set _, ?_, ?_⟩, (BB.out.grown HG2.out BB.out.size (fun k e => by cases e; exact Nat.le_refl _)).setCell (p := ⟨B5, 0, none⟩) (by show w.heap.size ≤ B5; omega) _, ?_⟩
    · rw [el, eb]
      exact HOWN2.out.kept gS (.inr (by simp only [Value.ownBlock, ne_eq, Option.some.injEq]; omega))
    · rw [el]
    · have := gS.size; omega
  case done =>
    rintro D ys W hD rfl ⟨⟨v, hv, hrow, rfl⟩, hB, hZ⟩ hK
    have hc := hv.cell
    obtain ⟨ys, eys⟩ : ∃ ys, (List.range M).map (blkH x.data.toList) = ys := ⟨_, rfl⟩
    rw [eys] at hrow hc
    have ly : ys.length = M := by rw [← eys]; simp
    have lb := bytesCome_length ys
    have cells : ∀ i, i < n → W.cell? ⟨w.heap.size, i, none⟩ = some (.int .u8 (((bytesCome ys).getD i 0).toNat : Nat)) := by
      intro i hi
      have hMn : n ≤ 32 * M := by have := EM.out; omega
      rcases hrow.2 with ⟨e, _⟩ | ⟨g, cap, cur, e, _, hg, _, _, _, ht⟩
      · cases e
      · injection e with e; injection e with e; injection e with e
        rw [← e] at hg
        rw [cell_of_row _ _ _ _ _ _ hg]
        have e2 : (cur.toList.take (32 * ys.length * 1))[i]? = some (.int .u8 (((bytesCome ys).getD i 0).toNat : Nat)) := by
          rw [ht, List.getElem?_map, List.getD_eq_getElem?_getD, List.getElem?_eq_getElem (show i < (bytesCome ys).length by omega)]; rfl
        rw [List.getElem?_take, if_pos (by omega)] at e2
        simpa using e2
    have hconv := conv_row (P := Tryd.prog) (T := 33) (w := W) (b := w.heap.size) (n := n) (c := n + 32) (g := fun i => ((bytesCome ys).getD i 0).toNat) Tryd.underlying33 Tryd.underlying5 Tryd.underlying9 cells
    have es : (List.range n).map (fun i => UInt8.ofNat ((bytesCome ys).getD i 0).toNat) = Sha.stream x.data.toList n := by
      have hMn : n ≤ 32 * M := by have := EM.out; omega
      have e0 : Sha.stream x.data.toList n = (bytesCome ys).take n := by
        unfold Sha.stream bytesCome
        rw [EM.out, ← eys, List.flatMap_map]
        rfl
      rw [e0]
      apply List.ext_getElem?
      intro i
      rw [List.getElem?_map, List.getElem?_take]
      by_cases hi : i < n
      · rw [List.getElem?_range hi, if_pos hi]
        show some (UInt8.ofNat ((bytesCome ys).getD i 0).toNat) = _
        rw [List.getD_eq_getElem?_getD, List.getElem?_eq_getElem (show i < (bytesCome ys).length by omega)]
        simp
      · rw [List.getElem?_eq_none (by simp; omega), if_neg hi]; rfl
    rw [es] at hconv
    have r1 : (0 : Int) ≤ (n : Int) := by omega
    have r2 : (n : Int) ≤ ((n : Int) + 32) := by omega
    have r3 : (n : Int).toNat = n := by omega
    have HB := Lib.hid hB
    have HK := Lib.hid hK
    clear cells es hB hK lb ly hrow hv
    gi_wp2
    refine ⟨by simp, .inl ⟨_, _, rfl, run_takeDeferred HK.out, ?_⟩⟩
    exact ⟨_, results_tmp rfl _ _ _, rfl, HB.out.trans (belowK_b (w := w) (Nat.le_refl _) W D _ _ (by omega) HK.out rfl rfl)⟩
  case stop =>
    rintro D c pre W _ _ h _
    exact h.elim
end Go.Proofs.YtkebipklcpplaaaDoor
