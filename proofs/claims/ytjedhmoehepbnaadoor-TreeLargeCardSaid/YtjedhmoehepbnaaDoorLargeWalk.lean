/- The walk of the law TreeLarge. -/
import Derived.Test.YtjedhmoehepbnaaDoorTreeAgree
import Derived.Test.YtjedhmoehepbnaaDoorTreeRefFits
import Derived.Test.YtjedhmoehepbnaaDoorSanity12
import Derived.Test.YtjedhmoehepbnaaDoorSliceHashes
import Derived.Deep.Cut
namespace Go.Proofs.YtjedhmoehepbnaaDoor
open Go.RowKit Go.Sort
set_option linter.unusedVariables false
/-- a Head without a root, written out -/
def bareHead (z : Int) : Array Value := #[.int .i64 z, .int .u8 0, .int .u8 0, .int .u8 0, .int .u8 0, .int .u8 0, .int .u8 0, .int .u8 0, .int .u8 0, .int .u8 0, .int .u8 0, .int .u8 0, .int .u8 0, .int .u8 0, .int .u8 0, .int .u8 0, .int .u8 0, .int .u8 0, .int .u8 0, .int .u8 0, .int .u8 0, .int .u8 0, .int .u8 0, .int .u8 0, .int .u8 0, .int .u8 0, .int .u8 0, .int .u8 0, .int .u8 0, .int .u8 0, .int .u8 0, .int .u8 0, .int .u8 0]
theorem bareHead_eq (z : Int) : bareHead z = headArr z Tree.zero := by kernel_rfl
/-- a Head in memory -/
def IsHeadAt (w : World) (v : Value) : Prop := ∃ g n l, v = .pointer (some ⟨g, 0, none⟩) ∧ List.length l = 32 ∧ w.heap[g]? = some (.cells (headArr n l) 36 (0, 0))
theorem isHeadAt {w : World} {g : Nat} {n : Int} {l : Tree.H} (hl : l.length = 32) (hg : w.heap[g]? = some (.cells (headArr n l) 36 (0, 0))) : IsHeadAt w (.pointer (some ⟨g, 0, none⟩)) := ⟨g, n, l, rfl, hl, hg⟩
def IsHead (v : Value) : Prop := ∃ (n : Int) (l : Tree.H), v = .agg (headArr n l) ∧ l.length = 32
theorem isHead (n : Int) {l : Tree.H} (hl : l.length = 32) : IsHead (.agg (headOf (.int .i64 n) (.agg (hashArr l)))) := ⟨n, l, rfl, hl⟩
theorem isBare (z : Int) : IsHead (.agg (bareHead z)) := by rw [bareHead_eq]; exact ⟨z, _, rfl, zero_length⟩
theorem wp_store_head {d : Option Tmp} {x y : Operand} {ty : TypeId} {pos : String} {after : Array Edge} {gd : Option (Nat × Bool)} {a : Act} {w : World} {K : Act → World → Prop} {Q : Exit → Act → World → Prop} (h0 : IsHeadAt w (a.eval x)) (h1 : IsHead (a.eval y)) :
    Oper.wp Tryd.prog ⟨d, .store 36 x y, ty, pos, after, gd⟩ a w K Q = K (a.put d undef) (w.setRow (blockOf (a.eval x)) (a.eval y).cells) := by
  obtain ⟨g, n, l, e, hl, hg⟩ := h0
  obtain ⟨n', l', e', hl'⟩ := h1
  unfold Oper.wp execOp
  simp only [e, e', blockOf_at, Value.cells, Instr.storeAt, Instr.sureAddr, Sem.run_bind, Sem.run_pure, Result.andThen_ok, run_storeVar_row w g 36 36 (headArr n l) (headArr n' l') hg (head_info n' l' hl') (by rw [headArr_size _ _ hl, headArr_size _ _ hl']) (headArr_one _ _)]
  rfl
theorem head_load {w : World} {b : Nat} {n : Int} {l : Tree.H} {t : TypeId} {fr : Nat × Nat} (hl : l.length = 32) (hb : w.heap[b]? = some (.cells (headArr n l) t fr)) :
    ∀ w', (∃ p : Regrown, w' = grow (redrawn w p.d) p.os) → (loadVar 36 ⟨b, 0, none⟩).run Tryd.prog w' = .ok (.agg (headArr n l)) w' :=
  load_regrown hb Tryd.underlying36 rfl (head_info n l hl)
/-- the two heads -/
def TwoHeads (w W : World) (n1 n2 : Int) (x y : Tree.H) (v8 v9 : Value) (V : World) : Prop :=
  Below w.heap.size w V ∧ ∃ p q, v8 = .pointer (some ⟨p, 0, none⟩) ∧ v9 = .pointer (some ⟨q, 0, none⟩) ∧ p ≠ q ∧ W.heap.size ≤ p ∧ W.heap.size ≤ q ∧ V.heap[p]? = some (.cells (headArr n1 x) 36 (0, 0)) ∧ V.heap[q]? = some (.cells (headArr n2 y) 36 (0, 0)) ∧ Below W.heap.size W V
theorem two_heads (w W : World) (z1 z2 : Int) (hB : Below w.heap.size w W) (p q : Nat) (hpq : p = W.heap.size ∧ q = W.heap.size + 1 ∨ p = W.heap.size + 1 ∧ q = W.heap.size) :
    TwoHeads w W z1 z2 Tree.zero Tree.zero (.pointer (some ⟨p, 0, none⟩)) (.pointer (some ⟨q, 0, none⟩)) (((((W.alloc (.cells (headArr 0 Tree.zero) 36)).alloc (.cells (headArr 0 Tree.zero) 36)).drew).setRow p (bareHead z1)).setRow q (bareHead z2)) := by
  have k1 : (((W.alloc (.cells (headArr 0 Tree.zero) 36)).alloc (.cells (headArr 0 Tree.zero) 36)).drew).heap[W.heap.size]? = some (.cells (headArr 0 Tree.zero) 36 (0, 0)) := heap2_old W (.cells (headArr 0 Tree.zero) 36) (.cells (headArr 0 Tree.zero) 36)
  have k2 : (((W.alloc (.cells (headArr 0 Tree.zero) 36)).alloc (.cells (headArr 0 Tree.zero) 36)).drew).heap[W.heap.size + 1]? = some (.cells (headArr 0 Tree.zero) 36 (0, 0)) := heap2_new W (.cells (headArr 0 Tree.zero) 36) (.cells (headArr 0 Tree.zero) 36)
  have A : Below W.heap.size W (((W.alloc (.cells (headArr 0 Tree.zero) 36)).alloc (.cells (headArr 0 Tree.zero) 36)).drew) := (((Below.refl _ _).alloc (Nat.le_refl _) _).alloc (by simp) _).drew
  have hw := hB.size
  rw [bareHead_eq, bareHead_eq]
  rcases hpq with ⟨rfl, rfl⟩ | ⟨rfl, rfl⟩
  · have hr := pair_rows (headArr z1 Tree.zero) (headArr z2 Tree.zero) k1 k2 (by omega)
    have S := below_setRow (below_setRow A (g := W.heap.size) (by omega) (headArr z1 Tree.zero)) (g := W.heap.size + 1) (by omega) (headArr z2 Tree.zero)
    exact ⟨below_join hB S, _, _, rfl, rfl, by omega, by omega, by omega, hr.1, hr.2, S⟩
  · have hr := pair_rows (headArr z1 Tree.zero) (headArr z2 Tree.zero) k2 k1 (by omega)
    have S := below_setRow (below_setRow A (g := W.heap.size + 1) (by omega) (headArr z1 Tree.zero)) (g := W.heap.size) (by omega) (headArr z2 Tree.zero)
    exact ⟨below_join hB S, _, _, rfl, rfl, by omega, by omega, by omega, hr.1, hr.2, S⟩
/-- the heads' roots are set -/
theorem roots_set {w V : World} {n1 n2 : Int} {p q : Nat} {x0 y0 x y : Tree.H} (l1 : x0.length = 32) (l2 : y0.length = 32) (lx : x.length = 32) (ly : y.length = 32) (hpq : p ≠ q) (hp : w.heap.size ≤ p) (hq : w.heap.size ≤ q) (hb : Below w.heap.size w V)
    (h1 : V.heap[p]? = some (.cells (headArr n1 x0) 36 (0, 0))) (h2 : V.heap[q]? = some (.cells (headArr n2 y0) 36 (0, 0))) :
    Below w.heap.size w ((V.setCells p 1 (hashArr x).toList).setCells q 1 (hashArr y).toList) ∧ ((V.setCells p 1 (hashArr x).toList).setCells q 1 (hashArr y).toList).heap[p]? = some (.cells (headArr n1 x) 36 (0, 0)) ∧ ((V.setCells p 1 (hashArr x).toList).setCells q 1 (hashArr y).toList).heap[q]? = some (.cells (headArr n2 y) 36 (0, 0)) :=
  ⟨below_setCells hq _ _ _ (below_setCells hp _ _ _ hb), (heap_setCells_ne hpq _ _ _).trans (head_setRoot l1 lx h1), head_setRoot l2 ly ((heap_setCells_ne (Ne.symm hpq) _ _ _).trans h2)⟩
attribute [local go_sem ↓] wp_alloc_head Go.wp_at_zero Go.wp_at_succ wp_store_head wp_load_mid_at wp_store_root
set_option maxHeartbeats 4000000 in
set_option maxRecDepth 100000 in
theorem large_at (z1 z2 i : Int) (ao : Option Addr) (n0 c : Nat) (hs0 : List Tree.H) (w : World) (w1 : z1 ≤ 9223372036854775807) (w2 : z2 ≤ 9223372036854775807) (hx : HsIn w ao n0 c hs0) (hT : Tabs w) :
    Calls Tryd.prog 10 #[.agg #[.int .i64 z1, .int .i64 z2], .int .i64 i, .slice ao n0 c] w fun e w' => e = .returned (.bool true) ∧ Below w.heap.size w w' := by
  obtain ⟨m, hm, hmn, hmin⟩ : ∃ m : Nat, m ≤ 70 ∧ m ≤ n0 ∧ min (n0 : Int) 70 = (m : Int) := ⟨min n0 70, by omega, by omega, by omega⟩
  have hle := hx.le
  have hcap := hx.cap
  have hcut := cut_hs ao n0 m c (by omega)
  have hp := hx.is.cut hx.len hmn
  obtain ⟨hs, ehs⟩ : ∃ l, hs0.take m = l := ⟨_, rfl⟩
  have lhs : hs.length = m := by rw [← ehs, List.length_take, hx.len]; omega
  rw [ehs] at hp
  have HP := Lib.hid hp
  have LHS := Lib.hid lhs
  have HT := Lib.hid hT
  have HMIN := Lib.hid hmin
  have b0 : Below w.heap.size w (w.alloc (.cells #[.int .i64 z1, .int .i64 z2] 42)) := (Below.refl _ _).alloc (Nat.le_refl _) _
  have C3 := Lib.hid (heap_alloc_new w (.cells #[.int .i64 z1, .int .i64 z2] 42))
  have B0 := Lib.hid b0
  clear hx hT ehs lhs hp b0 hmin
  go_enter Tryd.func10, Tryd.ntmps10
  go_wp2_with fail
  generalize w.alloc (.cells #[.int .i64 z1, .int .i64 z2] 42) = W0 at *
  refine (sanity12_any _ (HT.out.below B0.out)).mono ?_
  rintro e W1 ⟨rfl, hb1⟩
  have B1 := Lib.hid (below_join B0.out hb1)
  have C31 := Lib.hid (heap_below C3.out hb1)
  clear hb1 C3
  have hmin := HMIN.out
  have c0 : W1.cell? ⟨w.heap.size, 0, none⟩ = some (.int .i64 z1) := (cell_of_row _ _ 0 _ _ _ C31.out).trans rfl
  have c1 : W1.cell? ⟨w.heap.size, 1, none⟩ = some (.int .i64 z2) := (cell_of_row _ _ 1 _ _ _ C31.out).trans rfl
  go_upto_region 3 with fail
  clear hmin
  go_cut [8, 9] (fun v8 v9 wx => TwoHeads w W1 z1 z2 Tree.zero Tree.zero v8 v9 wx)
  case first =>
    have A1 : Below W1.heap.size W1 ((W1.alloc (.cells (headArr 0 Tree.zero) 36)).drew) := ((Below.refl _ _).alloc (Nat.le_refl _) _).drew
    have A2 : Below W1.heap.size W1 (((W1.alloc (.cells (headArr 0 Tree.zero) 36)).alloc (.cells (headArr 0 Tree.zero) 36)).drew) := (((Below.refl _ _).alloc (Nat.le_refl _) _).alloc (by simp) _).drew
    have k1 : (((W1.alloc (.cells (headArr 0 Tree.zero) 36)).alloc (.cells (headArr 0 Tree.zero) 36)).drew).heap[W1.heap.size]? = some (.cells (headArr 0 Tree.zero) 36 (0, 0)) := heap2_old W1 (.cells (headArr 0 Tree.zero) 36) (.cells (headArr 0 Tree.zero) 36)
    have k2 : (((W1.alloc (.cells (headArr 0 Tree.zero) 36)).alloc (.cells (headArr 0 Tree.zero) 36)).drew).heap[W1.heap.size + 1]? = some (.cells (headArr 0 Tree.zero) 36 (0, 0)) := heap2_new W1 (.cells (headArr 0 Tree.zero) 36) (.cells (headArr 0 Tree.zero) 36)
    have s1 : Below W1.heap.size W1 ((((W1.alloc (.cells (headArr 0 Tree.zero) 36)).alloc (.cells (headArr 0 Tree.zero) 36)).drew).setRow W1.heap.size (#[.int .i64 z1, .int .u8 0, .int .u8 0, .int .u8 0, .int .u8 0, .int .u8 0, .int .u8 0, .int .u8 0, .int .u8 0, .int .u8 0, .int .u8 0, .int .u8 0, .int .u8 0, .int .u8 0, .int .u8 0, .int .u8 0, .int .u8 0, .int .u8 0, .int .u8 0, .int .u8 0, .int .u8 0, .int .u8 0, .int .u8 0, .int .u8 0, .int .u8 0, .int .u8 0, .int .u8 0, .int .u8 0, .int .u8 0, .int .u8 0, .int .u8 0, .int .u8 0, .int .u8 0])) := below_setRow A2 (by omega) _
    have s2 : Below W1.heap.size W1 ((((W1.alloc (.cells (headArr 0 Tree.zero) 36)).alloc (.cells (headArr 0 Tree.zero) 36)).drew).setRow (W1.heap.size + 1) (#[.int .i64 z1, .int .u8 0, .int .u8 0, .int .u8 0, .int .u8 0, .int .u8 0, .int .u8 0, .int .u8 0, .int .u8 0, .int .u8 0, .int .u8 0, .int .u8 0, .int .u8 0, .int .u8 0, .int .u8 0, .int .u8 0, .int .u8 0, .int .u8 0, .int .u8 0, .int .u8 0, .int .u8 0, .int .u8 0, .int .u8 0, .int .u8 0, .int .u8 0, .int .u8 0, .int .u8 0, .int .u8 0, .int .u8 0, .int .u8 0, .int .u8 0, .int .u8 0, .int .u8 0])) := below_setRow A2 (by omega) _
    have lt0 := block_lt_of_cell c0
    have a1 := (A1.cell (p := ⟨w.heap.size, 0, none⟩) lt0).trans c0
    have a2 := (A1.cell (p := ⟨w.heap.size, 1, none⟩) lt0).trans c1
    have a3 := (A2.cell (p := ⟨w.heap.size, 0, none⟩) lt0).trans c0
    have a4 := (A2.cell (p := ⟨w.heap.size, 1, none⟩) lt0).trans c1
    have a5 := (s1.cell (p := ⟨w.heap.size, 0, none⟩) lt0).trans c0
    have a6 := (s1.cell (p := ⟨w.heap.size, 1, none⟩) lt0).trans c1
    have a7 := (s2.cell (p := ⟨w.heap.size, 0, none⟩) lt0).trans c0
    have a8 := (s2.cell (p := ⟨w.heap.size, 1, none⟩) lt0).trans c1
    have e1 := isHeadAt zero_length k1
    have e2 := isHeadAt zero_length k2
    have e3 := isHeadAt zero_length ((setRow_other _ W1.heap.size (W1.heap.size + 1) (#[.int .i64 z1, .int .u8 0, .int .u8 0, .int .u8 0, .int .u8 0, .int .u8 0, .int .u8 0, .int .u8 0, .int .u8 0, .int .u8 0, .int .u8 0, .int .u8 0, .int .u8 0, .int .u8 0, .int .u8 0, .int .u8 0, .int .u8 0, .int .u8 0, .int .u8 0, .int .u8 0, .int .u8 0, .int .u8 0, .int .u8 0, .int .u8 0, .int .u8 0, .int .u8 0, .int .u8 0, .int .u8 0, .int .u8 0, .int .u8 0, .int .u8 0, .int .u8 0, .int .u8 0]) (by omega)).trans k2)
    have e4 := isHeadAt zero_length ((setRow_other _ (W1.heap.size + 1) W1.heap.size (#[.int .i64 z1, .int .u8 0, .int .u8 0, .int .u8 0, .int .u8 0, .int .u8 0, .int .u8 0, .int .u8 0, .int .u8 0, .int .u8 0, .int .u8 0, .int .u8 0, .int .u8 0, .int .u8 0, .int .u8 0, .int .u8 0, .int .u8 0, .int .u8 0, .int .u8 0, .int .u8 0, .int .u8 0, .int .u8 0, .int .u8 0, .int .u8 0, .int .u8 0, .int .u8 0, .int .u8 0, .int .u8 0, .int .u8 0, .int .u8 0, .int .u8 0, .int .u8 0, .int .u8 0]) (by omega)).trans k1)
    have e5 : IsHead (.agg (#[.int .i64 z1, .int .u8 0, .int .u8 0, .int .u8 0, .int .u8 0, .int .u8 0, .int .u8 0, .int .u8 0, .int .u8 0, .int .u8 0, .int .u8 0, .int .u8 0, .int .u8 0, .int .u8 0, .int .u8 0, .int .u8 0, .int .u8 0, .int .u8 0, .int .u8 0, .int .u8 0, .int .u8 0, .int .u8 0, .int .u8 0, .int .u8 0, .int .u8 0, .int .u8 0, .int .u8 0, .int .u8 0, .int .u8 0, .int .u8 0, .int .u8 0, .int .u8 0, .int .u8 0])) := isBare z1
    have e6 : IsHead (.agg (#[.int .i64 z2, .int .u8 0, .int .u8 0, .int .u8 0, .int .u8 0, .int .u8 0, .int .u8 0, .int .u8 0, .int .u8 0, .int .u8 0, .int .u8 0, .int .u8 0, .int .u8 0, .int .u8 0, .int .u8 0, .int .u8 0, .int .u8 0, .int .u8 0, .int .u8 0, .int .u8 0, .int .u8 0, .int .u8 0, .int .u8 0, .int .u8 0, .int .u8 0, .int .u8 0, .int .u8 0, .int .u8 0, .int .u8 0, .int .u8 0, .int .u8 0, .int .u8 0, .int .u8 0])) := isBare z2
    have e7 := blockOf_at W1.heap.size
    have e8 := blockOf_at (W1.heap.size + 1)
    clear A1 A2 k1 k2 s1 s2 lt0
    have B1x := B1.out
    go_region
    all_goals
      go_wp2_with fail
      go_meet
      first
        | exact two_heads w W1 z1 z2 B1x W1.heap.size (W1.heap.size + 1) (.inl ⟨rfl, rfl⟩)
        | exact two_heads w W1 z1 z2 B1x (W1.heap.size + 1) W1.heap.size (.inr ⟨rfl, rfl⟩)
  case rest =>
    obtain ⟨hbc, p, q, rfl, rfl, hpq, hp1, hq1, hp2, hq2, hbW⟩ := hcut
    have hw1 := B1.out.size
    have hpw : w.heap.size ≤ p := by omega
    have hqw : w.heap.size ≤ q := by omega
    clear c0 c1 C31 B1 B0 hbW
    by_cases h0 : m = 0
    · have hd0 : decide ((0 : Int) < (m : Int)) = false := by simp; omega
      have hd1 : decide (0 < m) = false := by simp; omega
      have BQ := Lib.hid hbc
      have R1 := Lib.hid hp2
      have R2 := Lib.hid hq2
      have LZ := Lib.hid zero_length
      clear hbc hp2 hq2 h0
      go_wp2_with fail
      go_loopw [10] (fun v wr => ∃ k : Nat, v = .int .i64 k ∧ k ≤ m + 9 ∧ Below w.heap.size w wr ∧ wr.heap[p]? = some (.cells (headArr z1 Tree.zero) 36 (0, 0)) ∧ wr.heap[q]? = some (.cells (headArr z2 Tree.zero) 36 (0, 0))) (fun v _ => m + 10 - (intOf v).toNat)
      case atStart => exact ⟨0, rfl, by omega, BQ.out, R1.out, R2.out⟩
      case round =>
        obtain ⟨k, rfl, hk, hbw, hr1, hr2⟩ := hrel
        by_cases hkm : k ≤ m
        · have hd : decide ((k : Int) ≤ (m : Int)) = true := by simp; omega
          have hpw := (HP.out.below hbw).cut LHS.out hkm
          have lk : (hs.take k).length = k := by rw [List.length_take, LHS.out]; omega
          have hTw := HT.out.below hbw
          obtain ⟨b1, cf, cF⟩ := fits_agree z1 i Tree.zero ⟨#[120]⟩ ao k c (hs.take k) wr w1 hpw lk hTw (by decide) LZ.out
          obtain ⟨b2, cg, cG⟩ := grows_agree z1 z2 Tree.zero Tree.zero ao k c (hs.take k) wr w2 hpw lk hTw LZ.out LZ.out
          have CF := Lib.hid cf
          have CF2 := Lib.hid cF
          have CG := Lib.hid cg
          have CG2 := Lib.hid cG
          have L8 := Lib.hid (head_load LZ.out hr1)
          have L9 := Lib.hid (head_load LZ.out hr2)
          have HBW := Lib.hid hbw
          have HR1 := Lib.hid hr1
          have HR2 := Lib.hid hr2
          have hcut2 := cut_hs ao m k c (by omega)
          have qe : Int.tdiv (m : Int) 8 = ((m / 8 : Nat) : Int) := by rw [Int.tdiv_eq_ediv_of_nonneg (by omega)]; omega
          have q5 : IntKind.i64.wrap ((m / 8 : Nat) : Int) = ((m / 8 : Nat) : Int) := IntWalk.i64_in _ (by omega)
          have q6 : IntKind.i64.wrap (1 + ((m / 8 : Nat) : Int)) = 1 + ((m / 8 : Nat) : Int) := IntWalk.i64_in _ (by omega)
          have q7 : IntKind.i64.wrap ((k : Int) + (1 + ((m / 8 : Nat) : Int))) = (k : Int) + (1 + ((m / 8 : Nat) : Int)) := IntWalk.i64_in _ (by omega)
          have hm8 : m / 8 ≤ 8 := by omega
          generalize m / 8 = e8 at *
          clear cf cF cg cG hpw hTw hbw hr1 hr2 BQ R1 R2
          go_wp2_with fail
          refine wp_region_quiet_below (by kernel_rfl) (by kernel_rfl) ?_
          repeat (first | (refine quiet_load_row (by rfl) _ (.tmp 8) rfl _ _ rfl _ L8.out ?_; simp only [Act.put, List.setIfInBounds_toArray, List.set_cons_zero, List.set_cons_succ]) | (refine quiet_load_row (by rfl) _ (.tmp 9) rfl _ _ rfl _ L9.out ?_; simp only [Act.put, List.setIfInBounds_toArray, List.set_cons_zero, List.set_cons_succ]) | go_big_quiet_step ((first | with_reducible exact Calls.regrown_of (CF.out _ (below_regrown _ _ _)) | with_reducible exact Calls.regrown_of (CF2.out _ (below_regrown _ _ _)) | with_reducible exact Calls.regrown_of (CG.out _ (below_regrown _ _ _)) | with_reducible exact Calls.regrown_of (CG2.out _ (below_regrown _ _ _)))))
          refine wpQuiet_nil ?_
          intro _ hw'
          obtain ⟨⟨dq, osq⟩, hw''⟩ := hw'
          subst hw''
          have hq2 := below_regrown wr dq osq
          have BR := Lib.hid (below_join HBW.out hq2)
          have T1 := Lib.hid (heap_below HR1.out hq2)
          have T2 := Lib.hid (heap_below HR2.out hq2)
          clear hq2
          generalize grow (redrawn wr dq) osq = WQ at *
          go_wp2_with fail
          go_roundw
          case rel => exact ⟨k + (1 + e8), by go_num, by omega, BR.out, T1.out, T2.out⟩
          case measure => simp [intOf]; omega
        · have hd : decide ((k : Int) ≤ (m : Int)) = false := by simp; omega
          have HBW := Lib.hid hbw
          clear hbw hr1 hr2
          go_wp2_with fail
          go_ret
          exact ⟨rfl, HBW.out⟩
    · have hd0 : decide ((0 : Int) < (m : Int)) = true := by simp; omega
      obtain ⟨j, hj⟩ : ∃ j, m = j + 1 := ⟨m - 1, by omega⟩
      obtain ⟨b, o, rfl, _, _, hel⟩ := HP.out.last LHS.out (by omega)
      have hjw : IntKind.i64.wrap ((m : Int) - 1) = (j : Int) := by rw [show (m : Int) - 1 = (j : Int) by omega]; exact IntWalk.i64_in _ (by omega)
      have g1 : (0 : Int) ≤ (j : Int) := by omega
      have g2 : (j : Int) < (m : Int) := by omega
      have g3 : (j : Int).toNat = j := by omega
      have e0 := hel 0 (by omega)
      rw [show o + 0 * 32 = o by omega] at e0
      have ej := hel j (by omega)
      obtain ⟨x, ex⟩ : ∃ x, hs.getD 0 [] = x := ⟨_, rfl⟩
      obtain ⟨y, ey⟩ : ∃ y, hs.getD j [] = y := ⟨_, rfl⟩
      have lx : x.length = 32 := by rw [← ex]; exact HP.out.1.getD 0 (by rw [LHS.out]; omega)
      have ly : y.length = 32 := by rw [← ey]; exact HP.out.1.getD j (by rw [LHS.out]; omega)
      rw [ex] at e0
      rw [ey] at ej
      have LX := Lib.hid lx
      have LY := Lib.hid ly
      have hbn : b ≠ p := by have := range_lt e0 lx; omega
      have E0 := Lib.hid (range_below e0 hbc)
      have EJ := Lib.hid (range_below ej hbc)
      have HBC := Lib.hid hbc
      have HP2 := Lib.hid hp2
      have HQ2 := Lib.hid hq2
      clear hel e0 ej ex ey lx ly hj hbc hp2 hq2 h0
      go_upto_region 5 with fail
      go_cut [10] (fun _ wx => Below w.heap.size w wx ∧ wx.heap[p]? = some (.cells (headArr z1 x) 36 (0, 0)) ∧ wx.heap[q]? = some (.cells (headArr z2 y) 36 (0, 0)))
      case first =>
        have dr := (Below.refl wc.heap.size wc).drew
        have r0 := range_below E0.out dr
        have rj := range_below EJ.out dr
        have f1 := isMid LX.out r0
        have f2 := midOf_at LX.out r0
        have f3 := isMid LY.out rj
        have f4 := midOf_at LY.out rj
        have k1 := heap_below HP2.out dr
        have k2 := heap_below HQ2.out dr
        have s1 := isRootAt zero_length k1
        have s2 := isRootAt zero_length k2
        have s3 := isRootAt zero_length ((heap_setCells_ne (Ne.symm hpq) (hashArr x).toList 1 wc.drew).trans k2)
        have rk : (wc.drew.setCells p 1 (hashArr x).toList).rangeAt b (o + j * 32) (hashArr y).toList := World.rangeAt_setCells_apart rj p 1 _ (.inl hbn)
        have f5 := isMid LY.out rk
        have f6 := midOf_at LY.out rk
        have n1 := isHash LX.out
        have n2 := isHash LY.out
        have e7 : blockOf (.pointer (some ⟨p, 1, none⟩)) = p := rfl
        have e8 : blockOf (.pointer (some ⟨q, 1, none⟩)) = q := rfl
        have FIN := Lib.hid (roots_set (x := x) (y := y) zero_length zero_length LX.out LY.out hpq hpw hqw (below_join HBC.out dr) k1 k2)
        clear dr r0 rj k1 k2 rk
        go_region
        all_goals
          go_wp2_with fail
          go_meet
          exact FIN.out
      case rest =>
        obtain ⟨hbq, hr1, hr2⟩ := hcut
        have BQ := Lib.hid hbq
        have R1 := Lib.hid hr1
        have R2 := Lib.hid hr2
        clear hbq hr1 hr2 HBC HP2 HQ2 E0 EJ
        go_wp2_with fail
        go_loopw [10] (fun v wr => ∃ k : Nat, v = .int .i64 k ∧ k ≤ m + 9 ∧ Below w.heap.size w wr ∧ wr.heap[p]? = some (.cells (headArr z1 x) 36 (0, 0)) ∧ wr.heap[q]? = some (.cells (headArr z2 y) 36 (0, 0))) (fun v _ => m + 10 - (intOf v).toNat)
        case atStart => exact ⟨0, rfl, by omega, BQ.out, R1.out, R2.out⟩
        case round =>
          obtain ⟨k, rfl, hk, hbw, hr1, hr2⟩ := hrel
          by_cases hkm : k ≤ m
          · have hd : decide ((k : Int) ≤ (m : Int)) = true := by simp; omega
            have hpw := (HP.out.below hbw).cut LHS.out hkm
            have lk : (hs.take k).length = k := by rw [List.length_take, LHS.out]; omega
            have hTw := HT.out.below hbw
            obtain ⟨b1, cf, cF⟩ := fits_agree z1 i x ⟨#[120]⟩ (some ⟨b, o, none⟩) k c (hs.take k) wr w1 hpw lk hTw (by decide) LX.out
            obtain ⟨b2, cg, cG⟩ := grows_agree z1 z2 x y (some ⟨b, o, none⟩) k c (hs.take k) wr w2 hpw lk hTw LX.out LY.out
            have CF := Lib.hid cf
            have CF2 := Lib.hid cF
            have CG := Lib.hid cg
            have CG2 := Lib.hid cG
            have L8 := Lib.hid (head_load LX.out hr1)
            have L9 := Lib.hid (head_load LY.out hr2)
            have HBW := Lib.hid hbw
            have HR1 := Lib.hid hr1
            have HR2 := Lib.hid hr2
            have hcut2 := cut_hs (some ⟨b, o, none⟩) m k c (by omega)
            have qe : Int.tdiv (m : Int) 8 = ((m / 8 : Nat) : Int) := by rw [Int.tdiv_eq_ediv_of_nonneg (by omega)]; omega
            have q5 : IntKind.i64.wrap ((m / 8 : Nat) : Int) = ((m / 8 : Nat) : Int) := IntWalk.i64_in _ (by omega)
            have q6 : IntKind.i64.wrap (1 + ((m / 8 : Nat) : Int)) = 1 + ((m / 8 : Nat) : Int) := IntWalk.i64_in _ (by omega)
            have q7 : IntKind.i64.wrap ((k : Int) + (1 + ((m / 8 : Nat) : Int))) = (k : Int) + (1 + ((m / 8 : Nat) : Int)) := IntWalk.i64_in _ (by omega)
            have hm8 : m / 8 ≤ 8 := by omega
            generalize m / 8 = e8 at *
            clear cf cF cg cG hpw hTw hbw hr1 hr2 BQ R1 R2
            go_wp2_with fail
            refine wp_region_quiet_below (by kernel_rfl) (by kernel_rfl) ?_
            repeat (first | (refine quiet_load_row (by rfl) _ (.tmp 8) rfl _ _ rfl _ L8.out ?_; simp only [Act.put, List.setIfInBounds_toArray, List.set_cons_zero, List.set_cons_succ]) | (refine quiet_load_row (by rfl) _ (.tmp 9) rfl _ _ rfl _ L9.out ?_; simp only [Act.put, List.setIfInBounds_toArray, List.set_cons_zero, List.set_cons_succ]) | go_big_quiet_step ((first | with_reducible exact Calls.regrown_of (CF.out _ (below_regrown _ _ _)) | with_reducible exact Calls.regrown_of (CF2.out _ (below_regrown _ _ _)) | with_reducible exact Calls.regrown_of (CG.out _ (below_regrown _ _ _)) | with_reducible exact Calls.regrown_of (CG2.out _ (below_regrown _ _ _)))))
            refine wpQuiet_nil ?_
            intro _ hw'
            obtain ⟨⟨dq, osq⟩, hw''⟩ := hw'
            subst hw''
            have hq2 := below_regrown wr dq osq
            have BR := Lib.hid (below_join HBW.out hq2)
            have T1 := Lib.hid (heap_below HR1.out hq2)
            have T2 := Lib.hid (heap_below HR2.out hq2)
            clear hq2
            generalize grow (redrawn wr dq) osq = WQ at *
            go_wp2_with fail
            go_roundw
            case rel => exact ⟨k + (1 + e8), by go_num, by omega, BR.out, T1.out, T2.out⟩
            case measure => simp [intOf]; omega
          · have hd : decide ((k : Int) ≤ (m : Int)) = false := by simp; omega
            have HBW := Lib.hid hbw
            clear hbw hr1 hr2
            go_wp2_with fail
            go_ret
            exact ⟨rfl, HBW.out⟩
theorem walk_TreeLarge {w : World} (zs : List Int) (hl : zs.length = 2) (wz : ∀ z ∈ zs, (Lit.int .i64 z).wf = true) (i : Int) (ao : Option Addr) (n c : Nat) (hs : List Tree.H) (hx : HsIn w ao n c hs) (hT : Tabs w) :
    Calls Tryd.prog 10 #[.agg (zs.map (Value.int .i64)).toArray, .int .i64 i, .slice ao n c] w fun e w' => e = .returned (.bool true) ∧ Below w.heap.size w w' := by
  match zs, hl, wz with
  | [x, y], _, wz =>
    have h1 : -9223372036854775808 ≤ x ∧ x ≤ 9223372036854775807 := by simpa [Lit.wf, IntKind.min, IntKind.max, IntKind.signed, IntKind.bits] using wz x (by simp)
    have h2 : -9223372036854775808 ≤ y ∧ y ≤ 9223372036854775807 := by simpa [Lit.wf, IntKind.min, IntKind.max, IntKind.signed, IntKind.bits] using wz y (by simp)
    exact large_at x y i ao n c hs w h1.2 h2.2 hx hT
end Go.Proofs.YtjedhmoehepbnaaDoor
