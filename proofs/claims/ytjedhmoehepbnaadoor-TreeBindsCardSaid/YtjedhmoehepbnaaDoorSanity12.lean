/- The contract of the sanity of the laws of layer 12. -/
import Derived.Test.YtjedhmoehepbnaaDoorTreeSame
import Derived.Test.YtjedhmoehepbnaaDoorTreeOk
import Derived.Deep.DeepCutAuto
namespace Go.Proofs.YtjedhmoehepbnaaDoor
open Go.RowKit Go.Sort
set_option linter.unusedVariables false
/-- the walk stands at this very operation -/
theorem op_is {P : Program} {ops : Array Oper} {Q : Exit → Act → World → Prop} {rest : List Oper} {a : Act} {w : World} (o : Oper) (h : wpList P ops Q (o :: rest) a w) : wpList P ops Q (o :: rest) a w := h
/-- a new variable for a hash: a rule of the walk -/
theorem wp_alloc_hash {d : Option Tmp} {ty : TypeId} {pos : String} {after : Array Edge} {gd : Option (Nat × Bool)} {a : Act} {w : World} {K : Act → World → Prop} {Q : Exit → Act → World → Prop} :
    Oper.wp Tryd.prog ⟨d, .alloc 24, ty, pos, after, gd⟩ a w K Q = K (a.put d (.pointer (some ⟨w.heap.size, 0, none⟩))) (w.alloc (.cells (hashArr Tree.zero) 24)) := by
  obtain ⟨i0, hi, hz0, hz1, hz2⟩ := info_parts hash_infos
  unfold Oper.wp execOp
  simp [Instr.alloc, newVar, zeroValue, typeInfo, hi, hz0, go_sem]
  rfl
theorem zero_agg : Value.agg (hashArr (List.replicate 32 0)) = Value.agg (hashArr Tree.zero) := rfl
/-- 'api.Hash{}': a rule of the walk -/
theorem wp_build_zero {d : Option Tmp} {ty : TypeId} {pos : String} {after : Array Edge} {gd : Option (Nat × Bool)} {a : Act} {w : World} {K : Act → World → Prop} {Q : Exit → Act → World → Prop} :
    Oper.wp Tryd.prog ⟨d, .build 24 #[], ty, pos, after, gd⟩ a w K Q = K (a.put d (.agg (hashArr Tree.zero))) w := by
  obtain ⟨i0, hi, hz0, hz1, hz2⟩ := info_parts hash_infos
  rw [zero_agg] at hz0
  unfold Oper.wp execOp
  simp [Instr.build, Instr.fill, zeroValue, typeInfo, hi, hz0, run_underlying Tryd.underlying24, Tryd.sizeOf5, Oper.upon, Result.andThen, Value.cells]
theorem zero_length : Tree.zero.length = 32 := by simp [Tree.zero]
attribute [local go_sem ↓] wp_build_one wp_build_two wp_build_three wp_alloc_hash wp_build_zero

theorem heap4_0 (w : World) (a b c d : Obj) : ((((w.alloc a).alloc b).alloc c).alloc d).heap[w.heap.size]? = some a := by
  rw [heap_alloc_old _ _ (by simp only [World.size_alloc]; omega), heap_alloc_old _ _ (by simp only [World.size_alloc]; omega), heap_alloc_old _ _ (by simp)]; exact heap_alloc_new w a
theorem heap4_1 (w : World) (a b c d : Obj) : ((((w.alloc a).alloc b).alloc c).alloc d).heap[w.heap.size + 1]? = some b := by
  rw [heap_alloc_old _ _ (by simp only [World.size_alloc]; omega), heap_alloc_old _ _ (by simp)]
  have := heap_alloc_new (w.alloc a) b
  rwa [World.size_alloc] at this
theorem heap4_2 (w : World) (a b c d : Obj) : ((((w.alloc a).alloc b).alloc c).alloc d).heap[w.heap.size + 1 + 1]? = some c := by
  rw [heap_alloc_old _ _ (by simp)]
  have := heap_alloc_new ((w.alloc a).alloc b) c
  rwa [World.size_alloc, World.size_alloc] at this
theorem heap4_3 (w : World) (a b c d : Obj) : ((((w.alloc a).alloc b).alloc c).alloc d).heap[w.heap.size + 1 + 1 + 1]? = some d := by
  have := heap_alloc_new (((w.alloc a).alloc b).alloc c) d
  rwa [World.size_alloc, World.size_alloc, World.size_alloc] at this
theorem store4_1 (w : World) (a b c d : Obj) (x : Array Value) : (((((w.alloc a).alloc b).alloc c).alloc d).setRow w.heap.size x).heap[w.heap.size + 1]? = some b := by
  rw [setRow_other _ _ _ _ (by omega)]; exact heap4_1 w a b c d
theorem store4_2 (w : World) (a b c d : Obj) (x y : Array Value) : ((((((w.alloc a).alloc b).alloc c).alloc d).setRow w.heap.size x).setRow (w.heap.size + 1) y).heap[w.heap.size + 1 + 1]? = some c := by
  rw [setRow_other _ _ _ _ (by omega), setRow_other _ _ _ _ (by omega)]; exact heap4_2 w a b c d
theorem store4_3 (w : World) (a b c d : Obj) (x y z : Array Value) : (((((((w.alloc a).alloc b).alloc c).alloc d).setRow w.heap.size x).setRow (w.heap.size + 1) y).setRow (w.heap.size + 1 + 1) z).heap[w.heap.size + 1 + 1 + 1]? = some d := by
  rw [setRow_other _ _ _ _ (by omega), setRow_other _ _ _ _ (by omega), setRow_other _ _ _ _ (by omega)]; exact heap4_3 w a b c d
/-- the four leaves lie in memory -/
def FourAt (w : World) (a b c d : Tree.H) (s1 s2 s3 s4 : Value) (wx : World) : Prop :=
  ∃ b1 b2 b3 b4 : Nat, s1 = .pointer (some ⟨b1, 0, none⟩) ∧ s2 = .pointer (some ⟨b2, 0, none⟩) ∧ s3 = .pointer (some ⟨b3, 0, none⟩) ∧ s4 = .pointer (some ⟨b4, 0, none⟩) ∧
    wx.heap[b1]? = some (.cells (hashArr a) 24 (0, 0)) ∧ wx.heap[b2]? = some (.cells (hashArr b) 24 (0, 0)) ∧ wx.heap[b3]? = some (.cells (hashArr c) 24 (0, 0)) ∧ wx.heap[b4]? = some (.cells (hashArr d) 24 (0, 0)) ∧ Below w.heap.size w wx
theorem four_end {w w0 : World} {z0 z1 z2 z3 : Array Value} {a b c d : Tree.H} (hb : Below w.heap.size w w0) :
    FourAt w a b c d (.pointer (some ⟨w0.heap.size, 0, none⟩)) (.pointer (some ⟨w0.heap.size + 1, 0, none⟩)) (.pointer (some ⟨w0.heap.size + 1 + 1, 0, none⟩)) (.pointer (some ⟨w0.heap.size + 1 + 1 + 1, 0, none⟩))
      ((((((((w0.alloc (.cells z0 24)).alloc (.cells z1 24)).alloc (.cells z2 24)).alloc (.cells z3 24)).setRow w0.heap.size (hashArr a)).setRow (w0.heap.size + 1) (hashArr b)).setRow (w0.heap.size + 1 + 1) (hashArr c)).setRow (w0.heap.size + 1 + 1 + 1) (hashArr d)) := by
  refine ⟨_, _, _, _, rfl, rfl, rfl, rfl, ?_, ?_, ?_, ?_, ?_⟩
  · rw [setRow_other _ _ _ _ (by omega), setRow_other _ _ _ _ (by omega), setRow_other _ _ _ _ (by omega)]
    exact setRow_heap _ _ _ _ _ _ (heap4_0 _ _ _ _ _)
  · rw [setRow_other _ _ _ _ (by omega), setRow_other _ _ _ _ (by omega)]
    exact setRow_heap _ _ _ _ _ _ (store4_1 _ _ _ _ _ _)
  · rw [setRow_other _ _ _ _ (by omega)]
    exact setRow_heap _ _ _ _ _ _ (store4_2 _ _ _ _ _ _ _)
  · exact setRow_heap _ _ _ _ _ _ (store4_3 _ _ _ _ _ _ _ _)
  · have h := hb.size
    exact below_setRow (below_setRow (below_setRow (below_setRow ((((hb.alloc h _).alloc (by simp; omega) _).alloc (by simp; omega) _).alloc (by simp; omega) _) h _) (by omega) _) (by omega) _) (by omega) _
theorem old32 {z : Array Value} {h : Tree.H} (hz : z.size = 32) (hh : h.length = 32) : z.size = (hashArr h).size := by rw [hz, hashArr_size, hh]
/-- the four letters lie in memory -/
def LettersAt (w : World) (v : Value) (wx : World) : Prop := ∃ L : Nat, v = .slice (some ⟨L, 0, none⟩) 4 4 ∧ SAt wx L 0 [⟨#[97]⟩, ⟨#[98]⟩, ⟨#[99]⟩, ⟨#[100]⟩] ∧ Below w.heap.size w wx
theorem letters_short : Short [⟨#[97]⟩, ⟨#[98]⟩, ⟨#[99]⟩, ⟨#[100]⟩] := by
  intro s hs
  simp only [List.mem_cons, List.not_mem_nil, or_false] at hs
  rcases hs with rfl | rfl | rfl | rfl <;> (show 1 ≤ _; omega)
theorem letters_end (w : World) (t : TypeId) : LettersAt w (.slice (some ⟨w.heap.size, 0, none⟩) 4 4) (w.alloc (.cells #[.string ⟨#[97]⟩, .string ⟨#[98]⟩, .string ⟨#[99]⟩, .string ⟨#[100]⟩] t)) := by
  refine ⟨_, rfl, fun i hi => ?_, (Below.refl _ _).alloc (Nat.le_refl _) _⟩
  rw [Nat.zero_add, cell_of_row _ _ _ _ _ _ (heap_alloc_new w _)]
  match i, hi with
  | 0, _ => rfl
  | 1, _ => rfl
  | 2, _ => rfl
  | 3, _ => rfl
/-- what the sanity keeps in memory -/
def Mem (b1 b2 b3 b4 L : Nat) (ha hb hc hd : Tree.H) (W : World) : Prop :=
  (W.heap[b1]? = some (.cells (hashArr ha) 24 (0, 0)) ∧ W.heap[b2]? = some (.cells (hashArr hb) 24 (0, 0)) ∧ W.heap[b3]? = some (.cells (hashArr hc) 24 (0, 0)) ∧ W.heap[b4]? = some (.cells (hashArr hd) 24 (0, 0))) ∧
    SAt W L 0 [⟨#[97]⟩, ⟨#[98]⟩, ⟨#[99]⟩, ⟨#[100]⟩] ∧ Tabs W
theorem Mem.below {b1 b2 b3 b4 L : Nat} {ha hb hc hd : Tree.H} {W w1 : World} (h : Mem b1 b2 b3 b4 L ha hb hc hd W) (k : Below W.heap.size W w1) : Mem b1 b2 b3 b4 L ha hb hc hd w1 :=
  ⟨⟨heap_below h.1.1 k, heap_below h.1.2.1 k, heap_below h.1.2.2.1 k, heap_below h.1.2.2.2 k⟩, h.2.1.below k, h.2.2.below k⟩
theorem Mem.three {b1 b2 b3 b4 L : Nat} {ha hb hc hd : Tree.H} {W : World} (h : Mem b1 b2 b3 b4 L ha hb hc hd W) : IsStrs W (.slice (some ⟨L, 0, none⟩) 3 4) [⟨#[97]⟩, ⟨#[98]⟩, ⟨#[99]⟩] :=
  strs_at rfl (by omega) (by omega) (by omega) (h.2.1.take (k := 3)) (letters_short.take 3)
theorem Mem.four {b1 b2 b3 b4 L : Nat} {ha hb hc hd : Tree.H} {W : World} (h : Mem b1 b2 b3 b4 L ha hb hc hd W) : IsStrs W (.slice (some ⟨L, 0, none⟩) 4 4) [⟨#[97]⟩, ⟨#[98]⟩, ⟨#[99]⟩, ⟨#[100]⟩] :=
  strs_at rfl (by omega) (by omega) (by omega) h.2.1 letters_short
theorem each1 {a : Tree.H} (ha : a.length = 32) : Each [a] := by intro y hy; rw [List.mem_singleton.1 hy]; exact ha
theorem each2 {a b : Tree.H} (ha : a.length = 32) (hb : b.length = 32) : Each [a, b] := by
  intro y hy
  rcases List.mem_cons.1 hy with rfl | hy
  · exact ha
  · exact each1 hb y hy
theorem each3 {a b c : Tree.H} (ha : a.length = 32) (hb : b.length = 32) (hc : c.length = 32) : Each [a, b, c] := by
  intro y hy
  rcases List.mem_cons.1 hy with rfl | hy
  · exact ha
  · exact each2 hb hc y hy
/-- a literal of hashes reads as their list -/
theorem hs_new (W : World) (hs : List Tree.H) (n : Nat) (cells : Array Value) (t : TypeId) (he : Each hs) (hn : hs.length = n) (h0 : 0 < n) (h1 : n ≤ 1000) (hc : cells = (flat hs).toArray) : IsHs (W.alloc (.cells cells t)) (.slice (some ⟨W.heap.size, 0, none⟩) n n) hs := by
  subst hn hc
  refine ⟨he, .inr ⟨_, 0, _, rfl, h0, Nat.le_refl _, by omega, fun i hi j u hu => ?_⟩⟩
  have hj : j < 32 := by
    have := (List.getElem?_eq_some_iff.1 hu).1
    rw [Array.length_toList, hashArr_size, he.getD i hi] at this
    exact this
  rw [Nat.zero_add, cell_of_row _ _ _ _ _ _ (heap_alloc_new W _)]
  rw [← flat_get hs he i j hi hj] at hu
  simpa using hu
theorem same_is (va vb : Value) (hs : List Tree.H) (w : World) (ha : IsHs w va hs) (hb : IsHs w vb hs) : Calls Tryd.prog 29 #[va, vb] w fun e w' => e = .returned (.bool true) ∧ Below w.heap.size w w' := by
  have := same_any va vb hs hs w ha hb
  rw [show (hs == hs) = true by simp] at this
  exact this
set_option maxHeartbeats 2000000 in
set_option maxRecDepth 100000 in
theorem sanity12_any (w : World) (hT : Tabs w) : Calls Tryd.prog 13 #[] w fun e w' => e = .returned (.bool true) ∧ Below w.heap.size w w' := by
  have hne := Tree.leaf_a
  obtain ⟨ha, eha⟩ : ∃ x, Tree.leaf ⟨#[97]⟩ = x := ⟨_, rfl⟩
  obtain ⟨hb, ehb⟩ : ∃ x, Tree.leaf ⟨#[98]⟩ = x := ⟨_, rfl⟩
  obtain ⟨hc, ehc⟩ : ∃ x, Tree.leaf ⟨#[99]⟩ = x := ⟨_, rfl⟩
  obtain ⟨hd, ehd⟩ : ∃ x, Tree.leaf ⟨#[100]⟩ = x := ⟨_, rfl⟩
  rw [eha] at hne
  have LA : Hid (ha.length = 32) := by show _ = _; rw [← eha]; exact Tree.leaf_length _
  have LB : Hid (hb.length = 32) := by show _ = _; rw [← ehb]; exact Tree.leaf_length _
  have LC : Hid (hc.length = 32) := by show _ = _; rw [← ehc]; exact Tree.leaf_length _
  have LD : Hid (hd.length = 32) := by show _ = _; rw [← ehd]; exact Tree.leaf_length _
  have HNE := Lib.hid hne
  have EA := Lib.hid eha
  have EB := Lib.hid ehb
  have EC := Lib.hid ehc
  have ED := Lib.hid ehd
  have HT := Lib.hid hT
  clear hne eha ehb ehc ehd hT
  go_enter Tryd.func13, Tryd.ntmps13
  go_upto_region 1 with fail
  go_cut [1, 2, 3, 4] (fun s1 s2 s3 s4 wx => FourAt w ha hb hc hd s1 s2 s3 s4 wx)
  case first =>
    go_wp2_with fail
    refine (leaf_any ⟨#[97]⟩ ha _ (by show 1 ≤ _; omega) HT.out EA.out).mono ?_
    rintro e w1 ⟨rfl, hb1⟩
    have HT1 := Lib.hid (HT.out.below hb1)
    go_wp2_with fail
    refine (leaf_any ⟨#[98]⟩ hb _ (by show 1 ≤ _; omega) HT1.out EB.out).mono ?_
    rintro e w2 ⟨rfl, hb2⟩
    have HT2 := Lib.hid (HT1.out.below hb2)
    go_wp2_with fail
    refine (leaf_any ⟨#[99]⟩ hc _ (by show 1 ≤ _; omega) HT2.out EC.out).mono ?_
    rintro e w3 ⟨rfl, hb3⟩
    have HT3 := Lib.hid (HT2.out.below hb3)
    go_wp2_with fail
    refine (leaf_any ⟨#[100]⟩ hd _ (by show 1 ≤ _; omega) HT3.out ED.out).mono ?_
    rintro e w4 ⟨rfl, hb4⟩
    have HB4 := Lib.hid (below_join (below_join (below_join hb1 hb2) hb3) hb4)
    clear hb1 hb2 hb3 hb4
    have G0 := Lib.hid (heap4_0 w4 (.cells (hashArr Tree.zero) 24) (.cells (hashArr Tree.zero) 24) (.cells (hashArr Tree.zero) 24) (.cells (hashArr Tree.zero) 24))
    have G1 := Lib.hid (store4_1 w4 (.cells (hashArr Tree.zero) 24) (.cells (hashArr Tree.zero) 24) (.cells (hashArr Tree.zero) 24) (.cells (hashArr Tree.zero) 24) (hashArr ha))
    have G2 := Lib.hid (store4_2 w4 (.cells (hashArr Tree.zero) 24) (.cells (hashArr Tree.zero) 24) (.cells (hashArr Tree.zero) 24) (.cells (hashArr Tree.zero) 24) (hashArr ha) (hashArr hb))
    have G3 := Lib.hid (store4_3 w4 (.cells (hashArr Tree.zero) 24) (.cells (hashArr Tree.zero) 24) (.cells (hashArr Tree.zero) 24) (.cells (hashArr Tree.zero) 24) (hashArr ha) (hashArr hb) (hashArr hc))
    have O0 := Lib.hid (old32 (z := hashArr Tree.zero) (by rw [hashArr_size]; exact zero_length) LA.out)
    have O1 := Lib.hid (old32 (z := hashArr Tree.zero) (by rw [hashArr_size]; exact zero_length) LB.out)
    have O2 := Lib.hid (old32 (z := hashArr Tree.zero) (by rw [hashArr_size]; exact zero_length) LC.out)
    have O3 := Lib.hid (old32 (z := hashArr Tree.zero) (by rw [hashArr_size]; exact zero_length) LD.out)
    go_wp2_with (first
      | ((with_reducible refine op_is ⟨none, .store 24 (.tmp 1) (.tmp 18), _, _, _, _⟩ ?_); refine wpList_store_row rfl 24 (.tmp 1) (.tmp 18) rfl w4.heap.size (hashArr ha) rfl rfl 24 (hashArr Tree.zero) G0.out (hash_info _ LA.out) O0.out (hashArr_one _) ?_)
      | ((with_reducible refine op_is ⟨none, .store 24 (.tmp 2) (.tmp 19), _, _, _, _⟩ ?_); refine wpList_store_row rfl 24 (.tmp 2) (.tmp 19) rfl (w4.heap.size + 1) (hashArr hb) rfl rfl 24 (hashArr Tree.zero) G1.out (hash_info _ LB.out) O1.out (hashArr_one _) ?_)
      | ((with_reducible refine op_is ⟨none, .store 24 (.tmp 3) (.tmp 20), _, _, _, _⟩ ?_); refine wpList_store_row rfl 24 (.tmp 3) (.tmp 20) rfl (w4.heap.size + 1 + 1) (hashArr hc) rfl rfl 24 (hashArr Tree.zero) G2.out (hash_info _ LC.out) O2.out (hashArr_one _) ?_)
      | ((with_reducible refine op_is ⟨none, .store 24 (.tmp 4) (.tmp 21), _, _, _, _⟩ ?_); refine wpList_store_row rfl 24 (.tmp 4) (.tmp 21) rfl (w4.heap.size + 1 + 1 + 1) (hashArr hd) rfl rfl 24 (hashArr Tree.zero) G3.out (hash_info _ LD.out) O3.out (hashArr_one _) ?_))
    go_meet
    exact four_end HB4.out
  case rest =>
    obtain ⟨b1, b2, b3, b4, rfl, rfl, rfl, rfl, k1, k2, k3, k4, hbc⟩ := hcut
    have K1 := Lib.hid k1
    have K2 := Lib.hid k2
    have K3 := Lib.hid k3
    have K4 := Lib.hid k4
    have HTc := Lib.hid (HT.out.below hbc)
    have HBc := Lib.hid hbc
    clear k1 k2 k3 k4 hbc HT
    go_upto_region 2 with fail
    go_cut [5] (fun s5 wx => LettersAt wc s5 wx)
    case first =>
      go_wp2_with fail
      go_meet
      exact letters_end wc _
    case rest =>
      obtain ⟨L, rfl, hS, hb5⟩ := hcut
      have K1' := Lib.hid (heap_below K1.out hb5)
      have K2' := Lib.hid (heap_below K2.out hb5)
      have K3' := Lib.hid (heap_below K3.out hb5)
      have K4' := Lib.hid (heap_below K4.out hb5)
      have HTd := Lib.hid (HTc.out.below hb5)
      have HBd := Lib.hid (HBc.out.trans (hb5.mono HBc.out.size))
      have M := Lib.hid (show Mem b1 b2 b3 b4 L ha hb hc hd _ from ⟨⟨K1'.out, K2'.out, K3'.out, K4'.out⟩, hS, HTd.out⟩)
      obtain ⟨ab, eab⟩ : ∃ x, Tree.node ha hb = x := ⟨_, rfl⟩
      obtain ⟨top, etop⟩ : ∃ x, Tree.node ab hc = x := ⟨_, rfl⟩
      have LAB : Hid (ab.length = 32) := by show _ = _; rw [← eab]; exact Tree.node_length _ _
      have LTOP : Hid (top.length = 32) := by show _ = _; rw [← etop]; exact Tree.node_length _ _
      have zz : (hashArr Tree.zero).size = 32 := by rw [hashArr_size]; exact zero_length
      have z2 : (hashArr hb).size = 32 := by rw [hashArr_size]; exact LB.out
      have z3 : (hashArr hc).size = 32 := by rw [hashArr_size]; exact LC.out
      have z4 : (hashArr hd).size = 32 := by rw [hashArr_size]; exact LD.out
      have z6 : (hashArr ab).size = 32 := by rw [hashArr_size]; exact LAB.out
      have p1 : Tree.path 2 [⟨#[97]⟩, ⟨#[98]⟩, ⟨#[99]⟩] 2 = [ab] := by rw [Tree.san_p2, EA.out, EB.out, eab]
      have p2 : Tree.path 2 [⟨#[97]⟩, ⟨#[98]⟩, ⟨#[99]⟩] 0 = [hb, hc] := by rw [Tree.san_p0, EB.out, EC.out]
      have p3 : Tree.growth 2 [⟨#[97]⟩, ⟨#[98]⟩, ⟨#[99]⟩] 2 true = [hc] := by rw [Tree.san_g2, EC.out]
      have p4 : Tree.growth 2 [⟨#[97]⟩, ⟨#[98]⟩, ⟨#[99]⟩, ⟨#[100]⟩] 3 true = [hc, hd, ab] := by rw [Tree.san_g3, EA.out, EB.out, EC.out, ED.out, eab]
      have p5 : Tree.growth 2 [⟨#[97]⟩, ⟨#[98]⟩, ⟨#[99]⟩] 1 true = [hb, hc] := by rw [Tree.san_g1, EB.out, EC.out]
      have p6 : Tree.root 2 [⟨#[97]⟩, ⟨#[98]⟩, ⟨#[99]⟩] = top := by rw [Tree.san_root, EA.out, EB.out, EC.out, eab, etop]
      have C0 : Hid (∀ W, Mem b1 b2 b3 b4 L ha hb hc hd W → Calls Tryd.prog 18 #[.agg (hashArr ha), .agg (hashArr hb)] W fun e w' => e = .returned (.agg (hashArr ab)) ∧ Below W.heap.size W w') := fun W h => node_any ha hb ab LA.out LB.out W h.2.2 eab
      have C1 : Hid (∀ W, Mem b1 b2 b3 b4 L ha hb hc hd W → Calls Tryd.prog 28 #[.slice (some ⟨L, 0, none⟩) 3 4, .int .i64 2] W (GivesB [ab] true W)) := fun W h => path_yes 2 _ _ 2 [ab] W (by show 3 ≤ 4; omega) (by omega) h.three (by show 2 < 3; omega) h.2.2 p1
      have C2 : Hid (∀ W, Mem b1 b2 b3 b4 L ha hb hc hd W → Calls Tryd.prog 28 #[.slice (some ⟨L, 0, none⟩) 3 4, .int .i64 0] W (GivesB [hb, hc] true W)) := fun W h => path_yes 2 _ _ 0 [hb, hc] W (by show 3 ≤ 4; omega) (by omega) h.three (by show 0 < 3; omega) h.2.2 p2
      have C3 : Hid (∀ W, Mem b1 b2 b3 b4 L ha hb hc hd W → Calls Tryd.prog 34 #[.slice (some ⟨L, 0, none⟩) 3 4, .int .i64 2] W (GivesB [hc] true W)) := fun W h => growth_yes 2 _ _ 2 [hc] W (by show 3 ≤ 4; omega) (by omega) h.three (by omega) (by show 2 ≤ 3; omega) h.2.2 p3
      have C4 : Hid (∀ W, Mem b1 b2 b3 b4 L ha hb hc hd W → Calls Tryd.prog 34 #[.slice (some ⟨L, 0, none⟩) 4 4, .int .i64 3] W (GivesB [hc, hd, ab] true W)) := fun W h => growth_yes 2 _ _ 3 [hc, hd, ab] W (by show 4 ≤ 4; omega) (by omega) h.four (by omega) (by show 3 ≤ 4; omega) h.2.2 p4
      have C5 : Hid (∀ W, Mem b1 b2 b3 b4 L ha hb hc hd W → Calls Tryd.prog 34 #[.slice (some ⟨L, 0, none⟩) 3 4, .int .i64 1] W (GivesB [hb, hc] true W)) := fun W h => growth_yes 2 _ _ 1 [hb, hc] W (by show 3 ≤ 4; omega) (by omega) h.three (by omega) (by show 1 ≤ 3; omega) h.2.2 p5
      have C6 : Hid (∀ W, Mem b1 b2 b3 b4 L ha hb hc hd W → Calls Tryd.prog 16 #[.slice (some ⟨L, 0, none⟩) 3 4] W fun e w' => e = .returned (.agg (hashArr top)) ∧ Below W.heap.size W w') := fun W h => root_any 2 _ _ top W (by show 3 ≤ 4; omega) h.three h.2.2 p6
      have C7 : Hid (∀ W, Mem b1 b2 b3 b4 L ha hb hc hd W → Calls Tryd.prog 18 #[.agg (hashArr ab), .agg (hashArr hc)] W fun e w' => e = .returned (.agg (hashArr top)) ∧ Below W.heap.size W w') := fun W h => node_any ab hc top LAB.out LC.out W h.2.2 etop
      have hne : ∀ W, (binOp .eql 24 (.agg (hashArr ha)) (.agg (hashArr Tree.zero))).run Tryd.prog W = .ok (.bool false) W := fun W => by
        have e := hash_eql ha Tree.zero LA.out zero_length W
        rw [show (ha == Tree.zero) = false from HNE.out] at e
        exact e
      have hnq : ∀ W, (binOp .neq 24 (.agg (hashArr top)) (.agg (hashArr top))).run Tryd.prog W = .ok (.bool false) W := fun W => by
        have e := hash_neq top top LTOP.out LTOP.out W
        rw [show (!(top == top)) = false by simp] at e
        exact e
      clear K1 K2 K3 K4 HTc HBc hS hb5 eab etop p1 p2 p3 p4 p5 p6 HNE K1' K2' K3' K4' HTd
      go_wp2_with (first | ((with_reducible refine op_is ⟨_, .load 24 (.tmp 1), _, _, _, _⟩ ?_); refine wpList_load_row rfl 24 (.tmp 1) rfl b1 rfl 24 (hashArr ha) (0, 0) _ M.out.1.1 Tryd.underlying24 rfl (hash_info _ LA.out) ?_) | ((with_reducible refine op_is ⟨_, .load 24 (.tmp 2), _, _, _, _⟩ ?_); refine wpList_load_row rfl 24 (.tmp 2) rfl b2 rfl 24 (hashArr hb) (0, 0) _ M.out.1.2.1 Tryd.underlying24 rfl (hash_info _ LB.out) ?_))
      with_reducible refine (C0.out _ M.out).mono ?_
      rintro e w6 ⟨rfl, hb6⟩
      have hb7 := hb6.alloc hb6.size (.cells (hashArr ab) 24)
      have M7 := Lib.hid (M.out.below hb7)
      have N7 := Lib.hid (heap_alloc_new w6 (.cells (hashArr ab) 24))
      have HB7 := Lib.hid (HBd.out.trans (hb7.mono HBd.out.size))
      clear hb6 hb7 M HBd
      go_wp2_with ((with_reducible refine op_is ⟨none, .store 24 (.tmp 6) (.tmp 25), _, _, _, _⟩ ?_); refine store_hash (l := ab) LAB.out zz (.tmp 6) (.tmp 25) rfl rfl rfl rfl rfl ?_)
      generalize hW7 : w6.alloc (.cells (hashArr ab) 24) = W7 at *
      generalize w6.heap.size = b6 at *
      clear hW7
      go_wp2_with fail
      with_reducible refine (C1.out _ M7.out).mono ?_
      rintro e v0w ⟨x0, rfl, own0, hbx0⟩
      have M80 := Lib.hid (M7.out.below hbx0)
      have N80 := Lib.hid (heap_below N7.out hbx0)
      have HB80 := Lib.hid (HB7.out.trans (hbx0.mono HB7.out.size))
      have X0 := Lib.hid own0.is
      clear hbx0 own0 M7 N7 HB7
      go_wp2_with fail
      with_reducible refine (C2.out _ M80.out).mono ?_
      rintro e v1w ⟨x1, rfl, own1, hbx1⟩
      have M81 := Lib.hid (M80.out.below hbx1)
      have N81 := Lib.hid (heap_below N80.out hbx1)
      have HB81 := Lib.hid (HB80.out.trans (hbx1.mono HB80.out.size))
      have X0 := Lib.hid (X0.out.below hbx1)
      have X1 := Lib.hid own1.is
      clear hbx1 own1 M80 N80 HB80
      go_wp2_with fail
      with_reducible refine (C3.out _ M81.out).mono ?_
      rintro e v2w ⟨x2, rfl, own2, hbx2⟩
      have M82 := Lib.hid (M81.out.below hbx2)
      have N82 := Lib.hid (heap_below N81.out hbx2)
      have HB82 := Lib.hid (HB81.out.trans (hbx2.mono HB81.out.size))
      have X0 := Lib.hid (X0.out.below hbx2)
      have X1 := Lib.hid (X1.out.below hbx2)
      have X2 := Lib.hid own2.is
      clear hbx2 own2 M81 N81 HB81
      go_wp2_with fail
      with_reducible refine (C4.out _ M82.out).mono ?_
      rintro e v3w ⟨x3, rfl, own3, hbx3⟩
      have M83 := Lib.hid (M82.out.below hbx3)
      have N83 := Lib.hid (heap_below N82.out hbx3)
      have HB83 := Lib.hid (HB82.out.trans (hbx3.mono HB82.out.size))
      have X0 := Lib.hid (X0.out.below hbx3)
      have X1 := Lib.hid (X1.out.below hbx3)
      have X2 := Lib.hid (X2.out.below hbx3)
      have X3 := Lib.hid own3.is
      clear hbx3 own3 M82 N82 HB82
      go_wp2_with fail
      with_reducible refine (C5.out _ M83.out).mono ?_
      rintro e v4w ⟨x4, rfl, own4, hbx4⟩
      have M84 := Lib.hid (M83.out.below hbx4)
      have N84 := Lib.hid (heap_below N83.out hbx4)
      have HB84 := Lib.hid (HB83.out.trans (hbx4.mono HB83.out.size))
      have X0 := Lib.hid (X0.out.below hbx4)
      have X1 := Lib.hid (X1.out.below hbx4)
      have X2 := Lib.hid (X2.out.below hbx4)
      have X3 := Lib.hid (X3.out.below hbx4)
      have X4 := Lib.hid own4.is
      clear hbx4 own4 M83 N83 HB83
      have hbz : Below v4w.heap.size v4w (v4w.alloc (.cells (hashArr Tree.zero) 24)) := (Below.refl _ _).alloc (Nat.le_refl _) _
      have M9 := Lib.hid (M84.out.below hbz)
      have N9 := Lib.hid (heap_below N84.out hbz)
      have Z9 := Lib.hid (heap_alloc_new v4w (.cells (hashArr Tree.zero) 24))
      have HB9 := Lib.hid (HB84.out.trans (hbz.mono HB84.out.size))
      have X0 := Lib.hid (X0.out.below hbz)
      have X1 := Lib.hid (X1.out.below hbz)
      have X2 := Lib.hid (X2.out.below hbz)
      have X3 := Lib.hid (X3.out.below hbz)
      have X4 := Lib.hid (X4.out.below hbz)
      clear hbz M84 N84 HB84
      go_wp2_with ((with_reducible refine op_is ⟨none, .store 24 (.tmp 17) (.tmp 55), _, _, _, _⟩ ?_); refine store_hash (l := Tree.zero) zero_length zz (.tmp 17) (.tmp 55) rfl rfl rfl rfl rfl ?_)
      generalize v4w.alloc (.cells (hashArr Tree.zero) 24) = W9 at *
      generalize v4w.heap.size = b9 at *
      have L1 := Lib.hid (hash_load LA.out M9.out.1.1)
      have L3 := Lib.hid (hash_load LC.out M9.out.1.2.2.1)
      have L6 := Lib.hid (hash_load LAB.out N9.out)
      have L9 := Lib.hid (hash_load zero_length Z9.out)
      refine wp_region_quiet_below (by kernel_rfl) (by kernel_rfl) ?_
      repeat (first
        | (refine quiet_load_row (by rfl) _ (.tmp 1) rfl _ _ rfl _ L1.out ?_; simp only [Act.put, List.setIfInBounds_toArray, List.set_cons_zero, List.set_cons_succ])
        | (refine quiet_load_row (by rfl) _ (.tmp 17) rfl _ _ rfl _ L9.out ?_; simp only [Act.put, List.setIfInBounds_toArray, List.set_cons_zero, List.set_cons_succ])
        | (refine quiet_load_row (by rfl) _ (.tmp 6) rfl _ _ rfl _ L6.out ?_; simp only [Act.put, List.setIfInBounds_toArray, List.set_cons_zero, List.set_cons_succ])
        | (refine quiet_load_row (by rfl) _ (.tmp 3) rfl _ _ rfl _ L3.out ?_; simp only [Act.put, List.setIfInBounds_toArray, List.set_cons_zero, List.set_cons_succ])
        | go_big_quiet_step ((first | with_reducible exact Calls.regrown_of (C6.out _ (M9.out.below (below_regrown _ _ _))) | with_reducible exact Calls.regrown_of (C7.out _ (M9.out.below (below_regrown _ _ _))))))
      refine wpQuiet_nil ?_
      intro _ hw'
      obtain ⟨⟨dq, osq⟩, hw''⟩ := hw'
      subst hw''
      have hq := below_regrown W9 dq osq
      have M10 := Lib.hid (M9.out.below hq)
      have N10 := Lib.hid (heap_below N9.out hq)
      have HB10 := Lib.hid (HB9.out.trans (hq.mono HB9.out.size))
      have X0 := Lib.hid (X0.out.below hq)
      have X1 := Lib.hid (X1.out.below hq)
      have X2 := Lib.hid (X2.out.below hq)
      have X3 := Lib.hid (X3.out.below hq)
      have X4 := Lib.hid (X4.out.below hq)
      clear hq M9 N9 HB9 L1 L3 L6 L9 Z9 hne hnq C0 C1 C2 C3 C4 C5 C6 C7
      generalize grow (redrawn W9 dq) osq = W10 at *
      go_wp2_with (first | ((with_reducible refine op_is ⟨_, .load 24 (.tmp 2), _, _, _, _⟩ ?_); refine wpList_load_guarded (by rfl) 24 (.tmp 2) rfl b2 rfl 24 (hashArr hb) (0, 0) _ M10.out.1.2.1 Tryd.underlying24 rfl (hash_info _ LB.out) ?_) | ((with_reducible refine op_is ⟨_, .load 24 (.tmp 3), _, _, _, _⟩ ?_); refine wpList_load_guarded (by rfl) 24 (.tmp 3) rfl b3 rfl 24 (hashArr hc) (0, 0) _ M10.out.1.2.2.1 Tryd.underlying24 rfl (hash_info _ LC.out) ?_) | ((with_reducible refine op_is ⟨_, .load 24 (.tmp 4), _, _, _, _⟩ ?_); refine wpList_load_guarded (by rfl) 24 (.tmp 4) rfl b4 rfl 24 (hashArr hd) (0, 0) _ M10.out.1.2.2.2 Tryd.underlying24 rfl (hash_info _ LD.out) ?_) | ((with_reducible refine op_is ⟨_, .load 24 (.tmp 6), _, _, _, _⟩ ?_); refine wpList_load_guarded (by rfl) 24 (.tmp 6) rfl b6 rfl 24 (hashArr ab) (0, 0) _ N10.out Tryd.underlying24 rfl (hash_info _ LAB.out) ?_))
      have ha0 : Below W10.heap.size W10 (W10.alloc (.cells (hashArr ab) 24)) := (Below.refl _ _).alloc (Nat.le_refl _) _
      refine (same_is x0 _ [ab] _ (X0.out.below ha0) (hs_new W10 [ab] _ (hashArr ab) 24 (each1 LAB.out) rfl (by simp) (by simp) (by simp [flat]))).mono ?_
      rintro e s0 ⟨rfl, hs0⟩
      have hj0 := ha0.trans (hs0.mono ha0.size)
      have M110 := Lib.hid (M10.out.below hj0)
      have N110 := Lib.hid (heap_below N10.out hj0)
      have HB110 := Lib.hid (HB10.out.trans (hj0.mono HB10.out.size))
      have X1 := Lib.hid (X1.out.below hj0)
      have X2 := Lib.hid (X2.out.below hj0)
      have X3 := Lib.hid (X3.out.below hj0)
      have X4 := Lib.hid (X4.out.below hj0)
      clear ha0 hs0 hj0 M10 N10 HB10
      go_wp2_with (first | ((with_reducible refine op_is ⟨_, .load 24 (.tmp 2), _, _, _, _⟩ ?_); refine wpList_load_guarded (by rfl) 24 (.tmp 2) rfl b2 rfl 24 (hashArr hb) (0, 0) _ M110.out.1.2.1 Tryd.underlying24 rfl (hash_info _ LB.out) ?_) | ((with_reducible refine op_is ⟨_, .load 24 (.tmp 3), _, _, _, _⟩ ?_); refine wpList_load_guarded (by rfl) 24 (.tmp 3) rfl b3 rfl 24 (hashArr hc) (0, 0) _ M110.out.1.2.2.1 Tryd.underlying24 rfl (hash_info _ LC.out) ?_) | ((with_reducible refine op_is ⟨_, .load 24 (.tmp 4), _, _, _, _⟩ ?_); refine wpList_load_guarded (by rfl) 24 (.tmp 4) rfl b4 rfl 24 (hashArr hd) (0, 0) _ M110.out.1.2.2.2 Tryd.underlying24 rfl (hash_info _ LD.out) ?_) | ((with_reducible refine op_is ⟨_, .load 24 (.tmp 6), _, _, _, _⟩ ?_); refine wpList_load_guarded (by rfl) 24 (.tmp 6) rfl b6 rfl 24 (hashArr ab) (0, 0) _ N110.out Tryd.underlying24 rfl (hash_info _ LAB.out) ?_))
      have ha1 : Below s0.heap.size s0 (s0.alloc (.cells (hashArr hb ++ hashArr hc) 24)) := (Below.refl _ _).alloc (Nat.le_refl _) _
      refine (same_is x1 _ [hb, hc] _ (X1.out.below ha1) (hs_new s0 [hb, hc] _ (hashArr hb ++ hashArr hc) 24 (each2 LB.out LC.out) rfl (by simp) (by simp) (by simp [flat]))).mono ?_
      rintro e s1 ⟨rfl, hs1⟩
      have hj1 := ha1.trans (hs1.mono ha1.size)
      have M111 := Lib.hid (M110.out.below hj1)
      have N111 := Lib.hid (heap_below N110.out hj1)
      have HB111 := Lib.hid (HB110.out.trans (hj1.mono HB110.out.size))
      have X2 := Lib.hid (X2.out.below hj1)
      have X3 := Lib.hid (X3.out.below hj1)
      have X4 := Lib.hid (X4.out.below hj1)
      clear ha1 hs1 hj1 M110 N110 HB110
      go_wp2_with (first | ((with_reducible refine op_is ⟨_, .load 24 (.tmp 2), _, _, _, _⟩ ?_); refine wpList_load_guarded (by rfl) 24 (.tmp 2) rfl b2 rfl 24 (hashArr hb) (0, 0) _ M111.out.1.2.1 Tryd.underlying24 rfl (hash_info _ LB.out) ?_) | ((with_reducible refine op_is ⟨_, .load 24 (.tmp 3), _, _, _, _⟩ ?_); refine wpList_load_guarded (by rfl) 24 (.tmp 3) rfl b3 rfl 24 (hashArr hc) (0, 0) _ M111.out.1.2.2.1 Tryd.underlying24 rfl (hash_info _ LC.out) ?_) | ((with_reducible refine op_is ⟨_, .load 24 (.tmp 4), _, _, _, _⟩ ?_); refine wpList_load_guarded (by rfl) 24 (.tmp 4) rfl b4 rfl 24 (hashArr hd) (0, 0) _ M111.out.1.2.2.2 Tryd.underlying24 rfl (hash_info _ LD.out) ?_) | ((with_reducible refine op_is ⟨_, .load 24 (.tmp 6), _, _, _, _⟩ ?_); refine wpList_load_guarded (by rfl) 24 (.tmp 6) rfl b6 rfl 24 (hashArr ab) (0, 0) _ N111.out Tryd.underlying24 rfl (hash_info _ LAB.out) ?_))
      have ha2 : Below s1.heap.size s1 (s1.alloc (.cells (hashArr hc) 24)) := (Below.refl _ _).alloc (Nat.le_refl _) _
      refine (same_is x2 _ [hc] _ (X2.out.below ha2) (hs_new s1 [hc] _ (hashArr hc) 24 (each1 LC.out) rfl (by simp) (by simp) (by simp [flat]))).mono ?_
      rintro e s2 ⟨rfl, hs2⟩
      have hj2 := ha2.trans (hs2.mono ha2.size)
      have M112 := Lib.hid (M111.out.below hj2)
      have N112 := Lib.hid (heap_below N111.out hj2)
      have HB112 := Lib.hid (HB111.out.trans (hj2.mono HB111.out.size))
      have X3 := Lib.hid (X3.out.below hj2)
      have X4 := Lib.hid (X4.out.below hj2)
      clear ha2 hs2 hj2 M111 N111 HB111
      go_wp2_with (first | ((with_reducible refine op_is ⟨_, .load 24 (.tmp 2), _, _, _, _⟩ ?_); refine wpList_load_guarded (by rfl) 24 (.tmp 2) rfl b2 rfl 24 (hashArr hb) (0, 0) _ M112.out.1.2.1 Tryd.underlying24 rfl (hash_info _ LB.out) ?_) | ((with_reducible refine op_is ⟨_, .load 24 (.tmp 3), _, _, _, _⟩ ?_); refine wpList_load_guarded (by rfl) 24 (.tmp 3) rfl b3 rfl 24 (hashArr hc) (0, 0) _ M112.out.1.2.2.1 Tryd.underlying24 rfl (hash_info _ LC.out) ?_) | ((with_reducible refine op_is ⟨_, .load 24 (.tmp 4), _, _, _, _⟩ ?_); refine wpList_load_guarded (by rfl) 24 (.tmp 4) rfl b4 rfl 24 (hashArr hd) (0, 0) _ M112.out.1.2.2.2 Tryd.underlying24 rfl (hash_info _ LD.out) ?_) | ((with_reducible refine op_is ⟨_, .load 24 (.tmp 6), _, _, _, _⟩ ?_); refine wpList_load_guarded (by rfl) 24 (.tmp 6) rfl b6 rfl 24 (hashArr ab) (0, 0) _ N112.out Tryd.underlying24 rfl (hash_info _ LAB.out) ?_))
      have ha3 : Below s2.heap.size s2 (s2.alloc (.cells (hashArr hc ++ (hashArr hd ++ hashArr ab)) 24)) := (Below.refl _ _).alloc (Nat.le_refl _) _
      refine (same_is x3 _ [hc, hd, ab] _ (X3.out.below ha3) (hs_new s2 [hc, hd, ab] _ (hashArr hc ++ (hashArr hd ++ hashArr ab)) 24 (each3 LC.out LD.out LAB.out) rfl (by simp) (by simp) (by simp [flat]))).mono ?_
      rintro e s3 ⟨rfl, hs3⟩
      have hj3 := ha3.trans (hs3.mono ha3.size)
      have M113 := Lib.hid (M112.out.below hj3)
      have N113 := Lib.hid (heap_below N112.out hj3)
      have HB113 := Lib.hid (HB112.out.trans (hj3.mono HB112.out.size))
      have X4 := Lib.hid (X4.out.below hj3)
      clear ha3 hs3 hj3 M112 N112 HB112
      go_wp2_with (first | ((with_reducible refine op_is ⟨_, .load 24 (.tmp 2), _, _, _, _⟩ ?_); refine wpList_load_guarded (by rfl) 24 (.tmp 2) rfl b2 rfl 24 (hashArr hb) (0, 0) _ M113.out.1.2.1 Tryd.underlying24 rfl (hash_info _ LB.out) ?_) | ((with_reducible refine op_is ⟨_, .load 24 (.tmp 3), _, _, _, _⟩ ?_); refine wpList_load_guarded (by rfl) 24 (.tmp 3) rfl b3 rfl 24 (hashArr hc) (0, 0) _ M113.out.1.2.2.1 Tryd.underlying24 rfl (hash_info _ LC.out) ?_) | ((with_reducible refine op_is ⟨_, .load 24 (.tmp 4), _, _, _, _⟩ ?_); refine wpList_load_guarded (by rfl) 24 (.tmp 4) rfl b4 rfl 24 (hashArr hd) (0, 0) _ M113.out.1.2.2.2 Tryd.underlying24 rfl (hash_info _ LD.out) ?_) | ((with_reducible refine op_is ⟨_, .load 24 (.tmp 6), _, _, _, _⟩ ?_); refine wpList_load_guarded (by rfl) 24 (.tmp 6) rfl b6 rfl 24 (hashArr ab) (0, 0) _ N113.out Tryd.underlying24 rfl (hash_info _ LAB.out) ?_))
      have ha4 : Below s3.heap.size s3 (s3.alloc (.cells (hashArr hb ++ hashArr hc) 24)) := (Below.refl _ _).alloc (Nat.le_refl _) _
      refine (same_is x4 _ [hb, hc] _ (X4.out.below ha4) (hs_new s3 [hb, hc] _ (hashArr hb ++ hashArr hc) 24 (each2 LB.out LC.out) rfl (by simp) (by simp) (by simp [flat]))).mono ?_
      rintro e s4 ⟨rfl, hs4⟩
      have hj4 := ha4.trans (hs4.mono ha4.size)
      have M114 := Lib.hid (M113.out.below hj4)
      have N114 := Lib.hid (heap_below N113.out hj4)
      have HB114 := Lib.hid (HB113.out.trans (hj4.mono HB113.out.size))
      clear ha4 hs4 hj4 M113 N113 HB113
      go_wp2_with fail
      go_ret
      exact ⟨ret_bool (by simp), HB114.out⟩
end Go.Proofs.YtjedhmoehepbnaaDoor
