/- The walk of the law TreeTwice. -/
import Derived.Test.YtjedhmoehepbnaaDoorGrowsKit
namespace Go.Proofs.YtjedhmoehepbnaaDoor
open Go.RowKit Go.Sort
set_option linter.unusedVariables false
theorem depth_mono20 : ∀ n, n < 21 → ∀ m, m < n + 1 → ∀ i, i < m → Tree.depth 5 i m ≤ Tree.depth 5 i n := by decide +kernel
/-- a Head in memory -/
def IsHeadAt (w : World) (v : Value) : Prop := ∃ g n l, v = .pointer (some ⟨g, 0, none⟩) ∧ List.length l = 32 ∧ w.heap[g]? = some (.cells (headArr n l) 36 (0, 0))
theorem isHeadAt {w : World} {g : Nat} {n : Int} {l : Tree.H} (hl : l.length = 32) (hg : w.heap[g]? = some (.cells (headArr n l) 36 (0, 0))) : IsHeadAt w (.pointer (some ⟨g, 0, none⟩)) := ⟨g, n, l, rfl, hl, hg⟩
theorem rowOf_at {w : World} {g : Nat} {cs : Array Value} {t : TypeId} {fr : Nat × Nat} (hg : w.heap[g]? = some (.cells cs t fr)) : hashOf w (.pointer (some ⟨g, 0, none⟩)) = cs := by simp [hashOf, hg]
theorem load_head {w : World} {g : Nat} {n : Int} {l : Tree.H} (hl : l.length = 32) (hg : w.heap[g]? = some (.cells (headArr n l) 36 (0, 0))) : (loadVar 36 ⟨g, 0, none⟩).run Tryd.prog w = .ok (.agg (headArr n l)) w :=
  run_loadVar_row w g 36 36 (headArr n l) (0, 0) _ hg Tryd.underlying36 rfl (head_info n l hl)
theorem wp_load_head {d : Option Tmp} {x : Operand} {ty : TypeId} {pos : String} {after : Array Edge} {gd : Option (Nat × Bool)} {a : Act} {w : World} {K : Act → World → Prop} {Q : Exit → Act → World → Prop} (h0 : IsHeadAt w (a.eval x)) :
    Oper.wp Tryd.prog ⟨d, .load 36 x, ty, pos, after, gd⟩ a w K Q = K (a.put d (.agg (hashOf w (a.eval x)))) w := by
  obtain ⟨g, n, l, e, hl, hg⟩ := h0
  unfold Oper.wp execOp
  simp only [e, rowOf_at hg, Instr.loadAt, Instr.sureAddr, Sem.run_bind, Sem.run_pure, Result.andThen_ok, load_head hl hg]
  rfl
theorem head_load {w : World} {b : Nat} {n : Int} {l : Tree.H} {t : TypeId} {fr : Nat × Nat} (hl : l.length = 32) (hb : w.heap[b]? = some (.cells (headArr n l) t fr)) :
    ∀ w', (∃ p : Regrown, w' = grow (redrawn w p.d) p.os) → (loadVar 36 ⟨b, 0, none⟩).run Tryd.prog w' = .ok (.agg (headArr n l)) w' :=
  load_regrown hb Tryd.underlying36 rfl (head_info n l hl)
theorem store_head {ops : Array Oper} {rest : List Oper} {o : Oper} {a : Act} {w : World} {Q : Exit → Act → World → Prop} {n : Int} {l : Tree.H} (hl : l.length = 32) (x y : Operand) (hgd : o.guard = none) (hdst : o.dst = none) (ho : o.op = .store 36 x y)
    (hx : a.eval x = .pointer (some ⟨w.heap.size, 0, none⟩)) (hy : a.eval y = .agg (headArr n l))
    (h : wpList Tryd.prog ops Q rest a (w.alloc (.cells (headArr n l) 36))) : wpList Tryd.prog ops Q (o :: rest) a (w.alloc (.cells (headArr 0 Tree.zero) 36)) :=
  wpList_store_new hgd 36 x y ho (headArr n l) hx hy 36 (headArr 0 Tree.zero) (head_info n l hl) (by rw [headArr_size _ _ hl, headArr_size _ _ zero_length]) (headArr_one n l) (by rw [hdst]; exact h)
attribute [local go_sem ↓] wp_alloc_head wp_build_head wp_load_head
set_option maxHeartbeats 4000000 in
set_option maxRecDepth 100000 in
theorem twice_at (ao : Option Addr) (n0 c : Nat) (xs : List UInt8) (A B : Nat) (w : World) (hx : BytesIn w ao n0 c xs) (hA : A < 256) (hB : B < 256) (hT : Tabs w) :
    Calls Tryd.prog 11 #[.slice ao n0 c, .int .u8 (A : Int), .int .u8 (B : Int)] w fun e w' => e = .returned (.bool true) ∧ Below w.heap.size w w' := by
  obtain ⟨M, em⟩ : ∃ m, min n0 20 = m := ⟨_, rfl⟩
  have hM : M ≤ 20 := by omega
  obtain ⟨l, el⟩ : ∃ l, Tree.words xs M = l := ⟨_, rfl⟩
  have ll : l.length = M := by rw [← el]; exact words_length xs M
  have ls : Short l := by rw [← el]; exact words_short xs M
  have CS := Lib.hid (fun (W : World) (g : Below w.heap.size w W) => rstrings_any ao n0 c xs W (hx.below g))
  rw [em, el] at CS
  obtain ⟨m, hm⟩ : ∃ m, A % (M + 1) = m := ⟨_, rfl⟩
  obtain ⟨n, hn⟩ : ∃ n, B % (m + 1) = n := ⟨_, rfl⟩
  have hmM : m ≤ M := by have := Nat.mod_lt A (show 0 < M + 1 by omega); omega
  have hnm : n ≤ m := by have := Nat.mod_lt B (show 0 < m + 1 by omega); omega
  have qA : Int.tmod (A : Int) ((M : Int) + 1) = (m : Int) := by rw [← hm, Int.natCast_emod]; exact Int.tmod_eq_emod_of_nonneg (by omega)
  have qB : Int.tmod (B : Int) ((m : Int) + 1) = (n : Int) := by rw [← hn, Int.natCast_emod]; exact Int.tmod_eq_emod_of_nonneg (by omega)
  have wA : IntKind.i64.wrap (A : Int) = (A : Int) := IntWalk.i64_in _ (by omega)
  have wB : IntKind.i64.wrap (B : Int) = (B : Int) := IntWalk.i64_in _ (by omega)
  have HT := Lib.hid hT
  have LL := Lib.hid ll
  have LS := Lib.hid ls
  clear hx hT el ll ls em hm hn
  go_enter Tryd.func11, Tryd.ntmps11
  go_wp2_with fail
  refine (sanity12_any _ HT.out).mono ?_
  rintro e w1 ⟨rfl, hb1⟩
  go_wp2_with fail
  refine (CS.out _ hb1).mono ?_
  rintro e w2 ⟨v, rfl, hown, hb2⟩
  have hb12 := below_join hb1 hb2
  have hv := hown.is LS.out
  obtain ⟨av, cv, ev, hcv⟩ := strs_sl hv
  rw [LL.out] at ev hcv
  subst ev
  have h32 : l.length ≤ 2 ^ 5 := by rw [LL.out]; show M ≤ 32; omega
  have lm : (l.take m).length = m := by rw [List.length_take, LL.out]; omega
  have ln : (l.take n).length = n := by rw [List.length_take, LL.out]; omega
  have tmn : (l.take m).take n = l.take n := by rw [List.take_take]; congr 1; omega
  have hcm : m ≤ cv := by by_cases h0 : 1 ≤ M <;> omega
  have hcn : n ≤ cv := by omega
  have cut1 := cut_strs av M n cv hcn
  have cut2 := cut_strs av M m cv hcm
  obtain ⟨h1, eh1⟩ : ∃ h, Tree.root 5 (l.take n) = h := ⟨_, rfl⟩
  obtain ⟨h2, eh2⟩ : ∃ h, Tree.root 5 (l.take m) = h := ⟨_, rfl⟩
  obtain ⟨h3, eh3⟩ : ∃ h, Tree.root 5 l = h := ⟨_, rfl⟩
  have lh1 : h1.length = 32 := by rw [← eh1]; exact Tree.root_length _ _
  have lh2 : h2.length = 32 := by rw [← eh2]; exact Tree.root_length _ _
  have lh3 : h3.length = 32 := by rw [← eh3]; exact Tree.root_length _ _
  have hT2 := HT.out.below hb12
  have LM := Lib.hid lm
  have LN := Lib.hid ln
  have TMN := Lib.hid tmn
  have H32 := Lib.hid h32
  have CR1 := Lib.hid (fun (W : World) (g : Below w2.heap.size w2 W) => root_any 5 (l.take n) (.slice av n cv) h1 W (by rw [LN.out]; show n ≤ 32; omega) ((hv.below g).cut LL.out (by omega)) (hT2.below g) eh1)
  have CR2 := Lib.hid (fun (W : World) (g : Below w2.heap.size w2 W) => root_any 5 (l.take m) (.slice av m cv) h2 W (by rw [LM.out]; show m ≤ 32; omega) ((hv.below g).cut LL.out (by omega)) (hT2.below g) eh2)
  have CR3 := Lib.hid (fun (W : World) (g : Below w2.heap.size w2 W) => root_any 5 l (.slice av M cv) h3 W H32.out (hv.below g) (hT2.below g) eh3)
  have HV := Lib.hid hv
  have HB := Lib.hid hb12
  have LH1 := Lib.hid lh1
  have LH2 := Lib.hid lh2
  have LH3 := Lib.hid lh3
  have EH1 := Lib.hid eh1
  have EH2 := Lib.hid eh2
  have EH3 := Lib.hid eh3
  have HT2 := Lib.hid hT2
  have z1 : (hashArr h1).size = 32 := by rw [hashArr_size]; exact LH1.out
  have z2 : (hashArr h2).size = 32 := by rw [hashArr_size]; exact LH2.out
  have z3 : (hashArr h3).size = 32 := by rw [hashArr_size]; exact LH3.out
  clear hown hb1 hb2 hb12 CS hv h32 lm ln tmn eh1 eh2 eh3 lh1 lh2 lh3 hT2 hcv
  go_wp2_with fail
  refine (CR1.out _ (Below.refl _ _)).mono ?_
  rintro e w3 ⟨rfl, hb3⟩
  go_wp2_with ((with_reducible refine op_is ⟨none, .store 36 (.tmp 11) (.tmp 43), _, _, _, _⟩ ?_); refine store_head LH1.out (.tmp 11) (.tmp 43) rfl rfl rfl rfl rfl ?_)
  have bw3 : Below w2.heap.size w2 (w3.alloc (.cells (headArr n h1) 36)) := hb3.alloc hb3.size _
  have T1 := Lib.hid (heap_alloc_new w3 (.cells (headArr n h1) 36))
  have BX := Lib.hid bw3
  clear hb3 bw3
  generalize w3.alloc (.cells (headArr n h1) 36) = W3 at *
  refine (CR2.out _ BX.out).mono ?_
  rintro e w4 ⟨rfl, hb4⟩
  go_wp2_with ((with_reducible refine op_is ⟨none, .store 36 (.tmp 12) (.tmp 49), _, _, _, _⟩ ?_); refine store_head LH2.out (.tmp 12) (.tmp 49) rfl rfl rfl rfl rfl ?_)
  have bw4 : Below W3.heap.size W3 (w4.alloc (.cells (headArr m h2) 36)) := hb4.alloc hb4.size _
  have T2 := Lib.hid (heap_alloc_new w4 (.cells (headArr m h2) 36))
  have U1 := Lib.hid (heap_below T1.out bw4)
  have BY := Lib.hid (below_join BX.out bw4)
  clear hb4 bw4 T1 BX
  generalize w4.alloc (.cells (headArr m h2) 36) = W4 at *
  refine (CR3.out _ BY.out).mono ?_
  rintro e w5 ⟨rfl, hb5⟩
  go_wp2_with ((with_reducible refine op_is ⟨none, .store 36 (.tmp 13) (.tmp 54), _, _, _, _⟩ ?_); refine store_head LH3.out (.tmp 13) (.tmp 54) rfl rfl rfl rfl rfl ?_)
  have bw5 : Below W4.heap.size W4 (w5.alloc (.cells (headArr M h3) 36)) := hb5.alloc hb5.size _
  have V3 := Lib.hid (heap_alloc_new w5 (.cells (headArr M h3) 36))
  have V2 := Lib.hid (heap_below T2.out bw5)
  have V1 := Lib.hid (heap_below U1.out bw5)
  have BZ := Lib.hid (below_join BY.out bw5)
  clear hb5 bw5 T2 U1 BY CR1 CR2 CR3
  generalize w5.alloc (.cells (headArr M h3) 36) = W5 at *
  have CG1 := Lib.hid (fun (W : World) (g : Below w2.heap.size w2 W) => growth0_any 5 (l.take m) (.slice av m cv) n W (by rw [LM.out]; show m ≤ 32; omega) (by omega) ((HV.out.below g).cut LL.out hmM) (by rw [LM.out]; exact hnm) (HT2.out.below g))
  have CG2 := Lib.hid (fun (W : World) (g : Below w2.heap.size w2 W) => growth0_any 5 l (.slice av M cv) m W H32.out (by omega) (HV.out.below g) (by rw [LL.out]; exact hmM) (HT2.out.below g))
  have CG3 := Lib.hid (fun (W : World) (g : Below w2.heap.size w2 W) => growth0_any 5 l (.slice av M cv) n W H32.out (by omega) (HV.out.below g) (by rw [LL.out]; omega) (HT2.out.below g))
  refine (CG1.out _ BZ.out).mono ?_
  rintro e w6 ⟨v6, rfl, o6, hb6⟩
  have B6 := Lib.hid (below_join BZ.out hb6)
  go_wp2_with fail
  refine (CG2.out _ B6.out).mono ?_
  rintro e w7 ⟨v7, rfl, o7, hb7⟩
  have B7 := Lib.hid (below_join B6.out hb7)
  go_wp2_with fail
  refine (CG3.out _ B7.out).mono ?_
  rintro e w8 ⟨v8, rfl, o8, hb8⟩
  have B8 := Lib.hid (below_join B7.out hb8)
  have hb68 := below_join hb6 (below_join hb7 hb8)
  have I6 := Lib.hid (o6.is.below (below_join hb7 hb8))
  have I7 := Lib.hid (o7.is.below hb8)
  have I8 := Lib.hid o8.is
  have X1 := Lib.hid (heap_below V1.out hb68)
  have X2 := Lib.hid (heap_below V2.out hb68)
  have X3 := Lib.hid (heap_below V3.out hb68)
  clear V1 V2 V3 CG1 CG2 CG3 B6 B7 hb6 hb7 hb8 hb68 o6 o7 o8 BZ
  have CF1 := Lib.hid (fun (W : World) (g : Below w8.heap.size w8 W) => grows_any n m h1 h2 v6 true W LH1.out LH2.out (fun W' g' => grown_any 5 (l.take m) n m h1 h2 v6 W' (by rw [LM.out]; show m ≤ 32; omega) LM.out (by omega) hnm (by rw [TMN.out]; exact EH1.out) EH2.out (HT2.out.below (below_join B8.out (below_join g g'))) (I6.out.below (below_join g g'))))
  have CF2 := Lib.hid (fun (W : World) (g : Below w8.heap.size w8 W) => grows_any m M h2 h3 v7 true W LH2.out LH3.out (fun W' g' => grown_any 5 l m M h2 h3 v7 W' H32.out LL.out (by omega) hmM EH2.out EH3.out (HT2.out.below (below_join B8.out (below_join g g'))) (I7.out.below (below_join g g'))))
  have CF3 := Lib.hid (fun (W : World) (g : Below w8.heap.size w8 W) => grows_any n M h1 h3 v8 true W LH1.out LH3.out (fun W' g' => grown_any 5 l n M h1 h3 v8 W' H32.out LL.out (by omega) (by omega) EH1.out EH3.out (HT2.out.below (below_join B8.out (below_join g g'))) (I8.out.below (below_join g g'))))
  have f1 := isHeadAt LH1.out X1.out
  have f2 := rowOf_at X1.out
  have f3 := isHeadAt LH2.out X2.out
  have f4 := rowOf_at X2.out
  go_wp2_with fail
  clear f1 f2 f3 f4
  refine (CF1.out _ (Below.refl _ _)).mono ?_
  rintro e w9 ⟨rfl, hb9⟩
  have f1 := isHeadAt LH2.out (heap_below X2.out hb9)
  have f2 := rowOf_at (heap_below X2.out hb9)
  have f3 := isHeadAt LH3.out (heap_below X3.out hb9)
  have f4 := rowOf_at (heap_below X3.out hb9)
  go_wp2_with fail
  clear f1 f2 f3 f4
  refine (CF2.out _ hb9).mono ?_
  rintro e w10 ⟨rfl, hb10⟩
  have hb910 := below_join hb9 hb10
  have f1 := isHeadAt LH1.out (heap_below X1.out hb910)
  have f2 := rowOf_at (heap_below X1.out hb910)
  have f3 := isHeadAt LH3.out (heap_below X3.out hb910)
  have f4 := rowOf_at (heap_below X3.out hb910)
  go_wp2_with fail
  clear f1 f2 f3 f4
  refine (CF3.out _ hb910).mono ?_
  rintro e w11 ⟨rfl, hb11⟩
  have hb811 := below_join hb910 hb11
  have Y2 := Lib.hid (heap_below X2.out hb811)
  have Y3 := Lib.hid (heap_below X3.out hb811)
  have B11 := Lib.hid (below_join B8.out hb811)
  clear hb9 hb10 hb910 hb11 hb811 X1 X2 X3 I6 I7 I8 CF1 CF2 CF3 B8
  by_cases h0 : n = 0
  · subst h0
    have hq : (((0 : Nat) : Int) == 0) = true := by simp
    go_wp2_with fail
    go_ret
    exact ⟨rfl, below_join HB.out B11.out⟩
  · have hq : ((n : Int) == 0) = false := by simp; omega
    obtain ⟨j, hj⟩ : ∃ j, n = j + 1 := ⟨n - 1, by omega⟩
    have hjw : IntKind.i64.wrap ((n : Int) - 1) = (j : Int) := by rw [show (n : Int) - 1 = (j : Int) by omega]; exact IntWalk.i64_in _ (by omega)
    obtain ⟨p1, ep1⟩ : ∃ p, Tree.path 5 (l.take m) j = p := ⟨_, rfl⟩
    obtain ⟨p2, ep2⟩ : ∃ p, Tree.path 5 l j = p := ⟨_, rfl⟩
    have CP1 := Lib.hid (fun (W : World) (g : Below w2.heap.size w2 W) => path_yes 5 (l.take m) (.slice av m cv) j p1 W (by rw [LM.out]; show m ≤ 32; omega) (by omega) ((HV.out.below g).cut LL.out hmM) (by rw [LM.out]; omega) (HT2.out.below g) ep1)
    have CP2 := Lib.hid (fun (W : World) (g : Below w2.heap.size w2 W) => path_yes 5 l (.slice av M cv) j p2 W H32.out (by omega) (HV.out.below g) (by rw [LL.out]; omega) (HT2.out.below g) ep2)
    have F1 := Lib.hid (Tree.path_fits 5 (l.take m) j (by rw [LM.out]; omega) (by rw [LM.out]; show m ≤ 32; omega))
    have F2 := Lib.hid (Tree.path_fits 5 l j (by rw [LL.out]; omega) H32.out)
    rw [ep1, EH2.out, LM.out, Tree.getD_take _ _ _ (by omega)] at F1
    rw [ep2, EH3.out, LL.out] at F2
    have hlen : p1.length ≤ p2.length ∧ p2.length ≤ 5 := by
      have e1 := F1.out
      have e2 := F2.out
      simp only [Tree.fits, Bool.and_eq_true, beq_iff_eq] at e1 e2
      rw [e1.1.2, e2.1.2]
      exact ⟨depth_mono20 M (by omega) m (by omega) j (by omega), Tree.depth_le _ _ _⟩
    have ge1 : decide ((p1.length : Int) ≤ (p2.length : Int)) = true := by simp; omega
    have ge2 : decide ((p2.length : Int) ≤ 5) = true := by simp; omega
    clear ep1 ep2
    obtain ⟨hsh, ⟨e, _⟩ | ⟨b', o, c', e, _, _, _, sa⟩⟩ := HV.out
    · have := LL.out; rw [e] at this; simp at this; omega
    injection e with e1 e2 e3
    subst e1 e3
    have hs1 := sa j (by rw [LL.out]; omega)
    have hz := hsh.getD j
    generalize l.getD j ByteArray.empty = s at *
    have HS := Lib.hid hs1
    have HZ := Lib.hid hz
    have q1 : (0 : Int) ≤ (j : Int) := by omega
    have q2 : (j : Int) < (M : Int) := by omega
    have q3 : (j : Int).toNat = j := by omega
    have jm : j < m := by omega
    have jM : j < M := by omega
    clear sa hsh hs1 hz e2 hj
    go_wp2_with fail
    refine (CP1.out _ B11.out).mono ?_
    rintro e w12 ⟨u1, rfl, o1, hb12⟩
    have B12 := Lib.hid (below_join B11.out hb12)
    go_wp2_with fail
    with_reducible refine (CP2.out _ B12.out).mono ?_
    rintro e w13 ⟨u2, rfl, o2, hb13⟩
    have B13 := Lib.hid (below_join B12.out hb13)
    have i1 := o1.is.below hb13
    have i2 := o2.is
    obtain ⟨pa1, pc1, rfl⟩ := hs_sl i1
    obtain ⟨pa2, pc2, rfl⟩ := hs_sl i2
    have I1 := Lib.hid i1
    have I2 := Lib.hid i2
    have hb1213 := below_join hb12 hb13
    have L12 := Lib.hid (head_load LH2.out (heap_below Y2.out hb1213))
    have L13 := Lib.hid (head_load LH3.out (heap_below Y3.out hb1213))
    have hs2 : w13.cell? ⟨b', o + j, none⟩ = some (.string s) := (B13.out.cell (p := ⟨b', o + j, none⟩) (block_lt_of_cell HS.out)).trans HS.out
    have hs3 : ∀ d os, (grow (redrawn w13 d) os).cell? ⟨b', o + j, none⟩ = some (.string s) := fun d os => ((below_regrown w13 d os).cell (p := ⟨b', o + j, none⟩) (block_lt_of_cell hs2)).trans hs2
    clear o1 o2 i1 i2 hb12 hb13 hb1213 Y2 Y3 B11 B12 CP1 CP2
    have CK1 := Lib.hid (fun (W : World) (g : Below w13.heap.size w13 W) => fits_any m j h2 s (.slice pa1 p1.length pc1) true W LH2.out (fun W' g' => check_yes 5 m j h2 _ s pa1 p1.length pc1 p1 W' true (I1.out.below (below_join g g')) rfl (HT2.out.below (below_join B13.out (below_join g g'))) (by have := HZ.out; omega) LH2.out rfl (by omega) (by show m ≤ 32; omega) (by omega) F1.out))
    have CK2 := Lib.hid (fun (W : World) (g : Below w13.heap.size w13 W) => fits_any M j h3 s (.slice pa2 p2.length pc2) true W LH3.out (fun W' g' => check_yes 5 M j h3 _ s pa2 p2.length pc2 p2 W' true (I2.out.below (below_join g g')) rfl (HT2.out.below (below_join B13.out (below_join g g'))) (by have := HZ.out; omega) LH3.out rfl (by omega) (by show M ≤ 32; omega) (by omega) F2.out))
    go_wp2_with fail
    refine wp_region_quiet_below (by kernel_rfl) (by kernel_rfl) ?_
    repeat (first | (refine quiet_load_row (by rfl) _ (.tmp 12) rfl _ _ rfl _ L12.out ?_; simp only [Act.put, List.setIfInBounds_toArray, List.set_cons_zero, List.set_cons_succ]) | (refine quiet_load_row (by rfl) _ (.tmp 13) rfl _ _ rfl _ L13.out ?_; simp only [Act.put, List.setIfInBounds_toArray, List.set_cons_zero, List.set_cons_succ]) | go_big_quiet_step ((first | with_reducible exact Calls.regrown_of (CK1.out _ (below_regrown _ _ _)) | with_reducible exact Calls.regrown_of (CK2.out _ (below_regrown _ _ _)))))
    refine wpQuiet_nil ?_
    intro _ hw'
    obtain ⟨⟨dq, osq⟩, hw''⟩ := hw'
    subst hw''
    have hq2 := below_regrown w13 dq osq
    have BQ := Lib.hid (below_join HB.out (below_join B13.out hq2))
    clear hq2
    generalize grow (redrawn w13 dq) osq = WQ at *
    go_wp2_with fail
    go_ret
    exact ⟨rfl, BQ.out⟩
theorem walk_TreeTwice (ao : Option Addr) (n0 c : Nat) (xs : List UInt8) (x y : Int) (w : World) (hx : BytesIn w ao n0 c xs) (wx : (Lit.int .u8 x).wf = true) (wy : (Lit.int .u8 y).wf = true) (hT : Tabs w) :
    Calls Tryd.prog 11 #[.slice ao n0 c, .int .u8 x, .int .u8 y] w fun e w' => e = .returned (.bool true) ∧ Below w.heap.size w w' := by
  have h1 : 0 ≤ x ∧ x ≤ 255 := by simpa [Lit.wf, IntKind.min, IntKind.max, IntKind.signed, IntKind.bits] using wx
  have h2 : 0 ≤ y ∧ y ≤ 255 := by simpa [Lit.wf, IntKind.min, IntKind.max, IntKind.signed, IntKind.bits] using wy
  obtain ⟨A, rfl⟩ : ∃ A : Nat, x = (A : Int) := ⟨x.toNat, by omega⟩
  obtain ⟨B, rfl⟩ : ∃ B : Nat, y = (B : Int) := ⟨y.toNat, by omega⟩
  exact twice_at ao n0 c xs A B w hx (by omega) (by omega) hT
end Go.Proofs.YtjedhmoehepbnaaDoor
