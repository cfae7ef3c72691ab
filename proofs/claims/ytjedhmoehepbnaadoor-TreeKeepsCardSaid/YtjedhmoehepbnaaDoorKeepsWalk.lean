/- The walk of the law TreeKeeps. -/
import Derived.Test.YtjedhmoehepbnaaDoorTreeBentF
namespace Go.Proofs.YtjedhmoehepbnaaDoor
open Go.RowKit Go.Sort
set_option linter.unusedVariables false
theorem cut_is {W : World} {a : Option Addr} {n c k : Nat} {l : List ByteArray} (h : IsStrs W (.slice a n c) l) (hn : l.length = n) (hk : k ≤ n) : IsStrs W (.slice a k c) (l.take k) := by
  obtain ⟨h1, ⟨rfl, a', c', e⟩ | ⟨b, o, c', e, h3, h4, h5, h6⟩⟩ := h
  · injection e with e1 e2 e3
    obtain rfl : k = 0 := by omega
    exact ⟨h1.take 0, .inl ⟨by simp, _, _, rfl⟩⟩
  · injection e with e1 e2 e3
    subst e1 e3
    refine ⟨h1.take k, ?_⟩
    by_cases h0 : k = 0
    · subst h0; exact .inl ⟨by simp, _, _, rfl⟩
    · have hl : (l.take k).length = k := by rw [List.length_take]; omega
      exact .inr ⟨b, o, c, by rw [hl], by omega, by omega, h5, h6.take⟩
/-- a slice whose hashes may be written -/
def RowV (W : World) (B : Nat) (a : Option Addr) (n c : Nat) : Prop := 0 < n → ∃ g, a = some ⟨g, 0, none⟩ ∧ RowAt W g n c ∧ B ≤ g
theorem RowV.of_own {W : World} {B n c : Nat} {a : Option Addr} {hs : List Tree.H} (h : OwnsH W B (.slice a n c) hs) (hl : hs.length = n) : RowV W B a n c := fun h0 => by
  obtain ⟨g, e, h1, h2⟩ := own_some h hl h0
  exact ⟨g, e, h1, h2⟩
theorem RowV.below {W w1 : World} {B n c : Nat} {a : Option Addr} (h : RowV W B a n c) (hb : Below W.heap.size W w1) : RowV w1 B a n c := fun h0 => by
  obtain ⟨g, e, h1, h2⟩ := h h0
  exact ⟨g, e, h1.below hb, h2⟩
theorem RowV.mono {W : World} {B B' n c : Nat} {a : Option Addr} (h : RowV W B a n c) (hb : B' ≤ B) : RowV W B' a n c := fun h0 => by
  obtain ⟨g, e, h1, h2⟩ := h h0
  exact ⟨g, e, h1, by omega⟩
theorem RowV.puts {W : World} {B n c : Nat} {a : Option Addr} (h : RowV W B a n c) (g i : Nat) (l : Tree.H) (hl : l.length = 32) : RowV (W.setCells g (i * 32) (hashArr l).toList) B a n c := fun h0 => by
  obtain ⟨g', e, h1, h2⟩ := h h0
  refine ⟨g', e, ?_, h2⟩
  by_cases hg : g' = g
  · subst hg; exact h1.puts i l hl
  · obtain ⟨⟨cur, k1, k2, k3⟩, k4, k5⟩ := h1
    exact ⟨⟨cur, (heap_setCells_ne hg _ _ _).trans k1, k2, k3⟩, k4, k5⟩
def nine : Tree.H := UInt8.ofNat (9 : Int).toNat :: List.replicate 31 0
theorem nine_length : nine.length = 32 := by simp [nine]
theorem nine_lit : Value.agg (#[.int .u8 9, .int .u8 0, .int .u8 0, .int .u8 0, .int .u8 0, .int .u8 0, .int .u8 0, .int .u8 0, .int .u8 0, .int .u8 0, .int .u8 0, .int .u8 0, .int .u8 0, .int .u8 0, .int .u8 0, .int .u8 0, .int .u8 0, .int .u8 0, .int .u8 0, .int .u8 0, .int .u8 0, .int .u8 0, .int .u8 0, .int .u8 0, .int .u8 0, .int .u8 0, .int .u8 0, .int .u8 0, .int .u8 0, .int .u8 0, .int .u8 0, .int .u8 0]) = Value.agg (hashArr nine) := congrArg Value.agg (lit_hash 9 (by omega) (by omega))
/-- the memory while results are written -/
structure KeepAt (w W2 : World) (B pL : Nat) (a1 : Option Addr) (n1 c1 : Nat) (a2 : Option Addr) (n2 c2 : Nat) (V : World) : Prop where
  low : Below W2.heap.size W2 V
  r1 : RowV V B a1 n1 c1
  r2 : RowV V B a2 n2 c2
  lst : V.heap[pL]? = some (.cells #[.slice a1 n1 c1, .slice a2 n2 c2] 38 (0, 0))
theorem KeepAt.step {w W2 : World} {B pL : Nat} {a1 : Option Addr} {n1 c1 : Nat} {a2 : Option Addr} {n2 c2 : Nat} {V : World} (h : KeepAt w W2 B pL a1 n1 c1 a2 n2 c2 V) (g i : Nat) (hB : W2.heap.size ≤ B) (hg : B ≤ g) (hp : g ≠ pL) : KeepAt w W2 B pL a1 n1 c1 a2 n2 c2 (V.setCells g (i * 32) (hashArr nine).toList) :=
  ⟨below_setCells (by omega) _ _ _ h.low, h.r1.puts g i nine nine_length, h.r2.puts g i nine nine_length, (heap_setCells_ne (Ne.symm hp) _ _ _).trans h.lst⟩
theorem RowAt.ne_list {V : World} {g n c pL : Nat} {x y : Value} (h : RowAt V g n c) (hl : V.heap[pL]? = some (.cells #[x, y] 38 (0, 0))) : g ≠ pL := by
  rintro rfl
  obtain ⟨⟨cur, k1, _, _⟩, _, _⟩ := h
  rw [hl] at k1
  injection k1 with k1
  injection k1 with _ k2 _
  exact absurd k2 (by decide)
theorem grown_new {W w' : World} (hb : Below W.heap.size W (W.alloc (.cells #[] 24))) (hg : (W.alloc (.cells #[] 24)).grownBy w' (Value.slice (some ⟨W.heap.size, 0, none⟩) 0 0).ownBlock) : Below W.heap.size W w' :=
  hb.grown hg hb.size (fun k hk => by simp [Value.ownBlock] at hk; omega)
theorem grown_own {W V w' : World} {v : Value} {hs : List Tree.H} (hb : Below W.heap.size W V) (ho : OwnsH V W.heap.size v hs) (hg : V.grownBy w' v.ownBlock) : Below W.heap.size W w' :=
  hb.grown hg hb.size (fun k hk => ho.block k hk)
attribute [local go_sem ↓] wp_alloc_head wp_load_head wp_build_none
set_option maxHeartbeats 8000000 in
set_option maxRecDepth 100000 in
theorem keeps_at (ao : Option Addr) (n0 c : Nat) (xs : List UInt8) (A : Nat) (w : World) (hx : BytesIn w ao n0 c xs) (hA : A < 256) (hT : Tabs w) :
    Calls Tryd.prog 12 #[.slice ao n0 c, .int .u8 (A : Int)] w fun e w' => e = .returned (.bool true) ∧ Below w.heap.size w w' := by
  obtain ⟨M, em⟩ : ∃ m, min n0 20 = m := ⟨_, rfl⟩
  have hM : M ≤ 20 := by omega
  obtain ⟨l, el⟩ : ∃ l, Tree.words xs M = l := ⟨_, rfl⟩
  have ll : l.length = M := by rw [← el]; exact words_length xs M
  have ls : Short l := by rw [← el]; exact words_short xs M
  have CS := Lib.hid (fun (W : World) (g : Below w.heap.size w W) => rstrings_any ao n0 c xs W (hx.below g))
  rw [em, el] at CS
  obtain ⟨m, hm⟩ : ∃ m, A % (M + 1) = m := ⟨_, rfl⟩
  have hmM : m ≤ M := by have := Nat.mod_lt A (show 0 < M + 1 by omega); omega
  have qA : Int.tmod (A : Int) ((M : Int) + 1) = (m : Int) := by rw [← hm, Int.natCast_emod]; exact Int.tmod_eq_emod_of_nonneg (by omega)
  have wA : IntKind.i64.wrap (A : Int) = (A : Int) := IntWalk.i64_in _ (by omega)
  have HT := Lib.hid hT
  have LL := Lib.hid ll
  have LS := Lib.hid ls
  clear hx hT el ll ls em hm
  go_enter Tryd.func12, Tryd.ntmps12
  go_wp2_with fail
  refine (sanity12_any _ HT.out).mono ?_
  rintro e W0 ⟨rfl, hb0⟩
  go_wp2_with fail
  refine (CS.out _ hb0).mono ?_
  rintro e W1 ⟨v1, rfl, own1, hb1⟩
  have hv1 := own1.is LS.out
  obtain ⟨av, cv, ev, hcv⟩ := strs_sl hv1
  rw [LL.out] at ev hcv
  subst ev
  have hb01 := below_join hb0 hb1
  go_wp2_with fail
  refine (CS.out _ hb01).mono ?_
  rintro e W2 ⟨v2, rfl, own2, hb2⟩
  have hv2 := own2.is LS.out
  obtain ⟨bv, dv, ev, _⟩ := strs_sl hv2
  rw [LL.out] at ev
  subst ev
  have V1 := Lib.hid (hv1.below hb2)
  have V2 := Lib.hid hv2
  have hb02 := below_join hb01 hb2
  have B2 := Lib.hid hb02
  have h32 : l.length ≤ 2 ^ 5 := by rw [LL.out]; show M ≤ 32; omega
  have hT2 := HT.out.below hb02
  have lm : (l.take m).length = m := by rw [List.length_take, LL.out]; omega
  have hcm : m ≤ cv := by by_cases h0 : 1 ≤ M <;> omega
  have cut1 := cut_strs av M m cv hcm
  obtain ⟨ps, ok1, hps, cp⟩ : ∃ ps ok, ps.length ≤ 10 ∧ ∀ W, Below W2.heap.size W2 W → Calls Tryd.prog 28 #[.slice av M cv, .int .i64 (m : Int)] W (GivesB ps ok W) := by
    by_cases h : m < M
    · exact ⟨Tree.path 5 l m, true, by have := Tree.path_length 5 l m; omega, fun W g => path_yes 5 l _ m _ W h32 (by omega) (V1.out.below g) (by rw [LL.out]; exact h) (hT2.below g) rfl⟩
    · exact ⟨[], false, by simp, fun W g => path_no l _ m W (V1.out.below g) (by rw [LL.out]; omega)⟩
  obtain ⟨qs, hqs, cq⟩ : ∃ qs : List Tree.H, qs.length ≤ 10 ∧ ∀ W, Below W2.heap.size W2 W → Calls Tryd.prog 34 #[.slice av M cv, .int .i64 (m : Int)] W (GivesB qs true W) := by
    by_cases h : m = 0
    · exact ⟨[], by simp, fun W g => by rw [h]; exact growth_zero l _ W (V1.out.below g)⟩
    · exact ⟨Tree.growth 5 l m true, by have := Tree.growth_length 5 l m true; omega, fun W g => growth_yes 5 l _ m _ W h32 (by omega) (V1.out.below g) (by omega) (by rw [LL.out]; exact hmM) (hT2.below g) rfl⟩
  obtain ⟨h, eh⟩ : ∃ h, Tree.root 5 l = h := ⟨_, rfl⟩
  obtain ⟨hm', ehm⟩ : ∃ h, Tree.root 5 (l.take m) = h := ⟨_, rfl⟩
  have lh : h.length = 32 := by rw [← eh]; exact Tree.root_length _ _
  have lhm : hm'.length = 32 := by rw [← ehm]; exact Tree.root_length _ _
  have CP := Lib.hid cp
  have CQ := Lib.hid cq
  have CH := Lib.hid (fun (W : World) (g : Below W2.heap.size W2 W) => head_any 5 l av M cv h W LL.out h32 (V1.out.below g) eh)
  have CHM := Lib.hid (fun (W : World) (g : Below W2.heap.size W2 W) => head_any 5 (l.take m) av m cv hm' W lm (by rw [lm]; show m ≤ 32; omega) (cut_is (V1.out.below g) LL.out hmM) ehm)
  have CR1 := Lib.hid (fun (W : World) (g : Below W2.heap.size W2 W) => root_any 5 l (.slice av M cv) h W h32 (V1.out.below g) (hT2.below g) eh)
  have CR2 := Lib.hid (fun (W : World) (g : Below W2.heap.size W2 W) => root_any 5 l (.slice bv M dv) h W h32 (V2.out.below g) (hT2.below g) eh)
  have LH := Lib.hid lh
  have LHM := Lib.hid lhm
  have HT2 := Lib.hid hT2
  have HPS := Lib.hid hps
  have HQS := Lib.hid hqs
  have heq := fun W => hash_eql h h lh lh W
  rw [show (h == h) = true by simp] at heq
  clear hb0 hb1 hb01 hb2 hb02 own1 own2 hv1 hv2 cp cq eh ehm lh lhm hT2 CS hcv hcm lm h32 hps hqs
  go_wp2_with fail
  refine (CP.out _ (Below.refl _ _)).mono ?_
  rintro e W3 ⟨vp, rfl, own3, hb3⟩
  go_wp2_with fail
  refine (CQ.out _ hb3).mono ?_
  rintro e W4 ⟨vq, rfl, own4, hb4⟩
  obtain ⟨pa, pc, ev⟩ := hs_sl own3.is
  obtain ⟨pm, epm⟩ : ∃ x, ps.length = x := ⟨_, rfl⟩
  rw [epm] at ev
  subst ev
  obtain ⟨qa, qc, ev⟩ := hs_sl own4.is
  obtain ⟨qm, eqm⟩ : ∃ x, qs.length = x := ⟨_, rfl⟩
  rw [eqm] at ev
  subst ev
  have EPM := Lib.hid epm
  have EQM := Lib.hid eqm
  have OP := Lib.hid (own3.below hb4)
  have OQ := Lib.hid own4
  have hb34 := below_join hb3 hb4
  have B4 := Lib.hid hb34
  have HB3 := Lib.hid hb3.size
  clear own3 own4 hb3 hb4 hb34 epm eqm CP CQ
  -- the first joined list
  have bN : Below W4.heap.size W4 (W4.alloc (.cells #[] 24)) := (Below.refl _ _).alloc (Nat.le_refl _) _
  have N0 := Lib.hid (owns_none W4 W4.heap.size (Nat.le_refl _))
  have SP := Lib.hid (OP.out.src.below bN)
  have SQ := Lib.hid (OQ.out.src.below bN)
  have BN := Lib.hid bN
  clear bN
  go_upto_region 6 with fail
  go_wp2_with (first
    | ((with_reducible refine op_is ⟨some 44, .call { callee := .builtin .append, args := #[.tmp 42, .tmp 43], argTypes := #[38, 38] }, _, _, _, _⟩ ?_); refine wpList_append_hs rfl (.tmp 42) (.tmp 43) rfl W4.heap.size _ _ [] ps rfl rfl N0.out SP.out (by have := HPS.out; simp; omega) BN.out.size ?_; intro v5 W5 hown5 hgrow5; have b5 := Lib.hid (grown_new BN.out hgrow5); have O5 := Lib.hid hown5; have SQ5 := Lib.hid (OQ.out.src.below b5.out); clear hown5 hgrow5)
    | ((with_reducible refine op_is ⟨some 46, .call { callee := .builtin .append, args := #[.tmp 44, .tmp 45], argTypes := #[38, 38] }, _, _, _, _⟩ ?_); refine wpList_append_hs rfl (.tmp 44) (.tmp 45) rfl W4.heap.size _ _ ([] ++ ps) qs rfl rfl O5.out SQ5.out (by have := HPS.out; have := HQS.out; simp; omega) b5.out.size ?_; intro v6 W6 hown6 hgrow6; have b6 := Lib.hid (grown_own b5.out O5.out hgrow6); have O6 := Lib.hid hown6; clear hown6 hgrow6))
  have B6 := Lib.hid (below_join B4.out b6.out)
  refine (CH.out _ B6.out).mono ?_
  rintro e W7 ⟨rfl, hb7⟩
  have P14 := Lib.hid (heap_alloc_new W7 (.cells (headArr M h) 36))
  have f1 := isHeadAt LH.out P14.out
  have f2 := rowOf_at P14.out
  go_wp2_with ((with_reducible refine op_is ⟨none, .store 36 (.tmp 14) (.tmp 48), _, _, _, _⟩ ?_); refine store_head LH.out (.tmp 14) (.tmp 48) rfl rfl rfl rfl rfl ?_)
  have bw8 : Below W6.heap.size W6 (W7.alloc (.cells (headArr M h) 36)) := hb7.alloc hb7.size _
  have B8 := Lib.hid (below_join B6.out bw8)
  have b48 := below_join b6.out bw8
  have I6 := Lib.hid (O6.out.is.below bw8)
  have OP8 := Lib.hid (OP.out.below b48)
  have OQ8 := Lib.hid (OQ.out.below b48)
  clear bw8 b48 hb7 N0 SP SQ BN b5 O5 SQ5 b6 O6 OP OQ B6 B4
  generalize W7.alloc (.cells (headArr M h) 36) = W8 at *
  obtain ⟨b1, cf, _⟩ := fits_agree M m h ⟨#[120]⟩ pa pm pc ps W8 (by omega) OP8.out.is EPM.out (HT2.out.below B8.out) (by decide) LH.out
  have CF := Lib.hid cf
  clear cf
  refine (CF.out _ (Below.refl _ _)).mono ?_
  rintro e W9 ⟨rfl, hb9⟩
  have B9 := Lib.hid (below_join B8.out hb9)
  have P149 := Lib.hid (heap_below P14.out hb9)
  have I69 := Lib.hid (I6.out.below hb9)
  have OP9 := Lib.hid (OP8.out.below hb9)
  have OQ9 := Lib.hid (OQ8.out.below hb9)
  clear f1 f2 hb9 P14 I6 OP8 OQ8 B8 CF
  obtain ⟨b2, cg, _⟩ := grows_agree m M hm' h qa qm qc qs W9 (by omega) OQ9.out.is EQM.out (HT2.out.below B9.out) LHM.out LH.out
  have CG := Lib.hid cg
  have L14 := Lib.hid (head_load LH.out P149.out)
  have CHQ := Lib.hid (fun (V : World) (g : Below W9.heap.size W9 V) => CHM.out V (below_join B9.out g))
  clear cg
  go_wp2_with fail
  refine wp_region_quiet_below (by kernel_rfl) (by kernel_rfl) ?_
  repeat (first | (refine quiet_load_row (by rfl) _ (.tmp 14) rfl _ _ rfl _ L14.out ?_; simp only [Act.put, List.setIfInBounds_toArray, List.set_cons_zero, List.set_cons_succ]) | go_big_quiet_step ((first | with_reducible exact Calls.regrown_of (CHQ.out _ (below_regrown _ _ _)) | with_reducible exact Calls.regrown_of (CG.out _ (below_regrown _ _ _)))))
  refine wpQuiet_nil ?_
  intro _ hw'
  obtain ⟨⟨dq, osq⟩, hw''⟩ := hw'
  subst hw''
  have hq2 := below_regrown W9 dq osq
  have BA := Lib.hid (below_join B9.out hq2)
  have IA := Lib.hid (I69.out.below hq2)
  have OPA := Lib.hid (OP9.out.below hq2)
  have OQA := Lib.hid (OQ9.out.below hq2)
  clear hq2 CG L14 CHQ CHM CH P149 I69 OP9 OQ9 B9
  generalize grow (redrawn W9 dq) osq = WA at *
  have bN : Below WA.heap.size WA (WA.alloc (.cells #[] 24)) := (Below.refl _ _).alloc (Nat.le_refl _) _
  have N0 := Lib.hid (owns_none WA WA.heap.size (Nat.le_refl _))
  have SP := Lib.hid (OPA.out.src.below bN)
  have BN := Lib.hid bN
  clear bN
  go_upto_region 10 with fail
  go_wp2_with (first
    | ((with_reducible refine op_is ⟨some 62, .call { callee := .builtin .append, args := #[.tmp 60, .tmp 61], argTypes := #[38, 38] }, _, _, _, _⟩ ?_); refine wpList_append_hs rfl (.tmp 60) (.tmp 61) rfl WA.heap.size _ _ [] ps rfl rfl N0.out SP.out (by have := HPS.out; simp; omega) BN.out.size ?_; intro v5' W5' hown5 hgrow5; have b5 := Lib.hid (grown_new BN.out hgrow5); have O5 := Lib.hid hown5; have SQ5 := Lib.hid (OQA.out.src.below b5.out); clear hown5 hgrow5)
    | ((with_reducible refine op_is ⟨some 64, .call { callee := .builtin .append, args := #[.tmp 62, .tmp 63], argTypes := #[38, 38] }, _, _, _, _⟩ ?_); refine wpList_append_hs rfl (.tmp 62) (.tmp 63) rfl WA.heap.size _ _ ([] ++ ps) qs rfl rfl O5.out SQ5.out (by have := HPS.out; have := HQS.out; simp; omega) b5.out.size ?_; intro v6' W6' hown6 hgrow6; have b6 := Lib.hid (grown_own b5.out O5.out hgrow6); have O6 := Lib.hid hown6; clear hown6 hgrow6))
  have CE := Lib.hid (same_any v6' v6 _ _ W6' O6.out.is (IA.out.below b6.out))
  rw [show ((([] ++ ps) ++ qs) == (([] ++ ps) ++ qs)) = true by simp] at CE
  refine CE.out.mono ?_
  rintro e WB ⟨rfl, hbB⟩
  have bB := below_join b6.out hbB
  have bZ : Below WB.heap.size WB (WB.alloc (.cells #[.slice pa pm pc, .slice qa qm qc] 38)) := (Below.refl _ _).alloc (Nat.le_refl _) _
  have K0 : Hid (KeepAt w W2 W2.heap.size WB.heap.size pa pm pc qa qm qc (WB.alloc (.cells #[.slice pa pm pc, .slice qa qm qc] 38))) :=
    ⟨below_join BA.out (below_join bB bZ), (RowV.of_own (OPA.out.below (below_join bB bZ)) EPM.out), ((RowV.of_own (OQA.out.below (below_join bB bZ)) EQM.out).mono HB3.out), heap_alloc_new WB _⟩
  clear bB bZ hbB b5 O5 SQ5 b6 O6 N0 SP BN CE IA OPA OQA BA
  go_wp2_with fail
  generalize WB.alloc (.cells #[.slice pa pm pc, .slice qa qm qc] 38) = WC at *
  go_loopw [72] (fun v wr => ∃ a : Nat, a ≤ 2 ∧ v = .int .i64 a ∧ KeepAt w W2 W2.heap.size WB.heap.size pa pm pc qa qm qc wr) (fun v _ => 2 - (intOf v).toNat)
  case atStart => exact ⟨0, by omega, rfl, K0.out⟩
  case round =>
    obtain ⟨a, ha, rfl, hka⟩ := hrel
    clear K0
    by_cases ha2 : a < 2
    · have hda : decide ((a : Int) < 2) = true := by simp; omega
      have r1 : (0 : Int) ≤ (a : Int) := by omega
      have r2 : (a : Int) < 2 := by omega
      have r3 : (a : Int).toNat = a := by omega
      obtain ⟨xa, xn, xc, hcx, hrx, hxn⟩ : ∃ (xa : Option Addr) (xn xc : Nat), wr.cell? ⟨WB.heap.size, a, none⟩ = some (.slice xa xn xc) ∧ RowV wr W2.heap.size xa xn xc ∧ xn ≤ 10 := by
        have : a = 0 ∨ a = 1 := by omega
        rcases this with rfl | rfl
        · exact ⟨pa, pm, pc, (cell_of_row _ _ 0 _ _ _ hka.lst).trans rfl, hka.r1, by rw [← EPM.out]; exact HPS.out⟩
        · exact ⟨qa, qm, qc, (cell_of_row _ _ 1 _ _ _ hka.lst).trans rfl, hka.r2, by rw [← EQM.out]; exact HQS.out⟩
      have KA := Lib.hid hka
      have RXV := Lib.hid hrx
      clear hka hrx
      go_wp2_with fail
      clear hcx
      go_loopw [78] (fun v wr => ∃ j : Nat, j ≤ xn ∧ v = .int .i64 j ∧ KeepAt w W2 W2.heap.size WB.heap.size pa pm pc qa qm qc wr ∧ RowV wr W2.heap.size xa xn xc) (fun v _ => xn - (intOf v).toNat)
      case atStart => exact ⟨0, by omega, rfl, KA.out, RXV.out⟩
      case round =>
        obtain ⟨j, hj, rfl, hkj, hrj⟩ := hrel
        clear KA RXV
        by_cases hjn : j < xn
        · have hdj : decide ((j : Int) < (xn : Int)) = true := by simp; omega
          have t1 : (0 : Int) ≤ (j : Int) := by omega
          have t2 : (j : Int) < (xn : Int) := by omega
          have t3 : (j : Int).toNat = j := by omega
          have tw : IntKind.i64.wrap ((j : Int) + 1) = (j : Int) + 1 := IntWalk.i64_in _ (by omega)
          obtain ⟨g, rfl, row, hg⟩ := hrj (by omega)
          have TH := Lib.hid (row.there j hjn)
          have NE := Lib.hid (row.ne_list hkj.lst)
          have HG := Lib.hid hg
          have KJ := Lib.hid hkj
          have RJ := Lib.hid hrj
          clear hkj hrj row hg
          go_wp2_with ((with_reducible refine op_is ⟨none, .store 24 (.tmp 84) (.tmp 83), _, _, _, _⟩ ?_); refine wpList_store_mid rfl 24 (.tmp 84) (.tmp 83) rfl g (j * 32) (hashArr nine) rfl nine_lit (by rw [hash_size nine_length]; exact TH.out) (hash_info _ nine_length) (hashArr_one _) ?_)
          go_roundw
          case rel => exact ⟨j + 1, by omega, by go_num, KJ.out.step g j (Nat.le_refl _) HG.out NE.out, RJ.out.puts g j nine nine_length⟩
          case measure => simp [intOf]; omega
        · obtain rfl : j = xn := by omega
          have hdj : decide ((j : Int) < (j : Int)) = false := by simp
          have KJ := Lib.hid hkj
          clear hkj hrj
          go_wp2_with fail
          go_roundw
          case rel => exact ⟨a + 1, by omega, by go_num, KJ.out⟩
          case measure => simp [intOf]; omega
    · obtain rfl : a = 2 := by omega
      have LO := Lib.hid hka.low
      clear hka
      go_wp2_with fail
      go_loopw [89] (fun v wr => ∃ k : Nat, k ≤ M ∧ v = .int .i64 k ∧ Below W2.heap.size W2 wr) (fun v _ => M - (intOf v).toNat)
      case atStart => exact ⟨0, by omega, rfl, LO.out⟩
      case round =>
        obtain ⟨k, hk, rfl, hlow⟩ := hrel
        clear LO
        by_cases hkM : k < M
        · have hdk : decide ((k : Int) < (M : Int)) = true := by simp; omega
          have t1 : (0 : Int) ≤ (k : Int) := by omega
          have t2 : (k : Int) < (M : Int) := by omega
          have t3 : (k : Int).toNat = k := by omega
          obtain ⟨_, ⟨e, _⟩ | ⟨b1, o1, c1, e, _, _, _, sa⟩⟩ := V1.out.below hlow
          · have := LL.out; rw [e] at this; simp at this; omega
          obtain ⟨_, ⟨e', _⟩ | ⟨b2, o2, c2, e', _, _, _, sb⟩⟩ := V2.out.below hlow
          · have := LL.out; rw [e'] at this; simp at this; omega
          injection e with e1 e2 e3
          injection e' with e1' e2' e3'
          subst e1 e3 e1' e3'
          have s1 := sa k (by rw [LL.out]; exact hkM)
          have s2 := sb k (by rw [LL.out]; exact hkM)
          generalize l.getD k ByteArray.empty = x at s1 s2
          have HL := Lib.hid hlow
          clear sa sb e2 e2' hlow
          go_wp2_with fail
          go_region
          all_goals
            go_wp2_with fail
            go_roundw
            case rel => exact ⟨k + 1, by omega, by go_num, HL.out.drew⟩
            case measure => simp [intOf]; omega
        · obtain rfl : k = M := by omega
          have hdk : decide ((k : Int) < (k : Int)) = false := by simp
          have HL := Lib.hid hlow
          clear hlow
          go_wp2_with fail
          refine (CR1.out _ HL.out).mono ?_
          rintro e WD ⟨rfl, hbD⟩
          have HD := Lib.hid (below_join HL.out hbD)
          go_wp2_with fail
          refine (CR2.out _ HD.out).mono ?_
          rintro e WE ⟨rfl, hbE⟩
          have HE := Lib.hid (below_join HD.out hbE)
          go_wp2_with fail
          go_ret
          exact ⟨rfl, below_join B2.out HE.out⟩
theorem walk_TreeKeeps {w : World} (ao : Option Addr) (n0 c : Nat) (xs : List UInt8) (hx : BytesIn w ao n0 c xs) (x : Int) (wx : (Lit.int .u8 x).wf = true) (hT : Tabs w) :
    Calls Tryd.prog 12 #[.slice ao n0 c, .int .u8 x] w fun e w' => e = .returned (.bool true) ∧ Below w.heap.size w w' := by
  have h1 : 0 ≤ x ∧ x ≤ 255 := by simpa [Lit.wf, IntKind.min, IntKind.max, IntKind.signed, IntKind.bits] using wx
  obtain ⟨A, rfl⟩ : ∃ A : Nat, x = (A : Int) := ⟨x.toNat, by omega⟩
  exact keeps_at ao n0 c xs A w hx (by omega) hT
end Go.Proofs.YtjedhmoehepbnaaDoor
