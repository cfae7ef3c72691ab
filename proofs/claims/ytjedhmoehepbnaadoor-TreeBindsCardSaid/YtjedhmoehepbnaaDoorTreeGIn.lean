/- The contract of the reference's GrowthInside. -/
import Derived.Test.YtjedhmoehepbnaaDoorTreeInside
import Derived.Test.YtjedhmoehepbnaaDoorTreeAgree
namespace Go.Proofs.YtjedhmoehepbnaaDoor
open Go.RowKit Go.Sort
set_option linter.unusedVariables false
section
def growS (f m n : Nat) (b : Bool) (old : Tree.H) (p : List Tree.H) : List ByteArray := (Tree.growIn f m n b old p).map bytesOf
/-- a new list of strings -/
def NewS (ss : List ByteArray) (w : World) (e : Ending) (w' : World) : Prop := ∃ v, e = .returned v ∧ OwnsS w' w.heap.size v ss ∧ Below w.heap.size w w'
theorem OwnsS.lower {W : World} {base base' : Nat} {v : Value} {ss : List ByteArray} (h : OwnsS W base v ss) (hb : base' ≤ base) : OwnsS W base' v ss := by
  refine ⟨h.1, ?_⟩
  rcases h.2 with h2 | ⟨g, cap, cur, e, hbg, h3⟩
  · exact .inl h2
  · exact .inr ⟨g, cap, cur, e, Nat.le_trans hb hbg, h3⟩
theorem new_grown {w w5 w6 : World} {base : Nat} {v v5 : Value} {gs ss : List ByteArray} (h1 : OwnsS w6 base v ss) (h2 : w5.grownBy w6 v5.ownBlock) (h3 : Below w.heap.size w w5) (h4 : w.heap.size ≤ base) (h5 : OwnsS w5 base v5 gs) : NewS ss w (.returned v) w6 :=
  ⟨_, rfl, h1.lower h4, h3.grown h2 h3.size (fun k hk => Nat.le_trans h4 (h5.lt k hk).1)⟩
set_option maxHeartbeats 1000000 in
theorem gin_same (n : Nat) (b : Bool) (old : Tree.H) (v : Value) (w : World) :
    Calls Tryd.prog 33 #[.int .i64 (n : Int), .int .i64 (n : Int), .bool b, .agg (hashArr old), v] w (NewS [] w) := by
  have hd : ((n : Int) == (n : Int)) = true := by simp
  go_enter Tryd.func33, Tryd.ntmps33
  go_wp2_with fail
  go_ret
  exact ⟨_, rfl, ⟨rfl, .inl ⟨rfl, rfl⟩⟩, (Below.refl _ _).alloc (Nat.le_refl _) _⟩
attribute [local go_sem ↓] wp_alloc_hash Go.wp_at_zero Go.wp_at_succ wp_load_at
set_option maxHeartbeats 4000000 in
set_option maxRecDepth 100000 in
theorem gin_left (m n k j b o c : Nat) (wh : Bool) (old a1 a2 z : Tree.H) (gs : List ByteArray) (w : World) (h1 : 1 ≤ m) (hmn : m < n) (hnm : n ≤ 9223372036854775807) (hk : Tree.half n = k) (hk1 : 1 ≤ k) (hkn : k < n) (hmk : m ≤ k) (hjc : j + 1 ≤ c) (hc : c ≤ 9223372036854775807) (lo : old.length = 32) (la1 : a1.length = 32) (la2 : a2.length = 32) (lz : z.length = 32) (hz : w.rangeAt b (o + j * 32) (hashArr z).toList) (hgs : gs.length ≤ 1000)
    (CB : ∀ W, Below w.heap.size w W → Calls Tryd.prog 49 #[.int .i64 (m : Int), .int .i64 (k : Int), .bool wh, .agg (hashArr old), .slice (some ⟨b, o, none⟩) j c] W (Gives2 (a1, a2) W))
    (CG : ∀ W, Below w.heap.size w W → Calls Tryd.prog 33 #[.int .i64 (m : Int), .int .i64 (k : Int), .bool wh, .agg (hashArr old), .slice (some ⟨b, o, none⟩) j c] W (NewS gs W)) :
    Calls Tryd.prog 33 #[.int .i64 (m : Int), .int .i64 (n : Int), .bool wh, .agg (hashArr old), .slice (some ⟨b, o, none⟩) (j + 1) c] w (NewS (gs ++ [bytesOf (1 :: (a2 ++ z))]) w) := by
  have hd1 : ((m : Int) == (n : Int)) = false := by simp; omega
  have hdi : decide ((m : Int) ≤ (k : Int)) = true := by simp; omega
  have ch := fun W => rhalf_any n W (by omega) hnm
  rw [hk] at ch
  have CH := Lib.hid ch
  have q0 : IntKind.i64.wrap ((j : Int) + 1 - 1) = (j : Int) := by rw [show (j : Int) + 1 - 1 = (j : Int) by omega]; exact IntWalk.i64_in _ (by omega)
  have q1 : (0 : Int) ≤ (j : Int) := by omega
  have q2 : (j : Int) < (j : Int) + 1 := by omega
  have q3 : (j : Int).toNat = j := by omega
  have hcut := cut_hs (some ⟨b, o, none⟩) (j + 1) j c (by omega)
  have b0 : Below w.heap.size w (w.alloc (.cells (hashArr old) 24)) := (Below.refl _ _).alloc (Nat.le_refl _) _
  have H0 := Lib.hid (heap_alloc_new w (.cells (hashArr old) 24))
  have HZ := Lib.hid (range_below hz b0)
  have LI := Lib.hid (hash_infoL z lz)
  have LO := Lib.hid lo
  have LA1 := Lib.hid la1
  have LA2 := Lib.hid la2
  have LZ := Lib.hid lz
  have L0 : Hid ((hashArr Tree.zero).size = 32) := by show _ = _; rw [hashArr_size]; exact zero_length
  have LZ0 := Lib.hid zero_length
  have CCB := Lib.hid CB
  have CCG := Lib.hid CG
  have B0 := Lib.hid b0
  clear b0 CB CG ch hk hz lo la1 la2 lz
  go_enter Tryd.func33, Tryd.ntmps33
  go_wp2_with fail
  with_reducible refine (CH.out _).mono ?_
  rintro e w' ⟨rfl, rfl⟩
  generalize w.alloc (.cells (hashArr old) 24) = W0 at *
  have bw : Below W0.heap.size W0 (W0.alloc (.cells (hashArr z) 24)) := (Below.refl _ _).alloc (Nat.le_refl _) _
  have G0 := heap_below H0.out bw
  have G3 := Lib.hid (heap_alloc_new W0 (.cells (hashArr z) 24))
  have e1 := isHashAt LO.out G0
  have e2 := hashOf_at G0
  have B1 := Lib.hid (below_join B0.out bw)
  have G0h := Lib.hid G0
  clear bw G0
  go_wp2_with (first
    | ((with_reducible refine op_is ⟨some 29, .load 24 (.tmp 28), _, _, _, _⟩ ?_); refine wpList_load_mid rfl 24 (.tmp 28) rfl b (o + j * 32) rfl (hashArr z).toList _ HZ.out Tryd.underlying24 rfl LI.out ?_; rw [Array.toArray_toList])
    | ((with_reducible refine op_is ⟨none, .store 24 (.tmp 12) (.tmp 29), _, _, _, _⟩ ?_); refine store_hash LZ.out L0.out (.tmp 12) (.tmp 29) rfl rfl rfl rfl rfl ?_))
  with_reducible refine (CCB.out _ B1.out).mono ?_
  rintro ed w1 ⟨rfl, hb1⟩
  clear e1 e2
  have K1 := Lib.hid (heap2_old w1 (.cells (hashArr Tree.zero) 24) (.cells (hashArr Tree.zero) 24))
  have K2 := Lib.hid (heap2_new w1 (.cells (hashArr Tree.zero) 24) (.cells (hashArr Tree.zero) 24))
  have K3 := Lib.hid ((setRow_other _ w1.heap.size (w1.heap.size + 1) (hashArr a1) (by omega)).trans K2.out)
  have bz : Below w1.heap.size w1 ((((w1.alloc (.cells (hashArr Tree.zero) 24)).alloc (.cells (hashArr Tree.zero) 24)).setRow w1.heap.size (hashArr a1)).setRow (w1.heap.size + 1) (hashArr a2)) := below_setRow (below_setRow (((Below.refl _ _).alloc (Nat.le_refl _) _).alloc (by simp) _) (by omega) _) (by omega) _
  have hbz := below_join hb1 bz
  have T15 := Lib.hid (pair_rows (hashArr a1) (hashArr a2) K1.out K2.out (by omega)).2
  have T8 := Lib.hid (heap_below G0h.out hbz)
  have T12 := Lib.hid (heap_below G3.out hbz)
  have B2 := Lib.hid (below_join B1.out hbz)
  clear bz hbz hb1
  go_wp2_with (first
    | ((with_reducible refine op_is ⟨none, .store 24 (.tmp 14) (.tmp 45), _, _, _, _⟩ ?_); refine wpList_store_row rfl 24 (.tmp 14) (.tmp 45) rfl w1.heap.size (hashArr a1) rfl rfl 24 _ K1.out (hash_info _ LA1.out) (by rw [hashArr_size, hashArr_size, LA1.out, LZ0.out]) (hashArr_one _) ?_)
    | ((with_reducible refine op_is ⟨none, .store 24 (.tmp 15) (.tmp 46), _, _, _, _⟩ ?_); refine wpList_store_row rfl 24 (.tmp 15) (.tmp 46) rfl (w1.heap.size + 1) (hashArr a2) rfl rfl 24 _ K3.out (hash_info _ LA2.out) (by rw [hashArr_size, hashArr_size, LA2.out, LZ0.out]) (hashArr_one _) ?_))
  clear K1 K2 K3 G0h G3 B1 HZ B0 H0 CCB
  generalize (((w1.alloc (.cells (hashArr Tree.zero) 24)).alloc (.cells (hashArr Tree.zero) 24)).setRow w1.heap.size (hashArr a1)).setRow (w1.heap.size + 1) (hashArr a2) = W2 at *
  obtain ⟨sa, esa⟩ : ∃ s : ByteArray, (⟨a2.toArray⟩ : ByteArray) = s := ⟨_, rfl⟩
  obtain ⟨sb, esb⟩ : ∃ s : ByteArray, (⟨z.toArray⟩ : ByteArray) = s := ⟨_, rfl⟩
  have za : sa.size = 32 := by rw [← esa]; simp [ByteArray.size, LA2.out]
  have zb : sb.size = 32 := by rw [← esb]; simp [ByteArray.size, LZ.out]
  have n1 : ¬ 9223372036854775807 < 1 + sa.size := by omega
  have n2 : ¬ 9223372036854775807 < 1 + sa.size + sb.size := by omega
  obtain ⟨x, exx⟩ : ∃ x, (⟨#[1]⟩ : ByteArray) ++ sa ++ sb = x := ⟨_, rfl⟩
  have EXX : Hid (bytesOf (1 :: (a2 ++ z)) = x) := by
    show _ = _
    rw [← exx, ← esa, ← esb]
    have := node_text a2 z
    show (⟨_⟩ : ByteArray) = _
    rw [← this, Array.toArray_toList]
  have ESA := Lib.hid esa
  have ESB := Lib.hid esb
  have bd : Below W2.heap.size W2 W2.drew := (Below.refl _ _).drew
  have bdx : Below W2.heap.size W2 (W2.alloc (.cells #[.string x] 9)).drew := ((Below.refl _ _).alloc (Nat.le_refl _) _).drew
  have f1 := isHashAt LO.out (heap_below T8.out bd)
  have f2 := hashOf_at (heap_below T8.out bd)
  have f3 := isHashAt LO.out (heap_below T8.out bdx)
  have f4 := hashOf_at (heap_below T8.out bdx)
  have c1 := conv_hash LA2.out (heap_below T15.out bd)
  have c2 := conv_hash LZ.out (heap_below T12.out bd)
  rw [esa] at c1
  rw [esb] at c2
  have HGS : Hid (gs.length ≤ 100000) := by show _ ≤ _; omega
  have BD := Lib.hid bd
  have BDX := Lib.hid bdx
  have NBX : Hid ((W2.alloc (.cells #[.string x] 9)).drew.heap[W2.heap.size]? = some (.cells #[.string x] 9 (0, 0))) := heap_alloc_new W2 _
  clear bd bdx esa esb za zb
  go_region_law (first
    | (go_simp; go_at_call 33; (with_reducible refine (CCG.out W2.drew (below_join B2.out BD.out)).mono ?_); rintro ed w5 ⟨v5, rfl, own5, hb5⟩; have c3 := conv_hash LA2.out (heap_below (heap_below T15.out BD.out) hb5); have c4 := conv_hash LZ.out (heap_below (heap_below T12.out BD.out) hb5); rw [ESA.out] at c3; rw [ESB.out] at c4; have OX := Lib.hid (own5.below ((Below.refl w5.heap.size w5).alloc (Nat.le_refl _) (.cells #[.string x] 9))); have NB := Lib.hid (heap_alloc_new w5 (.cells #[.string x] 9)); have B5 := Lib.hid (below_join B2.out (below_join BD.out hb5)); have SZ := Lib.hid hb5.size)
    | (go_simp; go_at_call 33; (with_reducible refine (CCG.out _ (below_join B2.out BDX.out)).mono ?_); rintro ed w5 ⟨v5, rfl, own5, hb5⟩; have OX2 := Lib.hid own5; have NB2 := Lib.hid (heap_below NBX.out hb5); have B5 := Lib.hid (below_join B2.out (below_join BDX.out hb5)); have SZ := Lib.hid hb5.size)
    | (refine step_append_str2 (by rfl) (.tmp 52) (.tmp 59) (by rfl) W2.drew.heap.size v5 gs x w5.heap.size (by rfl) (by rfl) OX.out NB.out HGS.out (Nat.le_trans SZ.out (by simp)) ?_; intro g cap w6 hown6 hgrow6 hg6)
    | (refine step_append_str2 (by rfl) (.tmp 52) (.tmp 59) (by rfl) (W2.alloc (.cells #[.string x] 9)).drew.heap.size v5 gs x W2.heap.size (by rfl) (by rfl) OX2.out NB2.out HGS.out SZ.out ?_; intro g cap w6 hown6 hgrow6 hg6))
  all_goals
    go_wp2_with fail
    go_ret
    rw [EXX.out]
    first
      | exact new_grown (base := W2.drew.heap.size) hown6 hgrow6 (B5.out.alloc B5.out.size _) (Nat.le_trans B2.out.size (Nat.le_refl _)) OX.out
      | exact new_grown (base := (W2.alloc (.cells #[.string x] 9)).drew.heap.size) hown6 hgrow6 B5.out (Nat.le_trans B2.out.size BDX.out.size) OX2.out
end
section
theorem step_append_two {ops : Array Oper} {o : Oper} {a : Act} {w : World} {K : Act → World → Prop} {Q : Exit → Act → World → Prop} {E : Prop} (hgd : o.guard = none) (s x : Operand)
    (ho : o.op = .call { callee := .builtin .append, args := #[s, x], argTypes := #[22, 22] }) (base : Nat) (v : Value) (ss : List ByteArray) (r r2 : ByteArray) (B : Nat)
    (hsv : a.eval s = v) (hx : a.eval x = .slice (some ⟨B, 0, none⟩) 2 2) (hown : OwnsS w base v ss) (hB : w.heap[B]? = some (.cells #[.string r, .string r2] 9 (0, 0))) (hlen : ss.length ≤ 100000) (hbase : base ≤ w.heap.size)
    (h : ∀ g cap w', OwnsS w' base (.slice (some ⟨g, 0, none⟩) (ss.length + 2) cap) (ss ++ [r, r2]) → w.grownBy w' v.ownBlock → K (a.put o.dst (.slice (some ⟨g, 0, none⟩) (ss.length + 2) cap)) w') :
    if Region.wanted o (yielded ops a.tmps) = true then Oper.wp Tryd.prog o a w K Q else E := by
  obtain ⟨i0, hi, hz0, hz1, hz2⟩ := info_parts str_infos
  refine step_append_lies (P := Tryd.prog) w hgd s x 22 ho base 9 i0 _ 1 16 Tryd.underlying22 hi hz0 hz1 hz2 rfl (by omega) v ss.length (ss.map Value.string) hsv hown ⟨B, 0, none⟩ 2 2 [.string r, .string r2] hx rfl (World.news_of_block hB)
    (fun u hu => by rcases List.mem_cons.1 hu with rfl | hu; rfl; rw [List.mem_singleton.1 hu]; rfl) (by omega) (by unfold maxLen; omega) (by omega) hbase _ rfl ?_
  intro g cap w1 hown1 hgrow hg _
  refine h g cap w1 ?_ hgrow
  show World.ownsRow _ _ _ _ _ _ _
  rw [List.map_append, List.length_append]; exact hown1
attribute [local go_sem ↓] wp_alloc_hash Go.wp_at_zero Go.wp_at_succ wp_load_at
set_option maxHeartbeats 4000000 in
set_option maxRecDepth 100000 in
theorem gin_right (m n k j b o c : Nat) (wh : Bool) (old a1 a2 z : Tree.H) (gs : List ByteArray) (w : World) (h1 : 1 ≤ m) (hmn : m < n) (hnm : n ≤ 9223372036854775807) (hk : Tree.half n = k) (hk1 : 1 ≤ k) (hkn : k < n) (hmk : k < m) (hjc : j + 1 ≤ c) (hc : c ≤ 9223372036854775807) (lo : old.length = 32) (la1 : a1.length = 32) (la2 : a2.length = 32) (lz : z.length = 32) (hz : w.rangeAt b (o + j * 32) (hashArr z).toList) (hgs : gs.length ≤ 1000)
    (CB : ∀ W, Below w.heap.size w W → Calls Tryd.prog 49 #[.int .i64 ((m - k : Nat) : Int), .int .i64 ((n - k : Nat) : Int), .bool false, .agg (hashArr old), .slice (some ⟨b, o, none⟩) j c] W (Gives2 (a1, a2) W))
    (CG : ∀ W, Below w.heap.size w W → Calls Tryd.prog 33 #[.int .i64 ((m - k : Nat) : Int), .int .i64 ((n - k : Nat) : Int), .bool false, .agg (hashArr old), .slice (some ⟨b, o, none⟩) j c] W (NewS gs W)) :
    Calls Tryd.prog 33 #[.int .i64 (m : Int), .int .i64 (n : Int), .bool wh, .agg (hashArr old), .slice (some ⟨b, o, none⟩) (j + 1) c] w (NewS (gs ++ [bytesOf (1 :: (z ++ a1)), bytesOf (1 :: (z ++ a2))]) w) := by
  have hd1 : ((m : Int) == (n : Int)) = false := by simp; omega
  have hdi : decide ((m : Int) ≤ (k : Int)) = false := by simp; omega
  have ch := fun W => rhalf_any n W (by omega) hnm
  rw [hk] at ch
  have CH := Lib.hid ch
  have q0 : IntKind.i64.wrap ((j : Int) + 1 - 1) = (j : Int) := by rw [show (j : Int) + 1 - 1 = (j : Int) by omega]; exact IntWalk.i64_in _ (by omega)
  have q1 : (0 : Int) ≤ (j : Int) := by omega
  have q2 : (j : Int) < (j : Int) + 1 := by omega
  have q3 : (j : Int).toNat = j := by omega
  have q7 : IntKind.i64.wrap ((m : Int) - (k : Int)) = (m : Int) - (k : Int) := IntWalk.i64_in _ (by omega)
  have q8 : IntKind.i64.wrap ((n : Int) - (k : Int)) = (n : Int) - (k : Int) := IntWalk.i64_in _ (by omega)
  have hcut := cut_hs (some ⟨b, o, none⟩) (j + 1) j c (by omega)
  have b0 : Below w.heap.size w (w.alloc (.cells (hashArr old) 24)) := (Below.refl _ _).alloc (Nat.le_refl _) _
  have H0 := Lib.hid (heap_alloc_new w (.cells (hashArr old) 24))
  have HZ := Lib.hid (range_below hz b0)
  have LI := Lib.hid (hash_infoL z lz)
  have LO := Lib.hid lo
  have LA1 := Lib.hid la1
  have LA2 := Lib.hid la2
  have LZ := Lib.hid lz
  have L0 : Hid ((hashArr Tree.zero).size = 32) := by show _ = _; rw [hashArr_size]; exact zero_length
  have LZ0 := Lib.hid zero_length
  have CCB := Lib.hid CB
  have CCG := Lib.hid CG
  rw [show ((n - k : Nat) : Int) = (n : Int) - (k : Int) by omega, show ((m - k : Nat) : Int) = (m : Int) - (k : Int) by omega] at CCB CCG
  have B0 := Lib.hid b0
  clear b0 CB CG ch hk hz lo la1 la2 lz
  go_enter Tryd.func33, Tryd.ntmps33
  go_wp2_with fail
  with_reducible refine (CH.out _).mono ?_
  rintro e w' ⟨rfl, rfl⟩
  generalize w.alloc (.cells (hashArr old) 24) = W0 at *
  have bw : Below W0.heap.size W0 (W0.alloc (.cells (hashArr z) 24)) := (Below.refl _ _).alloc (Nat.le_refl _) _
  have G0 := heap_below H0.out bw
  have G3 := Lib.hid (heap_alloc_new W0 (.cells (hashArr z) 24))
  have e1 := isHashAt LO.out G0
  have e2 := hashOf_at G0
  have B1 := Lib.hid (below_join B0.out bw)
  have G0h := Lib.hid G0
  clear bw G0
  go_wp2_with (first
    | ((with_reducible refine op_is ⟨some 29, .load 24 (.tmp 28), _, _, _, _⟩ ?_); refine wpList_load_mid rfl 24 (.tmp 28) rfl b (o + j * 32) rfl (hashArr z).toList _ HZ.out Tryd.underlying24 rfl LI.out ?_; rw [Array.toArray_toList])
    | ((with_reducible refine op_is ⟨none, .store 24 (.tmp 12) (.tmp 29), _, _, _, _⟩ ?_); refine store_hash LZ.out L0.out (.tmp 12) (.tmp 29) rfl rfl rfl rfl rfl ?_))
  with_reducible refine (CCB.out _ B1.out).mono ?_
  rintro ed w1 ⟨rfl, hb1⟩
  clear e1 e2
  have K1 := Lib.hid (heap2_old w1 (.cells (hashArr Tree.zero) 24) (.cells (hashArr Tree.zero) 24))
  have K2 := Lib.hid (heap2_new w1 (.cells (hashArr Tree.zero) 24) (.cells (hashArr Tree.zero) 24))
  have K3 := Lib.hid ((setRow_other _ w1.heap.size (w1.heap.size + 1) (hashArr a1) (by omega)).trans K2.out)
  have bz : Below w1.heap.size w1 ((((w1.alloc (.cells (hashArr Tree.zero) 24)).alloc (.cells (hashArr Tree.zero) 24)).setRow w1.heap.size (hashArr a1)).setRow (w1.heap.size + 1) (hashArr a2)) := below_setRow (below_setRow (((Below.refl _ _).alloc (Nat.le_refl _) _).alloc (by simp) _) (by omega) _) (by omega) _
  have hbz := below_join hb1 bz
  have T16 := Lib.hid (pair_rows (hashArr a1) (hashArr a2) K1.out K2.out (by omega)).1
  have T17 := Lib.hid (pair_rows (hashArr a1) (hashArr a2) K1.out K2.out (by omega)).2
  have T8 := heap_below G0h.out hbz
  have f1 := isHashAt LO.out T8
  have f2 := hashOf_at T8
  have T12 := Lib.hid (heap_below G3.out hbz)
  have B2 := Lib.hid (below_join B1.out hbz)
  clear bz hbz hb1 T8
  go_wp2_with (first
    | ((with_reducible refine op_is ⟨none, .store 24 (.tmp 16) (.tmp 71), _, _, _, _⟩ ?_); refine wpList_store_row rfl 24 (.tmp 16) (.tmp 71) rfl w1.heap.size (hashArr a1) rfl rfl 24 _ K1.out (hash_info _ LA1.out) (by rw [hashArr_size, hashArr_size, LA1.out, LZ0.out]) (hashArr_one _) ?_)
    | ((with_reducible refine op_is ⟨none, .store 24 (.tmp 17) (.tmp 72), _, _, _, _⟩ ?_); refine wpList_store_row rfl 24 (.tmp 17) (.tmp 72) rfl (w1.heap.size + 1) (hashArr a2) rfl rfl 24 _ K3.out (hash_info _ LA2.out) (by rw [hashArr_size, hashArr_size, LA2.out, LZ0.out]) (hashArr_one _) ?_))
  with_reducible refine (CCG.out _ B2.out).mono ?_
  rintro ed w5 ⟨v5, rfl, own5, hb5⟩
  clear f1 f2 K1 K2 K3 G0h G3 B1 HZ B0 H0 CCB
  generalize (((w1.alloc (.cells (hashArr Tree.zero) 24)).alloc (.cells (hashArr Tree.zero) 24)).setRow w1.heap.size (hashArr a1)).setRow (w1.heap.size + 1) (hashArr a2) = W2 at *
  obtain ⟨sa, esa⟩ : ∃ s : ByteArray, (⟨a1.toArray⟩ : ByteArray) = s := ⟨_, rfl⟩
  obtain ⟨sc, esc⟩ : ∃ s : ByteArray, (⟨a2.toArray⟩ : ByteArray) = s := ⟨_, rfl⟩
  obtain ⟨sb, esb⟩ : ∃ s : ByteArray, (⟨z.toArray⟩ : ByteArray) = s := ⟨_, rfl⟩
  have za : sa.size = 32 := by rw [← esa]; simp [ByteArray.size, LA1.out]
  have zc : sc.size = 32 := by rw [← esc]; simp [ByteArray.size, LA2.out]
  have zb : sb.size = 32 := by rw [← esb]; simp [ByteArray.size, LZ.out]
  have n1 : ¬ 9223372036854775807 < 1 + sb.size := by omega
  have n2 : ¬ 9223372036854775807 < 1 + sb.size + sa.size := by omega
  have n3 : ¬ 9223372036854775807 < 1 + sb.size + sc.size := by omega
  obtain ⟨x, exx⟩ : ∃ x, (⟨#[1]⟩ : ByteArray) ++ sb ++ sa = x := ⟨_, rfl⟩
  obtain ⟨y, eyy⟩ : ∃ x, (⟨#[1]⟩ : ByteArray) ++ sb ++ sc = x := ⟨_, rfl⟩
  have EXX : Hid (bytesOf (1 :: (z ++ a1)) = x) := by
    show _ = _
    rw [← exx, ← esa, ← esb]
    have := node_text z a1
    show (⟨_⟩ : ByteArray) = _
    rw [← this, Array.toArray_toList]
  have EYY : Hid (bytesOf (1 :: (z ++ a2)) = y) := by
    show _ = _
    rw [← eyy, ← esc, ← esb]
    have := node_text z a2
    show (⟨_⟩ : ByteArray) = _
    rw [← this, Array.toArray_toList]
  have bd : Below w5.heap.size w5 w5.drew := (Below.refl _ _).drew
  have c1 := conv_hash LA1.out (heap_below (heap_below T16.out hb5) bd)
  have c2 := conv_hash LZ.out (heap_below (heap_below T12.out hb5) bd)
  have c3 := conv_hash LA2.out (heap_below (heap_below T17.out hb5) bd)
  rw [esa] at c1
  rw [esb] at c2
  rw [esc] at c3
  have bx : Below w5.heap.size w5 (w5.alloc (.cells #[.string x, .string y] 9)).drew := ((Below.refl _ _).alloc (Nat.le_refl _) _).drew
  have OX := Lib.hid (own5.below bx)
  have NB : Hid ((w5.alloc (.cells #[.string x, .string y] 9)).drew.heap[w5.heap.size]? = some (.cells #[.string x, .string y] 9 (0, 0))) := heap_alloc_new w5 _
  have B5 := Lib.hid (below_join (below_join B2.out hb5) bx)
  have SZ := Lib.hid (Nat.le_trans hb5.size bx.size)
  have HGS : Hid (gs.length ≤ 100000) := by show _ ≤ _; omega
  have B2S := Lib.hid B2.out.size
  clear bd bx esa esb esc za zb zc hb5 own5 B2 T16 T12 T17
  go_wp2_with fail
  go_region_law (refine step_append_two (by rfl) (.tmp 82) (.tmp 95) (by rfl) W2.heap.size v5 gs x y w5.heap.size (by rfl) (by rfl) OX.out NB.out HGS.out SZ.out ?_; intro g cap w6 hown6 hgrow6)
  all_goals
    go_wp2_with fail
    go_ret
    rw [EXX.out, EYY.out]
    exact new_grown (base := W2.heap.size) hown6 hgrow6 B5.out B2S.out OX.out
end
section
theorem Tree.growIn_length : ∀ (f m n : Nat) (b : Bool) (old : Tree.H) (p : List Tree.H), (Tree.growIn f m n b old p).length ≤ 2 * f := by
  intro f
  induction f with
  | zero => intro m n b old p; simp [Tree.growIn]
  | succ f ih =>
    intro m n b old p
    rw [Tree.growIn]
    split
    · simp
    · split
      · have := ih m (Tree.half n) b old (p.take (p.length - 1)); simp; omega
      · have := ih (m - Tree.half n) (n - Tree.half n) false old (p.take (p.length - 1)); simp; omega
theorem growS_length (f m n : Nat) (b : Bool) (old : Tree.H) (p : List Tree.H) (hf : f ≤ 63) : (growS f m n b old p).length ≤ 1000 := by
  have := Tree.growIn_length f m n b old p
  unfold growS; rw [List.length_map]; omega
theorem gin_any : ∀ (f m n k c : Nat) (b : Bool) (a : Option Addr) (hs : List Tree.H) (old : Tree.H) (w : World), f ≤ 63 → 1 ≤ m → m ≤ n → n ≤ 2 ^ f → n ≤ 9223372036854775807 → IsHs w (.slice a k c) hs → hs.length = k → k = Tree.many f m n b → old.length = 32 →
    Calls Tryd.prog 33 #[.int .i64 (m : Int), .int .i64 (n : Int), .bool b, .agg (hashArr old), .slice a k c] w (NewS (growS f m n b old hs) w) := by
  intro f
  induction f with
  | zero =>
    intro m n k c b a hs old w hf63 h1 hmn hf hnm hp hl hk lo
    have : (2 : Nat) ^ 0 = 1 := rfl
    obtain rfl : m = n := by omega
    exact gin_same m b old _ w
  | succ f ih =>
    intro m n k c b a hs old w hf63 h1 hmn hf hnm hp hl hk lo
    rw [Tree.many] at hk
    unfold growS
    rw [Tree.growIn]
    by_cases he : m = n
    · rw [if_pos he]
      subst he
      exact gin_same m b old _ w
    · rw [if_neg he] at hk ⊢
      have hk0 := Tree.half_pos n
      have hk1 := Tree.half_lt n (by omega)
      have hf1 := Tree.half_pow n f (by omega) hf
      have hf2 := Tree.rest_pow n f (by omega) hf
      by_cases hik : m ≤ Tree.half n
      · rw [if_pos hik] at hk ⊢
        obtain ⟨j, rfl⟩ : ∃ j, k = j + 1 := ⟨k - 1, by omega⟩
        obtain ⟨b', o, rfl, hmc, hc, hel⟩ := hp.last hl (by omega)
        rw [hl, show j + 1 - 1 = j by omega]
        have hl2 : (hs.take j).length = j := by rw [List.length_take]; omega
        have ht : Each (hs.take j) := fun x hx => hp.1 x (List.mem_of_mem_take hx)
        have lb := both_length f m (Tree.half n) b old (hs.take j) ht lo h1 hik hf1 (by omega)
        rw [List.map_append, List.map_cons, List.map_nil]
        exact gin_left m n (Tree.half n) j b' o c b old _ _ _ _ w h1 (by omega) hnm rfl hk0 hk1 hik hmc hc lo lb.1 lb.2 (hp.1.getD j (by omega)) (hel j (by omega)) (growS_length f _ _ _ _ _ (by omega))
          (fun W g => rboth_any f m (Tree.half n) j c b _ (hs.take j) old W h1 hik hf1 (by omega) ((hp.below g).cut hl (by omega)) hl2 (by omega) lo)
          (fun W g => ih m (Tree.half n) j c b _ (hs.take j) old W (by omega) h1 hik hf1 (by omega) ((hp.below g).cut hl (by omega)) hl2 (by omega) lo)
      · rw [if_neg hik] at hk ⊢
        obtain ⟨j, rfl⟩ : ∃ j, k = j + 1 := ⟨k - 1, by omega⟩
        obtain ⟨b', o, rfl, hmc, hc, hel⟩ := hp.last hl (by omega)
        rw [hl, show j + 1 - 1 = j by omega]
        have hl2 : (hs.take j).length = j := by rw [List.length_take]; omega
        have ht : Each (hs.take j) := fun x hx => hp.1 x (List.mem_of_mem_take hx)
        have lb := both_length f (m - Tree.half n) (n - Tree.half n) false old (hs.take j) ht lo (by omega) (by omega) hf2 (by omega)
        rw [List.map_append, List.map_cons, List.map_cons, List.map_nil]
        exact gin_right m n (Tree.half n) j b' o c b old _ _ _ _ w h1 (by omega) hnm rfl hk0 hk1 (by omega) hmc hc lo lb.1 lb.2 (hp.1.getD j (by omega)) (hel j (by omega)) (growS_length f _ _ _ _ _ (by omega))
          (fun W g => rboth_any f (m - Tree.half n) (n - Tree.half n) j c false _ (hs.take j) old W (by omega) (by omega) hf2 (by omega) ((hp.below g).cut hl (by omega)) hl2 (by omega) lo)
          (fun W g => ih (m - Tree.half n) (n - Tree.half n) j c false _ (hs.take j) old W (by omega) (by omega) (by omega) hf2 (by omega) ((hp.below g).cut hl (by omega)) hl2 (by omega) lo)
theorem clashes_found (L : List Tree.S) (h : Tree.Clashes L) : ¬ NoClash (L.map bytesOf) := by
  obtain ⟨u, hu, v, hv, hne, hsum⟩ := h
  obtain ⟨i, hi, rfl⟩ := List.mem_iff_getElem.1 hu
  obtain ⟨j, hj, rfl⟩ := List.mem_iff_getElem.1 hv
  have key : ∀ i (hi : i < L.length) j (hj : j < L.length), j < i → L[i] ≠ L[j] → Sha.sum L[i] = Sha.sum L[j] → ¬ NoClash (L.map bytesOf) := by
    intro i hi j hj hji hne hsum hno
    have e1 : (L.map bytesOf).getD i ByteArray.empty = bytesOf L[i] := by simp [List.getD_eq_getElem?_getD, List.getElem?_eq_getElem hi]
    have e2 : (L.map bytesOf).getD j ByteArray.empty = bytesOf L[j] := by simp [List.getD_eq_getElem?_getD, List.getElem?_eq_getElem hj]
    rcases hno i (by simpa using hi) j hji with h | h
    · rw [e1, e2] at h
      apply hne
      have := congrArg (fun b : ByteArray => b.data.toList) h
      simpa [bytesOf] using this
    · rw [e1, e2] at h
      exact h hsum
  rcases Nat.lt_trichotomy i j with h | h | h
  · exact key j hj i hi h (Ne.symm hne) hsum.symm
  · subst h; exact absurd rfl hne
  · exact key i hi j hj h hne hsum
end
end Go.Proofs.YtjedhmoehepbnaaDoor
