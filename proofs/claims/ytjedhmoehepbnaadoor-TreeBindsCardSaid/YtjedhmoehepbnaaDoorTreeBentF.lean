/- The contract of the reference's Bent; rules for Heads in memory; the memory in which TreeChecks compares. -/
import Derived.Test.YtjedhmoehepbnaaDoorTreeRefFits
import Derived.Test.YtjedhmoehepbnaaDoorTreeRefPath
import Derived.Laws.AppendOwnNone
import Derived.Test.YtjedhmoehepbnaaDoorTreeAgree
import Derived.Test.YtjedhmoehepbnaaDoorSanity12
import Derived.Test.YtjedhmoehepbnaaDoorSliceBytes
namespace Go.Proofs.YtjedhmoehepbnaaDoor
open Go.RowKit Go.Sort
set_option linter.unusedVariables false
section
structure RowAt (W : World) (g n cap : Nat) : Prop where
  ex : ∃ cur, W.heap[g]? = some (.cells cur 24 (0, 0)) ∧ cur.size = cap * 32 ∧ ∀ k, k < n * 32 → ∃ b : UInt8, cur[k]? = some (.int .u8 (b.toNat : Int))
  nc : n ≤ cap
  cm : cap ≤ maxLen
theorem RowAt.below {W w1 : World} {g n cap : Nat} (h : RowAt W g n cap) (hb : Below W.heap.size W w1) : RowAt w1 g n cap := by
  obtain ⟨⟨cur, h1, h2, h3⟩, h4, h5⟩ := h
  exact ⟨⟨cur, heap_below h1 hb, h2, h3⟩, h4, h5⟩
theorem hash_byte (l : Tree.H) (j : Nat) (hj : j < l.length) : ∃ b : UInt8, (hashArr l).toList[j]? = some (.int .u8 (b.toNat : Int)) := by
  refine ⟨l.getD j 0, ?_⟩
  simp [hashArr, List.getElem?_eq_getElem hj, List.getD_eq_getElem?_getD]
theorem RowAt.of_own {W : World} {base g n cap : Nat} {hs : List Tree.H} (h : OwnsH W base (.slice (some ⟨g, 0, none⟩) n cap) hs) : RowAt W g n cap ∧ base ≤ g ∧ hs.length = n := by
  rcases h.2.2 with ⟨e, _⟩ | ⟨g', cap', cur, e, hbg, hgg, hnc, hcm, hcs, ht⟩
  · simp at e
  · injection e with e1 e2 e3
    injection e1 with e1
    injection e1 with e1
    subst e1 e3
    have hl : hs.length = n := e2.symm
    refine ⟨⟨⟨cur, hgg, hcs, fun k hk => ?_⟩, by omega, hcm⟩, hbg, hl⟩
    have hf := flat_get hs h.1 (k / 32) (k % 32) (by omega) (by omega)
    rw [show k / 32 * 32 + k % 32 = k by omega, ← ht, List.getElem?_take, if_pos (by omega)] at hf
    obtain ⟨b, hb⟩ := hash_byte (hs.getD (k / 32) []) (k % 32) (by rw [Each.getD h.1 _ (by omega)]; omega)
    exact ⟨b, by rw [hb] at hf; simpa using hf⟩
theorem unflat : ∀ (n : Nat) (xs : List Value), xs.length = n * 32 → (∀ k, k < n * 32 → ∃ b : UInt8, xs[k]? = some (.int .u8 (b.toNat : Int))) → ∃ hs : List Tree.H, hs.length = n ∧ Each hs ∧ flat hs = xs
  | 0, xs, hl, _ => ⟨[], rfl, (fun x hx => by cases hx), by rw [List.length_eq_zero_iff.1 (by omega : xs.length = 0)]; rfl⟩
  | n + 1, xs, hl, h => by
    let zof : Value → UInt8 := fun v => match v with | .int _ z => UInt8.ofNat z.toNat | _ => 0
    obtain ⟨hs, h1, h2, h3⟩ := unflat n (xs.drop 32) (by rw [List.length_drop]; omega) (fun k hk => by
      obtain ⟨b, hb⟩ := h (32 + k) (by omega)
      exact ⟨b, by rw [List.getElem?_drop]; exact hb⟩)
    refine ⟨(xs.take 32).map zof :: hs, by simp [h1], ?_, ?_⟩
    · intro x hx
      rcases List.mem_cons.1 hx with rfl | hx
      · rw [List.length_map, List.length_take]; omega
      · exact h2 x hx
    · have e : flat ((xs.take 32).map zof :: hs) = (hashArr ((xs.take 32).map zof)).toList ++ flat hs := by simp [flat]
      rw [e, h3]
      have : (hashArr ((xs.take 32).map zof)).toList = xs.take 32 := by
        apply List.ext_getElem?
        intro i
        by_cases hi : i < 32
        · obtain ⟨b, hb⟩ := h i (by omega)
          simp [hashArr, hi, hb, zof]
        · rw [List.getElem?_eq_none (by simp [hashArr]; omega), List.getElem?_eq_none (by simp; omega)]
      rw [this, List.take_append_drop]
theorem RowAt.own {W : World} {base g n cap : Nat} (h : RowAt W g n cap) (hb : base ≤ g) : ∃ hs : List Tree.H, hs.length = n ∧ OwnsH W base (.slice (some ⟨g, 0, none⟩) n cap) hs := by
  obtain ⟨⟨cur, h1, h2, h3⟩, h4, h5⟩ := h
  obtain ⟨hs, e1, e2, e3⟩ := unflat n (cur.toList.take (n * 32)) (by rw [List.length_take, Array.length_toList, h2]; omega) (fun k hk => by
    obtain ⟨b, hb⟩ := h3 k hk
    exact ⟨b, by rw [List.getElem?_take, if_pos hk]; simpa using hb⟩)
  refine ⟨hs, e1, e2, ?_, .inr ⟨g, cap, cur, by rw [e1], hb, h1, by omega, h5, h2, by rw [e1]; exact e3.symm⟩⟩
  rw [flat_length hs e2]
theorem RowAt.byte {W : World} {g n cap : Nat} (h : RowAt W g n cap) (k : Nat) (hk : k < n * 32) : ∃ b : UInt8, W.cell? ⟨g, k, none⟩ = some (.int .u8 (b.toNat : Int)) ∧ W.frozen? ⟨g, k, none⟩ = false := by
  obtain ⟨⟨cur, h1, h2, h3⟩, h4, h5⟩ := h
  obtain ⟨b, hb⟩ := h3 k hk
  exact ⟨b, (cell_of_row _ _ k _ _ _ h1).trans hb, by simp [World.frozen?, h1]⟩
theorem RowAt.there {W : World} {g n cap : Nat} (h : RowAt W g n cap) (i : Nat) (hi : i < n) : W.there g (i * 32) 32 := by
  intro j hj
  obtain ⟨b, h1, h2⟩ := h.byte (i * 32 + j) (by omega)
  exact ⟨by rw [h1]; rfl, h2⟩
theorem RowAt.hash {W : World} {g n cap : Nat} (h : RowAt W g n cap) (i : Nat) (hi : i < n) : ∃ l : Tree.H, l.length = 32 ∧ W.rangeAt g (i * 32) (hashArr l).toList := by
  obtain ⟨hs, e1, e2⟩ := h.own (base := 0) (by omega)
  obtain ⟨b, o, e, _, _, hel⟩ := e2.is.last e1 (by omega)
  injection e with e
  injection e with e3 e4
  subst e3 e4
  have := hel i hi
  rw [Nat.zero_add] at this
  exact ⟨_, Each.getD e2.1 i (by omega), this⟩
theorem RowAt.set {W : World} {g n cap : Nat} (h : RowAt W g n cap) (k : Nat) (b : UInt8) : RowAt (W.setCell ⟨g, k, none⟩ (.int .u8 (b.toNat : Int))) g n cap := by
  obtain ⟨⟨cur, h1, h2, h3⟩, h4, h5⟩ := h
  refine ⟨⟨_, heap_setCell_at h1 _, by simpa using h2, fun j hj => ?_⟩, h4, h5⟩
  rw [Array.getElem?_setIfInBounds]
  by_cases hjk : k = j
  · subst hjk; exact ⟨b, by rw [if_pos rfl, if_pos (by rw [h2]; omega)]⟩
  · rw [if_neg hjk]; exact h3 j hj
theorem RowAt.puts {W : World} {g n cap : Nat} (h : RowAt W g n cap) (i : Nat) (l : Tree.H) (hl : l.length = 32) : RowAt (W.setCells g (i * 32) (hashArr l).toList) g n cap := by
  obtain ⟨⟨cur, h1, h2, h3⟩, h4, h5⟩ := h
  refine ⟨⟨_, heap_setCells_at _ _ _ _ h1, by rw [putCells_size]; exact h2, fun j hj => ?_⟩, h4, h5⟩
  rw [putCells_get, Array.length_toList, hashArr_size, hl]
  split
  · rename_i hc; exact hash_byte l (j - i * 32) (by omega)
  · exact h3 j hj
/-- what may be appended -/
def SrcH (w : World) (u : Value) (ys : List Tree.H) : Prop :=
  Each ys ∧ ((u = .slice none 0 0 ∧ ys = []) ∨ ∃ b o c, u = .slice (some ⟨b, o, none⟩) ys.length c ∧ ∀ j x, (flat ys)[j]? = some x → w.cell? ⟨b, o + j, none⟩ = some x)
theorem OwnsH.src {W : World} {base : Nat} {v : Value} {hs : List Tree.H} (h : OwnsH W base v hs) : SrcH W v hs := by
  refine ⟨h.1, ?_⟩
  rcases h.2.2 with ⟨rfl, hn⟩ | ⟨g, cap, cur, rfl, hbg, hgg, hnc, hcm, hcs, ht⟩
  · exact .inl ⟨rfl, List.length_eq_zero_iff.1 hn⟩
  · refine .inr ⟨g, 0, cap, rfl, fun j x hx => ?_⟩
    rw [← ht, List.getElem?_take] at hx
    split at hx
    · rw [Nat.zero_add, cell_of_row _ _ _ _ _ _ hgg]; simpa using hx
    · cases hx
theorem SrcH.below {W w1 : World} {u : Value} {ys : List Tree.H} (h : SrcH W u ys) (hb : Below W.heap.size W w1) : SrcH w1 u ys := by
  obtain ⟨h1, h2 | ⟨b, o, c, e, h3⟩⟩ := h
  · exact ⟨h1, .inl h2⟩
  · exact ⟨h1, .inr ⟨b, o, c, e, fun j x hx => (hb.cell (p := ⟨b, o + j, none⟩) (block_lt_of_cell (h3 j x hx))).trans (h3 j x hx)⟩⟩
theorem flat_append (xs ys : List Tree.H) : flat (xs ++ ys) = flat xs ++ flat ys := by simp [flat]
theorem flat_one (ys : List Tree.H) : ∀ u ∈ flat ys, u.oneCell' = true := by
  intro u hu
  obtain ⟨h, _, hu⟩ := List.mem_flatMap.1 hu
  exact Array.all_eq_true_iff_forall_mem.1 (hashArr_one h) u (by simpa using hu)
theorem own_snocs {w' : World} {base : Nat} {v' : Value} {hs ys : List Tree.H} (h1 : Each hs) (h2 : Each ys) (h : w'.ownsRow base 24 32 v' (hs.length + ys.length) (flat hs ++ flat ys)) : OwnsH w' base v' (hs ++ ys) :=
  ⟨fun y hy => by
    rcases List.mem_append.1 hy with hy | hy
    · exact h1 y hy
    · exact h2 y hy, by rw [flat_append, List.length_append]; exact h⟩
theorem wp_append_hs {o : Oper} {a : Act} {w : World} {K : Act → World → Prop} {Q : Exit → Act → World → Prop} (s x : Operand)
    (ho : o.op = .call { callee := .builtin .append, args := #[s, x], argTypes := #[38, 38] }) (base : Nat) (v u : Value) (hs ys : List Tree.H)
    (hsv : a.eval s = v) (hxv : a.eval x = u) (hown : OwnsH w base v hs) (hy : SrcH w u ys) (hlen : hs.length + ys.length ≤ 100000) (hbase : base ≤ w.heap.size)
    (h : ∀ v' w', OwnsH w' base v' (hs ++ ys) → w.grownBy w' v.ownBlock → K (a.put o.dst v') w') : o.wp Tryd.prog a w K Q := by
  obtain ⟨i0, hi, hz0, hz1, hz2⟩ := info_parts hash_infos
  obtain ⟨he, ⟨rfl, rfl⟩ | ⟨b, off, c, rfl, hc⟩⟩ := hy
  · have hrun := run_append_owned_none (P := Tryd.prog) (w := w) base 38 o.type 24 i0 32 Tryd.underlying38 hi v hs.length (flat hs) hown.2
    unfold Oper.wp execOp
    simp only [ho, resolve, invoke, builtin, Sem.run_bind, Sem.run_pure, Result.andThen_ok, List.map_toArray, List.map_cons, List.map_nil, hsv, hxv, hrun]
    exact h v w (by rw [List.append_nil]; exact hown) ⟨rfl, rfl, rfl, Nat.le_refl _, fun _ _ _ => rfl⟩
  · refine wp_append_own (P := Tryd.prog) w s x 38 ho base 24 i0 _ 32 32 Tryd.underlying38 hi hz0 hz1 hz2 rfl (by omega) v hs.length (flat hs) hsv hown.2 ⟨b, off, none⟩ ys.length c (flat ys) hxv (flat_length ys he) (fun j u hu => by rw [Addr.add_mid]; exact hc j u hu) (flat_one ys) (by unfold maxLen; omega) (by omega) hbase ?_
    intro v' w' h2 h3 _
    exact h v' w' (own_snocs hown.1 he h2) h3
theorem wpList_append_hs {ops : Array Oper} {rest : List Oper} {o : Oper} {a : Act} {w : World} {Q : Exit → Act → World → Prop} (hgd : o.guard = none) (s x : Operand)
    (ho : o.op = .call { callee := .builtin .append, args := #[s, x], argTypes := #[38, 38] }) (base : Nat) (v u : Value) (hs ys : List Tree.H)
    (hsv : a.eval s = v) (hxv : a.eval x = u) (hown : OwnsH w base v hs) (hy : SrcH w u ys) (hlen : hs.length + ys.length ≤ 100000) (hbase : base ≤ w.heap.size)
    (h : ∀ v' w', OwnsH w' base v' (hs ++ ys) → w.grownBy w' v.ownBlock → wpList Tryd.prog ops Q rest (a.put o.dst v') w') : wpList Tryd.prog ops Q (o :: rest) a w :=
  wpList_plain hgd fun _ hK => wp_append_hs s x ho base v u hs ys hsv hxv hown hy hlen hbase fun v' w' h1 h2 => hK _ _ (h v' w' h1 h2)
theorem step_append_hs {ops : Array Oper} {o : Oper} {a : Act} {w : World} {K : Act → World → Prop} {Q : Exit → Act → World → Prop} {E : Prop} (hgd : o.guard = none) (s x : Operand)
    (ho : o.op = .call { callee := .builtin .append, args := #[s, x], argTypes := #[38, 38] }) (base : Nat) (v u : Value) (hs ys : List Tree.H)
    (hsv : a.eval s = v) (hxv : a.eval x = u) (hown : OwnsH w base v hs) (hy : SrcH w u ys) (hlen : hs.length + ys.length ≤ 100000) (hbase : base ≤ w.heap.size)
    (h : ∀ v' w', OwnsH w' base v' (hs ++ ys) → w.grownBy w' v.ownBlock → K (a.put o.dst v') w') : if Region.wanted o (yielded ops a.tmps) = true then Oper.wp Tryd.prog o a w K Q else E := by
  have hw : Region.wanted o (yielded ops a.tmps) = true := by simp [Region.wanted, hgd]
  rw [if_pos hw]
  exact wp_append_hs s x ho base v u hs ys hsv hxv hown hy hlen hbase h
/-- '[]api.Hash{}': a rule of the walk -/
theorem wp_build_none {d : Option Tmp} {ty : TypeId} {pos : String} {after : Array Edge} {gd : Option (Nat × Bool)} {a : Act} {w : World} {K : Act → World → Prop} {Q : Exit → Act → World → Prop} :
    Oper.wp Tryd.prog ⟨d, .buildSlice 38 0 #[], ty, pos, after, gd⟩ a w K Q = K (a.put d (.slice (some ⟨w.heap.size, 0, none⟩) 0 0)) (w.alloc (.cells #[] 24)) := by
  obtain ⟨i0, hi, hz0, hz1, hz2⟩ := info_parts hash_infos
  unfold Oper.wp execOp
  simp [Instr.buildSlice, run_underlying Tryd.underlying38, sizeOf, typeInfo, hi, newRow, Instr.fill, go_sem]
theorem owns_none (w : World) (base : Nat) (hb : base ≤ w.heap.size) : OwnsH (w.alloc (.cells #[] 24)) base (.slice (some ⟨w.heap.size, 0, none⟩) 0 0) [] :=
  ⟨(fun x hx => by cases hx), rfl, .inr ⟨w.heap.size, 0, #[], rfl, hb, heap_alloc_new _ _, Nat.le_refl _, by unfold maxLen; omega, rfl, rfl⟩⟩
end
section
namespace Rem
theorem tmod_lo (a m : Int) (hm : 1 ≤ m) : -m < a.tmod m ∧ a.tmod m < m := by
  have h1 := Int.tmod_eq_emod (a := a) (b := m)
  have h2 := Int.emod_nonneg a (show m ≠ 0 by omega)
  have h3 := Int.emod_lt_of_pos a (show 0 < m by omega)
  have h4 : (m.natAbs : Int) = m := by omega
  by_cases h0 : 0 ≤ a ∨ m ∣ a
  · rw [if_pos h0] at h1; omega
  · rw [if_neg h0] at h1
    have : a % m ≠ 0 := fun h => h0 (Or.inr (Int.dvd_of_emod_eq_zero h))
    omega

end Rem
theorem mod_idx (a : Int) (m : Nat) (hm : 0 < m) : ∃ i : Nat, i < m ∧ Int.tmod (Int.tmod a m + m) m = (i : Int) ∧ -(m : Int) < Int.tmod a m ∧ Int.tmod a m < m := by
  have h := Rem.tmod_lo a m (by omega)
  have h1 : 0 ≤ Int.tmod a m + m := by omega
  have h2 : Int.tmod (Int.tmod a m + m) m = (Int.tmod a m + m) % m := Int.tmod_eq_emod_of_nonneg h1
  have h3 := Int.emod_lt_of_pos (Int.tmod a m + m) (b := (m : Int)) (by omega)
  have h4 := Int.emod_nonneg (Int.tmod a m + m) (b := (m : Int)) (by omega)
  exact ⟨((Int.tmod a m + m) % m).toNat, by omega, by rw [h2]; omega, h.1, h.2⟩
/-- what a call of Bent gives -/
def Bends (w : World) (e : Ending) (w' : World) : Prop := ∃ v hs, e = .returned v ∧ OwnsH w' w.heap.size v hs ∧ hs.length ≤ 2000 ∧ Below w.heap.size w w'
theorem row_end {w W : World} {g n cap : Nat} (h : RowAt W g n cap) (hg : w.heap.size ≤ g) (hn : n ≤ 2000) (hb : Below w.heap.size w W) : Bends w (.returned (.slice (some ⟨g, 0, none⟩) n cap)) W := by
  obtain ⟨hs, h1, h2⟩ := h.own hg
  exact ⟨_, hs, rfl, h2, by omega, hb⟩
attribute [local go_sem ↓] wp_build_none wp_build_one wp_alloc_hash
theorem hs_sli {W : World} {v : Value} {l : List Tree.H} (h : IsHs W v l) : ∃ a c, v = .slice a l.length c := by
  obtain ⟨_, ⟨rfl, a, c, rfl, _⟩ | ⟨b, o, c, rfl, _⟩⟩ := h
  · exact ⟨_, _, rfl⟩
  · exact ⟨_, _, rfl⟩
/-- the memory behind Bent's first line -/
structure BentAt (w : World) (q0 q1 : Int) (n : Nat) (v : Value) (hs : List Tree.H) (V : World) : Prop where
  below : Below w.heap.size w V
  own : OwnsH V (w.heap.size + 1) v hs
  len : hs.length = n
  c0 : V.cell? ⟨w.heap.size, 0, none⟩ = some (.int .i64 q0)
  c1 : V.cell? ⟨w.heap.size, 1, none⟩ = some (.int .i64 q1)
theorem bent_first {w W0 w1 : World} {q0 q1 : Int} {n : Nat} {v : Value} {hs : List Tree.H} (hb : Below W0.heap.size W0 (W0.alloc (.cells #[] 24))) (h0 : Below w.heap.size w W0) (hc : W0.heap[w.heap.size]? = some (.cells #[.int .i64 q0, .int .i64 q1] 42 (0, 0))) (ho : OwnsH w1 W0.heap.size v ([] ++ hs)) (hg : (W0.alloc (.cells #[] 24)).grownBy w1 (Value.slice (some ⟨W0.heap.size, 0, none⟩) 0 0).ownBlock) (hn : hs.length = n) : Nonempty (PLift (BentAt w q0 q1 n v hs w1)) := by
  have h1 : Below W0.heap.size W0 w1 := hb.grown hg hb.size (fun k hk => by simp [Value.ownBlock] at hk; omega)
  have hlt := lt_of_block hc
  have hc1 := heap_below hc h1
  rw [List.nil_append] at ho
  exact ⟨⟨below_join h0 h1, ho.mono (by omega), hn, (cell_of_row _ _ 0 _ _ _ hc1).trans rfl, (cell_of_row _ _ 1 _ _ _ hc1).trans rfl⟩⟩
theorem src_one {W : World} {g : Nat} {l : Tree.H} (hl : l.length = 32) (hg : W.heap[g]? = some (.cells (hashArr l) 24 (0, 0))) : SrcH W (.slice (some ⟨g, 0, none⟩) 1 1) [l] := by
  refine ⟨fun x hx => by rw [List.mem_singleton.1 hx]; exact hl, .inr ⟨g, 0, 1, rfl, fun j x hx => ?_⟩⟩
  rw [show flat [l] = (hashArr l).toList by simp [flat], Array.getElem?_toList] at hx
  rw [Nat.zero_add]
  exact (cell_of_row _ _ j _ _ _ hg).trans hx
theorem lit_hash (z : Int) (h0 : 0 ≤ z) (h1 : z < 256) : (#[.int .u8 z, .int .u8 0, .int .u8 0, .int .u8 0, .int .u8 0, .int .u8 0, .int .u8 0, .int .u8 0, .int .u8 0, .int .u8 0, .int .u8 0, .int .u8 0, .int .u8 0, .int .u8 0, .int .u8 0, .int .u8 0, .int .u8 0, .int .u8 0, .int .u8 0, .int .u8 0, .int .u8 0, .int .u8 0, .int .u8 0, .int .u8 0, .int .u8 0, .int .u8 0, .int .u8 0, .int .u8 0, .int .u8 0, .int .u8 0, .int .u8 0, .int .u8 0] : Array Value) = hashArr (UInt8.ofNat z.toNat :: List.replicate 31 0) := by
  have e : ((UInt8.ofNat z.toNat).toNat : Int) = z := by
    have : z.toNat < 256 := by omega
    simp only [UInt8.toNat_ofNat']
    omega
  simp only [hashArr, List.map_cons, e]
  rfl
theorem lit_src (z : Int) (h0 : 0 ≤ z) (h1 : z < 256) (W : World) : ∃ l, SrcH (W.alloc (.cells (#[.int .u8 z, .int .u8 0, .int .u8 0, .int .u8 0, .int .u8 0, .int .u8 0, .int .u8 0, .int .u8 0, .int .u8 0, .int .u8 0, .int .u8 0, .int .u8 0, .int .u8 0, .int .u8 0, .int .u8 0, .int .u8 0, .int .u8 0, .int .u8 0, .int .u8 0, .int .u8 0, .int .u8 0, .int .u8 0, .int .u8 0, .int .u8 0, .int .u8 0, .int .u8 0, .int .u8 0, .int .u8 0, .int .u8 0, .int .u8 0, .int .u8 0, .int .u8 0]) 24)) (.slice (some ⟨W.heap.size, 0, none⟩) 1 1) [l] := by
  rw [lit_hash z h0 h1]
  exact ⟨_, src_one (by simp) (heap_alloc_new _ _)⟩
theorem bent_app {w V w2 : World} {q0 q1 : Int} {n : Nat} {v v2 : Value} {hs hs2 : List Tree.H} {o : Obj} (h : BentAt w q0 q1 n v hs V) (ho : OwnsH w2 (w.heap.size + 1) v2 hs2) (hg : (V.alloc o).grownBy w2 v.ownBlock) (hl : hs2.length ≤ 2000) : Bends w (.returned v2) w2 := by
  have h1 : Below w.heap.size w (V.alloc o) := h.below.alloc h.below.size _
  exact ⟨v2, hs2, rfl, ho.mono (by omega), hl, h1.grown hg h1.size (fun k hk => by have := h.own.block k hk; omega)⟩
theorem bent_room {w V : World} {q0 q1 : Int} {n : Nat} {v : Value} {hs : List Tree.H} (o : Obj) (h : BentAt w q0 q1 n v hs V) : w.heap.size + 1 ≤ (V.alloc o).heap.size := by
  have : w.heap.size < V.heap.size := block_lt_of_cell h.c0
  simp; omega
set_option maxHeartbeats 4000000 in
set_option maxRecDepth 100000 in
theorem bent_zero (v : Value) (hs : List Tree.H) (q0 q1 : Int) (B n : Nat) (w : World) (hv : OwnsH w B v hs) (hlen : hs.length ≤ 1000) (hn : hs.length = n) (hn0 : n = 0) :
    Calls Tryd.prog 24 #[v, .agg #[.int .i64 q0, .int .i64 q1]] w (Bends w) := by
  subst hn0
  by_cases hq : Int.tmod q0 2 = 0
  · have hq2 : (Int.tmod q0 2 == 0) = true := by simpa using hq
    clear hq
    have b0 : Below w.heap.size w (w.alloc (.cells #[.int .i64 q0, .int .i64 q1] 42)) := (Below.refl _ _).alloc (Nat.le_refl _) _
    have C3 := Lib.hid (heap_alloc_new w (.cells #[.int .i64 q0, .int .i64 q1] 42))
    have HS := Lib.hid (hv.src.below b0)
    have B0 := Lib.hid b0
    clear hv b0
    go_enter Tryd.func24, Tryd.ntmps24
    go_upto_region 1 with fail
    generalize w.alloc (.cells #[.int .i64 q0, .int .i64 q1] 42) = W0 at *
    have bW : Below W0.heap.size W0 (W0.alloc (.cells #[] 24)) := (Below.refl _ _).alloc (Nat.le_refl _) _
    have HS1 := Lib.hid (HS.out.below bW)
    have HO := Lib.hid (owns_none W0 W0.heap.size (Nat.le_refl _))
    have HBW := Lib.hid bW
    clear bW HS
    go_wp2_with (first
      | ((with_reducible refine op_is ⟨some 11, .call { callee := .builtin .append, args := #[.tmp 9, .tmp 10], argTypes := #[38, 38] }, _, _, _, _⟩ ?_); refine wpList_append_hs rfl (.tmp 9) (.tmp 10) rfl W0.heap.size _ _ [] hs rfl rfl HO.out HS1.out (by simp; omega) HBW.out.size ?_; intro v1 w1' hown1 hgrow1; obtain ⟨G1⟩ := bent_first HBW.out B0.out C3.out hown1 hgrow1 hn; obtain ⟨G2⟩ := G1; obtain ⟨av, cv, ev⟩ := hs_sli G2.own.is; rw [G2.len] at ev; subst ev; have c0 := G2.c0; have c1 := G2.c1; have GG := Lib.hid G2; have LS := Lib.hid (lit_src (q1 % 256) (by omega) (by omega) w1'); clear hown1 hgrow1 G2)
      | ((with_reducible refine op_is ⟨some 25, .call { callee := .builtin .append, args := #[.tmp 19, .tmp 24], argTypes := #[38, 38] }, _, _, _, _⟩ ?_); obtain ⟨l1, hl1⟩ := LS.out; refine wpList_append_hs rfl (.tmp 19) (.tmp 24) rfl (w.heap.size + 1) _ _ hs [l1] rfl rfl (GG.out.own.below ((Below.refl _ _).alloc (Nat.le_refl _) _)) hl1 (by simp; omega) (bent_room _ GG.out) ?_; intro v2 w2' hown2 hgrow2))
    go_ret
    exact bent_app GG.out hown2 hgrow2 (by simp; omega)
  · have hq2 : (Int.tmod q0 2 == 0) = false := by simpa using hq
    clear hq
    have b0 : Below w.heap.size w (w.alloc (.cells #[.int .i64 q0, .int .i64 q1] 42)) := (Below.refl _ _).alloc (Nat.le_refl _) _
    have C3 := Lib.hid (heap_alloc_new w (.cells #[.int .i64 q0, .int .i64 q1] 42))
    have HS := Lib.hid (hv.src.below b0)
    have B0 := Lib.hid b0
    clear hv b0
    go_enter Tryd.func24, Tryd.ntmps24
    go_upto_region 1 with fail
    generalize w.alloc (.cells #[.int .i64 q0, .int .i64 q1] 42) = W0 at *
    have bW : Below W0.heap.size W0 (W0.alloc (.cells #[] 24)) := (Below.refl _ _).alloc (Nat.le_refl _) _
    have HS1 := Lib.hid (HS.out.below bW)
    have HO := Lib.hid (owns_none W0 W0.heap.size (Nat.le_refl _))
    have HBW := Lib.hid bW
    clear bW HS
    go_wp2_with (first
      | ((with_reducible refine op_is ⟨some 11, .call { callee := .builtin .append, args := #[.tmp 9, .tmp 10], argTypes := #[38, 38] }, _, _, _, _⟩ ?_); refine wpList_append_hs rfl (.tmp 9) (.tmp 10) rfl W0.heap.size _ _ [] hs rfl rfl HO.out HS1.out (by simp; omega) HBW.out.size ?_; intro v1 w1' hown1 hgrow1; obtain ⟨G1⟩ := bent_first HBW.out B0.out C3.out hown1 hgrow1 hn; obtain ⟨G2⟩ := G1; obtain ⟨av, cv, ev⟩ := hs_sli G2.own.is; rw [G2.len] at ev; subst ev; have c0 := G2.c0; have c1 := G2.c1; have GG := Lib.hid G2; have LS := Lib.hid (lit_src (q1 % 256) (by omega) (by omega) w1'); clear hown1 hgrow1 G2)
      | ((with_reducible refine op_is ⟨some 25, .call { callee := .builtin .append, args := #[.tmp 19, .tmp 24], argTypes := #[38, 38] }, _, _, _, _⟩ ?_); obtain ⟨l1, hl1⟩ := LS.out; refine wpList_append_hs rfl (.tmp 19) (.tmp 24) rfl (w.heap.size + 1) _ _ hs [l1] rfl rfl (GG.out.own.below ((Below.refl _ _).alloc (Nat.le_refl _) _)) hl1 (by simp; omega) (bent_room _ GG.out) ?_; intro v2 w2' hown2 hgrow2))
    go_ret
    exact ⟨_, _, rfl, GG.out.own.mono (by omega), by omega, GG.out.below⟩
/-! the cases -/
theorem own_some {V : World} {base n cv : Nat} {av : Option Addr} {hs : List Tree.H} (h : OwnsH V base (.slice av n cv) hs) (hl : hs.length = n) (hn : 0 < n) : ∃ g, av = some ⟨g, 0, none⟩ ∧ RowAt V g n cv ∧ base ≤ g := by
  rcases h.2.2 with ⟨e, h0⟩ | ⟨g', cap', cur, e, hbg, hgg, hnc, hcm, hcs, ht⟩
  · omega
  · injection e with e1 e2 e3
    subst e1
    obtain ⟨h1, h2, _⟩ := RowAt.of_own h
    exact ⟨g', rfl, h1, h2⟩
theorem hash_size {x : Tree.H} (lx : x.length = 32) : (hashArr x).size = 32 := by rw [hashArr_size, lx]
theorem byte_of (z : Int) (h0 : 0 ≤ z) (h1 : z ≤ 255) : ∃ b : UInt8, z = (b.toNat : Int) := ⟨UInt8.ofNat z.toNat, by
  have : z.toNat < 256 := by omega
  simp only [UInt8.toNat_ofNat']
  omega⟩
theorem xor_byte (a b : Int) : ∃ c : UInt8, bits BinOp.xor IntKind.u8 a b = (c.toNat : Int) := byte_of _ (bits_within BinOp.xor .u8 a b).1 (bits_within BinOp.xor .u8 a b).2
theorem SrcH.cut {V : World} {base g n cv i : Nat} {hs : List Tree.H} (h : OwnsH V base (.slice (some ⟨g, 0, none⟩) n cv) hs) (hl : hs.length = n) (hi : i < n) : SrcH V (.slice (some ⟨g, 0, none⟩) i cv) (hs.take i) := by
  obtain ⟨he, ⟨e, _⟩ | ⟨b, o, c, e, hc⟩⟩ := h.src
  · simp at e
  · injection e with e1 e2 e3
    injection e1 with e1
    injection e1 with e1 e4
    subst e1 e4 e3
    have l1 : (hs.take i).length = i := by rw [List.length_take]; omega
    refine ⟨fun x hx => he x (List.mem_of_mem_take hx), .inr ⟨g, 0, cv, by rw [l1], fun j x hx => hc j x ?_⟩⟩
    have e5 : flat hs = flat (hs.take i) ++ flat (hs.drop i) := by rw [← flat_append, List.take_append_drop]
    rw [e5, List.getElem?_append_left (List.getElem?_eq_some_iff.1 hx).1]
    exact hx
theorem SrcH.rest {V : World} {base g n cv k p : Nat} {hs : List Tree.H} (h : OwnsH V base (.slice (some ⟨g, 0, none⟩) n cv) hs) (hl : hs.length = n) (hk : k ≤ n) (hp : n = k ∨ p = k * 32) (c : Nat) : SrcH V (.slice (some ⟨g, p, none⟩) (n - k) c) (hs.drop k) := by
  obtain ⟨he, ⟨e, _⟩ | ⟨b, o, c', e, hc⟩⟩ := h.src
  · simp at e
  · injection e with e1 e2 e3
    injection e1 with e1
    injection e1 with e1 e4
    subst e1 e4 e3
    have l1 : (hs.drop k).length = n - k := by rw [List.length_drop]; omega
    refine ⟨fun x hx => he x (List.mem_of_mem_drop hx), .inr ⟨g, p, c, by rw [l1], fun j x hx => ?_⟩⟩
    have hE : Each (hs.take k) := fun x hx => he x (List.mem_of_mem_take hx)
    have hD : Each (hs.drop k) := fun x hx => he x (List.mem_of_mem_drop hx)
    have hj := (List.getElem?_eq_some_iff.1 hx).1
    rw [flat_length _ hD, l1] at hj
    have hpk : p = k * 32 := by omega
    have e5 : flat hs = flat (hs.take k) ++ flat (hs.drop k) := by rw [← flat_append, List.take_append_drop]
    have l2 : (flat (hs.take k)).length = k * 32 := by rw [flat_length _ hE, List.length_take]; congr 1; omega
    have := hc (k * 32 + j) x (by rw [e5, List.getElem?_append_right (by omega), l2, show k * 32 + j - k * 32 = j by omega]; exact hx)
    rw [hpk]
    rwa [Nat.zero_add] at this
theorem cutl_hs (g n k c : Nat) (hk : k ≤ n) (W : World) : (Instr.slice 38 (.slice (some ⟨g, 0, none⟩) n c) (some (.int .i64 (k : Int))) none none).run Tryd.prog W = .ok (.slice (some ⟨g, if c = k then 0 else k * 32, none⟩) (n - k) (c - k)) W := by
  rw [run_slice_l (P := Tryd.prog) W 38 (some ⟨g, 0, none⟩) n c elem_hs .i64 (k : Int) (by omega) (by omega), size_hs]
  simp only [Result.andThen, sliced, Int.toNat_natCast]
  by_cases h : c = k
  · simp [h]
  · simp [h, Addr.add_mid]
theorem row_ne {W : World} {g n cap : Nat} (h : RowAt W g n cap) : W.heap.size ≠ g := by
  obtain ⟨⟨cur, h1, _, _⟩, _, _⟩ := h
  have := lt_of_block h1
  omega
theorem part_at {n cv i p : Nat} (h1 : n ≤ cv) (h2 : i < n) (ep : (if cv = i + 1 then 0 else (i + 1) * 32) = p) : n = i + 1 ∨ p = (i + 1) * 32 := by
  split at ep
  · left; omega
  · right; exact ep.symm
set_option maxHeartbeats 4000000 in
set_option maxRecDepth 100000 in
theorem bent_four (v : Value) (hs : List Tree.H) (q0 q1 : Int) (B n : Nat) (w : World) (hv : OwnsH w B v hs) (hlen : hs.length ≤ 1000) (hn : hs.length = n) (hn0 : 0 < n) (hq : Int.tmod (Int.tmod q0 5 + 5) 5 = 4) :
    Calls Tryd.prog 24 #[v, .agg #[.int .i64 q0, .int .i64 q1]] w (Bends w) := by
  obtain ⟨i, hi, ei, e1, e2⟩ := mod_idx q1 n hn0
  obtain ⟨e3, e4⟩ := Rem.tmod_lo q0 5 (by omega)
  have z0 : ((n : Int) == 0) = false := by simp; omega
  have z1 : IntKind.i64.wrap (Int.tmod q1 (n : Int)) = Int.tmod q1 (n : Int) := IntWalk.i64_in _ (by omega)
  have z2 : IntKind.i64.wrap (Int.tmod q1 (n : Int) + (n : Int)) = Int.tmod q1 (n : Int) + (n : Int) := IntWalk.i64_in _ (by omega)
  have z4 : IntKind.i64.wrap (Int.tmod q0 5) = Int.tmod q0 5 := IntWalk.i64_in _ (by omega)
  have z5 : IntKind.i64.wrap (Int.tmod q0 5 + 5) = Int.tmod q0 5 + 5 := IntWalk.i64_in _ (by omega)
  have z7 : ¬ (n = 0) := by omega
  have y1 : (0 : Int) ≤ (i : Int) := by omega
  have y2 : (i : Int) < (n : Int) := by omega
  have y3 : (i : Int).toNat = i := by omega
  have b0 : Below w.heap.size w (w.alloc (.cells #[.int .i64 q0, .int .i64 q1] 42)) := (Below.refl _ _).alloc (Nat.le_refl _) _
  have C3 := Lib.hid (heap_alloc_new w (.cells #[.int .i64 q0, .int .i64 q1] 42))
  have HS := Lib.hid (hv.src.below b0)
  have B0 := Lib.hid b0
  clear hv b0
  go_enter Tryd.func24, Tryd.ntmps24
  go_upto_region 1 with fail
  generalize w.alloc (.cells #[.int .i64 q0, .int .i64 q1] 42) = W0 at *
  have bW : Below W0.heap.size W0 (W0.alloc (.cells #[] 24)) := (Below.refl _ _).alloc (Nat.le_refl _) _
  have HS1 := Lib.hid (HS.out.below bW)
  have HO := Lib.hid (owns_none W0 W0.heap.size (Nat.le_refl _))
  have HBW := Lib.hid bW
  clear bW HS
  go_wp2_with (first
    | ((with_reducible refine op_is ⟨some 11, .call { callee := .builtin .append, args := #[.tmp 9, .tmp 10], argTypes := #[38, 38] }, _, _, _, _⟩ ?_); refine wpList_append_hs rfl (.tmp 9) (.tmp 10) rfl W0.heap.size _ _ [] hs rfl rfl HO.out HS1.out (by simp; omega) HBW.out.size ?_; intro v1 w1' hown1 hgrow1; obtain ⟨G1⟩ := bent_first HBW.out B0.out C3.out hown1 hgrow1 hn; obtain ⟨G2⟩ := G1; obtain ⟨av, cv, ev⟩ := hs_sli G2.own.is; rw [G2.len] at ev; subst ev; have c0 := G2.c0; have c1 := G2.c1; obtain ⟨g, eg, row, hg⟩ := own_some G2.own G2.len hn0; subst eg; have GG := Lib.hid G2; have ROW := Lib.hid row; have HG := Lib.hid hg; clear hown1 hgrow1 G2 row hg))
  go_ret
  exact ⟨_, _, rfl, GG.out.own.mono (by omega), by have := GG.out.len; omega, GG.out.below⟩
set_option maxHeartbeats 4000000 in
set_option maxRecDepth 100000 in
theorem bent_two (v : Value) (hs : List Tree.H) (q0 q1 : Int) (B n : Nat) (w : World) (hv : OwnsH w B v hs) (hlen : hs.length ≤ 1000) (hn : hs.length = n) (hn0 : 0 < n) (hq : Int.tmod (Int.tmod q0 5 + 5) 5 = 2) :
    Calls Tryd.prog 24 #[v, .agg #[.int .i64 q0, .int .i64 q1]] w (Bends w) := by
  obtain ⟨i, hi, ei, e1, e2⟩ := mod_idx q1 n hn0
  obtain ⟨e3, e4⟩ := Rem.tmod_lo q0 5 (by omega)
  have z0 : ((n : Int) == 0) = false := by simp; omega
  have z1 : IntKind.i64.wrap (Int.tmod q1 (n : Int)) = Int.tmod q1 (n : Int) := IntWalk.i64_in _ (by omega)
  have z2 : IntKind.i64.wrap (Int.tmod q1 (n : Int) + (n : Int)) = Int.tmod q1 (n : Int) + (n : Int) := IntWalk.i64_in _ (by omega)
  have z4 : IntKind.i64.wrap (Int.tmod q0 5) = Int.tmod q0 5 := IntWalk.i64_in _ (by omega)
  have z5 : IntKind.i64.wrap (Int.tmod q0 5 + 5) = Int.tmod q0 5 + 5 := IntWalk.i64_in _ (by omega)
  have z7 : ¬ (n = 0) := by omega
  have y1 : (0 : Int) ≤ (i : Int) := by omega
  have y2 : (i : Int) < (n : Int) := by omega
  have y3 : (i : Int).toNat = i := by omega
  have b0 : Below w.heap.size w (w.alloc (.cells #[.int .i64 q0, .int .i64 q1] 42)) := (Below.refl _ _).alloc (Nat.le_refl _) _
  have C3 := Lib.hid (heap_alloc_new w (.cells #[.int .i64 q0, .int .i64 q1] 42))
  have HS := Lib.hid (hv.src.below b0)
  have B0 := Lib.hid b0
  clear hv b0
  go_enter Tryd.func24, Tryd.ntmps24
  go_upto_region 1 with fail
  generalize w.alloc (.cells #[.int .i64 q0, .int .i64 q1] 42) = W0 at *
  have bW : Below W0.heap.size W0 (W0.alloc (.cells #[] 24)) := (Below.refl _ _).alloc (Nat.le_refl _) _
  have HS1 := Lib.hid (HS.out.below bW)
  have HO := Lib.hid (owns_none W0 W0.heap.size (Nat.le_refl _))
  have HBW := Lib.hid bW
  clear bW HS
  go_wp2_with (first
    | ((with_reducible refine op_is ⟨some 11, .call { callee := .builtin .append, args := #[.tmp 9, .tmp 10], argTypes := #[38, 38] }, _, _, _, _⟩ ?_); refine wpList_append_hs rfl (.tmp 9) (.tmp 10) rfl W0.heap.size _ _ [] hs rfl rfl HO.out HS1.out (by simp; omega) HBW.out.size ?_; intro v1 w1' hown1 hgrow1; obtain ⟨G1⟩ := bent_first HBW.out B0.out C3.out hown1 hgrow1 hn; obtain ⟨G2⟩ := G1; obtain ⟨av, cv, ev⟩ := hs_sli G2.own.is; rw [G2.len] at ev; subst ev; have c0 := G2.c0; have c1 := G2.c1; obtain ⟨g, eg, row, hg⟩ := own_some G2.own G2.len hn0; subst eg; have GG := Lib.hid G2; have ROW := Lib.hid row; have HG := Lib.hid hg; obtain ⟨x, lx, rx⟩ := row.hash i hi; have LX := Lib.hid lx; have RX := Lib.hid rx; have LI := Lib.hid (hash_infoL x lx); have zx : (hashArr x).size = 32 := hash_size lx; clear lx rx; clear hown1 hgrow1 G2 row hg)
    | ((with_reducible refine op_is ⟨some 76, .load 24 (.tmp 75), _, _, _, _⟩ ?_); refine wpList_load_mid rfl 24 (.tmp 75) rfl g (i * 32) rfl (hashArr x).toList _ RX.out Tryd.underlying24 rfl LI.out ?_; rw [Array.toArray_toList])
    | ((with_reducible refine op_is ⟨some 78, .call { callee := .builtin .append, args := #[.tmp 72, .tmp 77], argTypes := #[38, 38] }, _, _, _, _⟩ ?_); refine wpList_append_hs rfl (.tmp 72) (.tmp 77) rfl (w.heap.size + 1) _ _ hs [x] rfl rfl (GG.out.own.below ((Below.refl _ _).alloc (Nat.le_refl _) _)) (src_one LX.out (heap_alloc_new w1' _)) (by simp; omega) (bent_room _ GG.out) ?_; intro v2 w2' hown2 hgrow2))
  go_ret
  exact bent_app GG.out hown2 hgrow2 (by simp; omega)
set_option maxHeartbeats 4000000 in
set_option maxRecDepth 100000 in
theorem bent_nil (v : Value) (hs : List Tree.H) (q0 q1 : Int) (B n : Nat) (w : World) (hv : OwnsH w B v hs) (hlen : hs.length ≤ 1000) (hn : hs.length = n) (hn0 : 0 < n) (hq : Int.tmod (Int.tmod q0 5 + 5) 5 = 0) :
    Calls Tryd.prog 24 #[v, .agg #[.int .i64 q0, .int .i64 q1]] w (Bends w) := by
  obtain ⟨i, hi, ei, e1, e2⟩ := mod_idx q1 n hn0
  obtain ⟨e3, e4⟩ := Rem.tmod_lo q0 5 (by omega)
  have z0 : ((n : Int) == 0) = false := by simp; omega
  have z1 : IntKind.i64.wrap (Int.tmod q1 (n : Int)) = Int.tmod q1 (n : Int) := IntWalk.i64_in _ (by omega)
  have z2 : IntKind.i64.wrap (Int.tmod q1 (n : Int) + (n : Int)) = Int.tmod q1 (n : Int) + (n : Int) := IntWalk.i64_in _ (by omega)
  have z4 : IntKind.i64.wrap (Int.tmod q0 5) = Int.tmod q0 5 := IntWalk.i64_in _ (by omega)
  have z5 : IntKind.i64.wrap (Int.tmod q0 5 + 5) = Int.tmod q0 5 + 5 := IntWalk.i64_in _ (by omega)
  have z7 : ¬ (n = 0) := by omega
  have y1 : (0 : Int) ≤ (i : Int) := by omega
  have y2 : (i : Int) < (n : Int) := by omega
  have y3 : (i : Int).toNat = i := by omega
  obtain ⟨j, hj, ej, _, _⟩ := mod_idx q1 32 (by omega)
  obtain ⟨j1, j2⟩ := Rem.tmod_lo q1 32 (by omega)
  have ej' : Int.tmod (Int.tmod q1 32 + 32) 32 = (j : Int) := ej
  have u1 : IntKind.i64.wrap (Int.tmod q1 32) = Int.tmod q1 32 := IntWalk.i64_in _ (by omega)
  have u2 : IntKind.i64.wrap (Int.tmod q1 32 + 32) = Int.tmod q1 32 + 32 := IntWalk.i64_in _ (by omega)
  have x1 : (0 : Int) ≤ (j : Int) := by omega
  have x2 : (j : Int) < 32 := by omega
  have x3 : (j : Int).toNat = j := by omega
  have b0 : Below w.heap.size w (w.alloc (.cells #[.int .i64 q0, .int .i64 q1] 42)) := (Below.refl _ _).alloc (Nat.le_refl _) _
  have C3 := Lib.hid (heap_alloc_new w (.cells #[.int .i64 q0, .int .i64 q1] 42))
  have HS := Lib.hid (hv.src.below b0)
  have B0 := Lib.hid b0
  clear hv b0
  go_enter Tryd.func24, Tryd.ntmps24
  go_upto_region 1 with fail
  generalize w.alloc (.cells #[.int .i64 q0, .int .i64 q1] 42) = W0 at *
  have bW : Below W0.heap.size W0 (W0.alloc (.cells #[] 24)) := (Below.refl _ _).alloc (Nat.le_refl _) _
  have HS1 := Lib.hid (HS.out.below bW)
  have HO := Lib.hid (owns_none W0 W0.heap.size (Nat.le_refl _))
  have HBW := Lib.hid bW
  clear bW HS
  go_wp2_with (first
    | ((with_reducible refine op_is ⟨some 11, .call { callee := .builtin .append, args := #[.tmp 9, .tmp 10], argTypes := #[38, 38] }, _, _, _, _⟩ ?_); refine wpList_append_hs rfl (.tmp 9) (.tmp 10) rfl W0.heap.size _ _ [] hs rfl rfl HO.out HS1.out (by simp; omega) HBW.out.size ?_; intro v1 w1' hown1 hgrow1; obtain ⟨G1⟩ := bent_first HBW.out B0.out C3.out hown1 hgrow1 hn; obtain ⟨G2⟩ := G1; obtain ⟨av, cv, ev⟩ := hs_sli G2.own.is; rw [G2.len] at ev; subst ev; have c0 := G2.c0; have c1 := G2.c1; obtain ⟨g, eg, row, hg⟩ := own_some G2.own G2.len hn0; subst eg; have GG := Lib.hid G2; have ROW := Lib.hid row; have HG := Lib.hid hg; obtain ⟨b8, hb8, hfz⟩ := row.byte (i * 32 + j) (by omega); clear hown1 hgrow1 G2 row hg))
  obtain ⟨x8, ex8⟩ := xor_byte (b8.toNat : Int) 1
  clear HS1 HO
  go_region
  all_goals
    go_wp2_with fail
    go_ret
    exact row_end ((ROW.out.set (i * 32 + j) x8).below (Below.refl _ _).drew) (by have := HG.out; omega) (by omega) (GG.out.below.setCell (by have := HG.out; exact Nat.le_of_lt this) _).drew
set_option maxHeartbeats 4000000 in
set_option maxRecDepth 100000 in
theorem bent_three (v : Value) (hs : List Tree.H) (q0 q1 : Int) (B n : Nat) (w : World) (hv : OwnsH w B v hs) (hlen : hs.length ≤ 1000) (hn : hs.length = n) (hn0 : 0 < n) (hq : Int.tmod (Int.tmod q0 5 + 5) 5 = 3) :
    Calls Tryd.prog 24 #[v, .agg #[.int .i64 q0, .int .i64 q1]] w (Bends w) := by
  obtain ⟨i, hi, ei, e1, e2⟩ := mod_idx q1 n hn0
  obtain ⟨e3, e4⟩ := Rem.tmod_lo q0 5 (by omega)
  have z0 : ((n : Int) == 0) = false := by simp; omega
  have z1 : IntKind.i64.wrap (Int.tmod q1 (n : Int)) = Int.tmod q1 (n : Int) := IntWalk.i64_in _ (by omega)
  have z2 : IntKind.i64.wrap (Int.tmod q1 (n : Int) + (n : Int)) = Int.tmod q1 (n : Int) + (n : Int) := IntWalk.i64_in _ (by omega)
  have z4 : IntKind.i64.wrap (Int.tmod q0 5) = Int.tmod q0 5 := IntWalk.i64_in _ (by omega)
  have z5 : IntKind.i64.wrap (Int.tmod q0 5 + 5) = Int.tmod q0 5 + 5 := IntWalk.i64_in _ (by omega)
  have z7 : ¬ (n = 0) := by omega
  have y1 : (0 : Int) ≤ (i : Int) := by omega
  have y2 : (i : Int) < (n : Int) := by omega
  have y3 : (i : Int).toNat = i := by omega
  obtain ⟨m, hm⟩ : ∃ m, (i + 1) % n = m := ⟨_, rfl⟩
  have hmn : m < n := by rw [← hm]; exact Nat.mod_lt _ hn0
  have em : Int.tmod ((i : Int) + 1) (n : Int) = (m : Int) := by rw [← hm, Int.natCast_emod]; exact Int.tmod_eq_emod_of_nonneg (by omega)
  have v1 : IntKind.i64.wrap ((i : Int) + 1) = (i : Int) + 1 := IntWalk.i64_in _ (by omega)
  have v2 : IntKind.i64.wrap (m : Int) = (m : Int) := IntWalk.i64_in _ (by omega)
  have x1 : (0 : Int) ≤ (m : Int) := by omega
  have x2 : (m : Int) < (n : Int) := by omega
  have x3 : (m : Int).toNat = m := by omega
  clear hm
  have b0 : Below w.heap.size w (w.alloc (.cells #[.int .i64 q0, .int .i64 q1] 42)) := (Below.refl _ _).alloc (Nat.le_refl _) _
  have C3 := Lib.hid (heap_alloc_new w (.cells #[.int .i64 q0, .int .i64 q1] 42))
  have HS := Lib.hid (hv.src.below b0)
  have B0 := Lib.hid b0
  clear hv b0
  go_enter Tryd.func24, Tryd.ntmps24
  go_upto_region 1 with fail
  generalize w.alloc (.cells #[.int .i64 q0, .int .i64 q1] 42) = W0 at *
  have bW : Below W0.heap.size W0 (W0.alloc (.cells #[] 24)) := (Below.refl _ _).alloc (Nat.le_refl _) _
  have HS1 := Lib.hid (HS.out.below bW)
  have HO := Lib.hid (owns_none W0 W0.heap.size (Nat.le_refl _))
  have HBW := Lib.hid bW
  clear bW HS
  go_wp2_with (first
    | ((with_reducible refine op_is ⟨some 11, .call { callee := .builtin .append, args := #[.tmp 9, .tmp 10], argTypes := #[38, 38] }, _, _, _, _⟩ ?_); refine wpList_append_hs rfl (.tmp 9) (.tmp 10) rfl W0.heap.size _ _ [] hs rfl rfl HO.out HS1.out (by simp; omega) HBW.out.size ?_; intro v1 w1' hown1 hgrow1; obtain ⟨G1⟩ := bent_first HBW.out B0.out C3.out hown1 hgrow1 hn; obtain ⟨G2⟩ := G1; obtain ⟨av, cv, ev⟩ := hs_sli G2.own.is; rw [G2.len] at ev; subst ev; have c0 := G2.c0; have c1 := G2.c1; obtain ⟨g, eg, row, hg⟩ := own_some G2.own G2.len hn0; subst eg; have GG := Lib.hid G2; have ROW := Lib.hid row; have HG := Lib.hid hg; obtain ⟨x, lx, rx⟩ := row.hash i hi; have LX := Lib.hid lx; have RX := Lib.hid rx; have LI := Lib.hid (hash_infoL x lx); obtain ⟨y, ly, ry⟩ := row.hash m hmn; have LY := Lib.hid ly; have LJ := Lib.hid (hash_infoL y ly); have bx := (Below.refl w1'.heap.size w1').alloc (Nat.le_refl _) (.cells (hashArr x) 24); have RY := Lib.hid (range_below ry bx); have ROW1 := Lib.hid (row.below bx); have ROW2 := Lib.hid (ROW1.out.puts i y ly); have RT := Lib.hid (range_of_row ((heap_setCells_ne (k := w1'.heap.size) (g := g) (row_ne row) (hashArr y).toList (i * 32) (w1'.alloc (.cells (hashArr x) 24))).trans (heap_alloc_new w1' _))); have L0 : Hid ((hashArr Tree.zero).size = 32) := hash_size zero_length; have TH1 := Lib.hid (ROW1.out.there i hi); have TH2 := Lib.hid (ROW2.out.there m hmn); clear lx rx ly ry bx; clear hown1 hgrow1 G2 row hg)
    | ((with_reducible refine op_is ⟨some 89, .load 24 (.tmp 88), _, _, _, _⟩ ?_); refine wpList_load_mid rfl 24 (.tmp 88) rfl g (i * 32) rfl (hashArr x).toList _ RX.out Tryd.underlying24 rfl LI.out ?_; rw [Array.toArray_toList])
    | ((with_reducible refine op_is ⟨none, .store 24 (.tmp 8) (.tmp 89), _, _, _, _⟩ ?_); refine store_hash LX.out L0.out (.tmp 8) (.tmp 89) rfl rfl rfl rfl rfl ?_)
    | ((with_reducible refine op_is ⟨some 95, .load 24 (.tmp 94), _, _, _, _⟩ ?_); refine wpList_load_mid rfl 24 (.tmp 94) rfl g (m * 32) rfl (hashArr y).toList _ RY.out Tryd.underlying24 rfl LJ.out ?_; rw [Array.toArray_toList])
    | ((with_reducible refine op_is ⟨none, .store 24 (.tmp 96) (.tmp 95), _, _, _, _⟩ ?_); refine wpList_store_mid rfl 24 (.tmp 96) (.tmp 95) rfl g (i * 32) (hashArr y) rfl rfl (by rw [hash_size LY.out]; exact TH1.out) (hash_info _ LY.out) (hashArr_one _) ?_)
    | ((with_reducible refine op_is ⟨some 99, .load 24 (.tmp 8), _, _, _, _⟩ ?_); refine wpList_load_mid rfl 24 (.tmp 8) rfl w1'.heap.size (0) rfl (hashArr x).toList _ RT.out Tryd.underlying24 rfl LI.out ?_; rw [Array.toArray_toList])
    | ((with_reducible refine op_is ⟨none, .store 24 (.tmp 100) (.tmp 99), _, _, _, _⟩ ?_); refine wpList_store_mid rfl 24 (.tmp 100) (.tmp 99) rfl g (m * 32) (hashArr x) rfl rfl (by rw [hash_size LX.out]; exact TH2.out) (hash_info _ LX.out) (hashArr_one _) ?_))
  go_ret
  have hg := HG.out
  have b1 : Below w.heap.size w (w1'.alloc (.cells (hashArr x) 24)) := GG.out.below.alloc GG.out.below.size _
  exact row_end (ROW2.out.puts m x LX.out) (by omega) (by omega) (below_setCells (by omega) _ _ _ (below_setCells (by omega) _ _ _ b1))
set_option maxHeartbeats 4000000 in
set_option maxRecDepth 100000 in
theorem bent_one (v : Value) (hs : List Tree.H) (q0 q1 : Int) (B n : Nat) (w : World) (hv : OwnsH w B v hs) (hlen : hs.length ≤ 1000) (hn : hs.length = n) (hn0 : 0 < n) (hq : Int.tmod (Int.tmod q0 5 + 5) 5 = 1) :
    Calls Tryd.prog 24 #[v, .agg #[.int .i64 q0, .int .i64 q1]] w (Bends w) := by
  obtain ⟨i, hi, ei, e1, e2⟩ := mod_idx q1 n hn0
  obtain ⟨e3, e4⟩ := Rem.tmod_lo q0 5 (by omega)
  have z0 : ((n : Int) == 0) = false := by simp; omega
  have z1 : IntKind.i64.wrap (Int.tmod q1 (n : Int)) = Int.tmod q1 (n : Int) := IntWalk.i64_in _ (by omega)
  have z2 : IntKind.i64.wrap (Int.tmod q1 (n : Int) + (n : Int)) = Int.tmod q1 (n : Int) + (n : Int) := IntWalk.i64_in _ (by omega)
  have z4 : IntKind.i64.wrap (Int.tmod q0 5) = Int.tmod q0 5 := IntWalk.i64_in _ (by omega)
  have z5 : IntKind.i64.wrap (Int.tmod q0 5 + 5) = Int.tmod q0 5 + 5 := IntWalk.i64_in _ (by omega)
  have z7 : ¬ (n = 0) := by omega
  have y1 : (0 : Int) ≤ (i : Int) := by omega
  have y2 : (i : Int) < (n : Int) := by omega
  have y3 : (i : Int).toNat = i := by omega
  have v1 : IntKind.i64.wrap ((i : Int) + 1) = (i : Int) + 1 := IntWalk.i64_in _ (by omega)
  have b0 : Below w.heap.size w (w.alloc (.cells #[.int .i64 q0, .int .i64 q1] 42)) := (Below.refl _ _).alloc (Nat.le_refl _) _
  have C3 := Lib.hid (heap_alloc_new w (.cells #[.int .i64 q0, .int .i64 q1] 42))
  have HS := Lib.hid (hv.src.below b0)
  have B0 := Lib.hid b0
  clear hv b0
  go_enter Tryd.func24, Tryd.ntmps24
  go_upto_region 1 with fail
  generalize w.alloc (.cells #[.int .i64 q0, .int .i64 q1] 42) = W0 at *
  have bW : Below W0.heap.size W0 (W0.alloc (.cells #[] 24)) := (Below.refl _ _).alloc (Nat.le_refl _) _
  have HS1 := Lib.hid (HS.out.below bW)
  have HO := Lib.hid (owns_none W0 W0.heap.size (Nat.le_refl _))
  have HBW := Lib.hid bW
  clear bW HS
  go_wp2_with (first
    | ((with_reducible refine op_is ⟨some 11, .call { callee := .builtin .append, args := #[.tmp 9, .tmp 10], argTypes := #[38, 38] }, _, _, _, _⟩ ?_); refine wpList_append_hs rfl (.tmp 9) (.tmp 10) rfl W0.heap.size _ _ [] hs rfl rfl HO.out HS1.out (by simp; omega) HBW.out.size ?_; intro v1 w1' hown1 hgrow1; obtain ⟨G1⟩ := bent_first HBW.out B0.out C3.out hown1 hgrow1 hn; obtain ⟨G2⟩ := G1; obtain ⟨av, cv, ev⟩ := hs_sli G2.own.is; rw [G2.len] at ev; subst ev; have c0 := G2.c0; have c1 := G2.c1; obtain ⟨g, eg, row, hg⟩ := own_some G2.own G2.len hn0; subst eg; have GG := Lib.hid G2; have ROW := Lib.hid row; have HG := Lib.hid hg; have hcut1 := cut_hs (some ⟨g, 0, none⟩) n i cv (by have := row.nc; omega); have hcut2 := cutl_hs g n (i + 1) cv (by omega); obtain ⟨p, ep⟩ : ∃ p, (if cv = i + 1 then 0 else (i + 1) * 32) = p := ⟨_, rfl⟩; rw [ep] at hcut2; have hpp : n = i + 1 ∨ p = (i + 1) * 32 := part_at row.nc hi ep; have S1 := Lib.hid (SrcH.cut G2.own G2.len hi); have S2 := Lib.hid (SrcH.rest G2.own G2.len (k := i + 1) (by omega) hpp (cv - (i + 1))); have hsz := block_lt_of_cell G2.c0; clear ep hpp; clear hown1 hgrow1 G2 row hg))
  clear HS1 HO
  have bx : Below w1'.heap.size w1' (w1'.alloc (.cells #[] 24)).drew := ((Below.refl _ _).alloc (Nat.le_refl _) _).drew
  have O1 := Lib.hid ((owns_none w1' w1'.heap.size (Nat.le_refl _)).below (Below.refl _ _).drew)
  have T1 := Lib.hid (S1.out.below bx)
  have BX := Lib.hid bx
  have hcut3 : ∀ W, (Instr.slice 38 (.slice (some ⟨g, 0, none⟩) n cv) (some (.int .i64 ((i : Int) + 1))) none none).run Tryd.prog W = .ok (.slice (some ⟨g, p, none⟩) (n - (i + 1)) (cv - (i + 1))) W := hcut2
  clear bx
  go_region_law (first
    | (refine step_append_hs (by rfl) (.tmp 60) (.tmp 63) (by rfl) w1'.heap.size _ _ [] (hs.take i) (by rfl) (by rfl) O1.out T1.out (by simp; omega) BX.out.size ?_; intro v3 w3 hown3 hgrow3; have b3 := Lib.hid (BX.out.grown hgrow3 BX.out.size (fun k hk => by simp [Value.ownBlock] at hk; omega)); have O3 := Lib.hid hown3; clear hown3 hgrow3)
    | (refine step_append_hs (by rfl) (.tmp 64) (.tmp 68) (by rfl) w1'.heap.size _ _ ([] ++ hs.take i) (hs.drop (i + 1)) (by rfl) (by rfl) O3.out (S2.out.below b3.out) (by simp; omega) b3.out.size ?_; intro v4 w4 hown4 hgrow4; have b4 := Lib.hid (b3.out.grown hgrow4 b3.out.size (fun k hk => O3.out.block k hk)); have O4 := Lib.hid hown4; clear hown4 hgrow4))
  all_goals
    go_wp2_with fail
    go_ret
    exact ⟨_, _, rfl, O4.out.mono (by omega), by simp; omega, below_join GG.out.below b4.out⟩
theorem bent_any (v : Value) (hs : List Tree.H) (q0 q1 : Int) (B : Nat) (w : World) (hv : OwnsH w B v hs) (hlen : hs.length ≤ 1000) :
    Calls Tryd.prog 24 #[v, .agg #[.int .i64 q0, .int .i64 q1]] w (Bends w) := by
  by_cases h0 : hs.length = 0
  · exact bent_zero v hs q0 q1 B 0 w hv hlen h0 rfl
  · obtain ⟨s, hs5, es, _, _⟩ := mod_idx q0 5 (by omega)
    have es' : Int.tmod (Int.tmod q0 5 + 5) 5 = (s : Int) := es
    have : s = 0 ∨ s = 1 ∨ s = 2 ∨ s = 3 ∨ s = 4 := by omega
    rcases this with rfl | rfl | rfl | rfl | rfl
    · exact bent_nil v hs q0 q1 B _ w hv hlen rfl (by omega) es'
    · exact bent_one v hs q0 q1 B _ w hv hlen rfl (by omega) es'
    · exact bent_two v hs q0 q1 B _ w hv hlen rfl (by omega) es'
    · exact bent_three v hs q0 q1 B _ w hv hlen rfl (by omega) es'
    · exact bent_four v hs q0 q1 B _ w hv hlen rfl (by omega) es'
end
section
/-- a Head in memory -/
def IsHeadAt (w : World) (v : Value) : Prop := ∃ g n l, v = .pointer (some ⟨g, 0, none⟩) ∧ List.length l = 32 ∧ w.heap[g]? = some (.cells (headArr n l) 36 (0, 0))
theorem isHeadAt {w : World} {g : Nat} {n : Int} {l : Tree.H} (hl : l.length = 32) (hg : w.heap[g]? = some (.cells (headArr n l) 36 (0, 0))) : IsHeadAt w (.pointer (some ⟨g, 0, none⟩)) := ⟨g, n, l, rfl, hl, hg⟩
theorem rowOf_at {w : World} {g : Nat} {cs : Array Value} {t : TypeId} {fr : Nat × Nat} (hg : w.heap[g]? = some (.cells cs t fr)) : hashOf w (.pointer (some ⟨g, 0, none⟩)) = cs := by simp [hashOf, hg]
theorem load_head {w : World} {g : Nat} {n : Int} {l : Tree.H} (hl : l.length = 32) (hg : w.heap[g]? = some (.cells (headArr n l) 36 (0, 0))) : (loadVar 36 ⟨g, 0, none⟩).run Tryd.prog w = .ok (.agg (headArr n l)) w :=
  run_loadVar_row w g 36 36 (headArr n l) (0, 0) _ hg Tryd.underlying36 rfl (head_info n l hl)
theorem wp_load_head {d : Option Tmp} {x : Operand} {ty : TypeId} {pos : String} {after : Array Edge} {gd : Option (Nat × Bool)} {a : Act} {w : World} {K : Act → World → Prop} {Q : Exit → Act → World → Prop} (h0 : IsHeadAt w (a.eval x)) :
    Oper.wp Tryd.prog ⟨d, .load 36 x, ty, pos, after, gd⟩ a w K Q = K (a.put d (.agg (hashOf w (a.eval x)))) w := by
  obtain ⟨g, n, l, e, hl, hg⟩ := h0
  unfold Oper.wp execOp
  simp only [e, rowOf_at hg, Instr.loadAt, Instr.sureAddr, Sem.run_bind, Sem.run_pure, Result.andThen_ok, load_head hl hg]
  rfl
theorem head_load {w : World} {b : Nat} {n : Int} {l : Tree.H} {t : TypeId} {fr : Nat × Nat} (hl : l.length = 32) (hb : w.heap[b]? = some (.cells (headArr n l) t fr)) :
    ∀ w', (∃ p : Regrown, w' = grow (redrawn w p.d) p.os) → (loadVar 36 ⟨b, 0, none⟩).run Tryd.prog w' = .ok (.agg (headArr n l)) w' :=
  load_regrown hb Tryd.underlying36 rfl (head_info n l hl)
theorem store_head {ops : Array Oper} {rest : List Oper} {o : Oper} {a : Act} {w : World} {Q : Exit → Act → World → Prop} {n : Int} {l : Tree.H} (hl : l.length = 32) (x y : Operand) (hgd : o.guard = none) (hdst : o.dst = none) (ho : o.op = .store 36 x y)
    (hx : a.eval x = .pointer (some ⟨w.heap.size, 0, none⟩)) (hy : a.eval y = .agg (headArr n l))
    (h : wpList Tryd.prog ops Q rest a (w.alloc (.cells (headArr n l) 36))) : wpList Tryd.prog ops Q (o :: rest) a (w.alloc (.cells (headArr 0 Tree.zero) 36)) :=
  wpList_store_new hgd 36 x y ho (headArr n l) hx hy 36 (headArr 0 Tree.zero) (head_info n l hl) (by rw [headArr_size _ _ hl, headArr_size _ _ zero_length]) (headArr_one n l) (by rw [hdst]; exact h)
theorem head_setSize (n m : Int) (h : Tree.H) : (headArr n h).setIfInBounds 0 (.int .i64 m) = headArr m h := by
  apply Array.ext_getElem?
  intro k
  rw [Array.getElem?_setIfInBounds]
  by_cases hk : k = 0
  · subst hk
    rw [if_pos rfl, if_pos (by rw [headArr_eq]; simp; omega), headArr_zero]
  · obtain ⟨j, rfl⟩ : ∃ j, k = 1 + j := ⟨k - 1, by omega⟩
    rw [if_neg (by omega), headArr_succ, headArr_succ]
theorem wrap_le (x : Int) : IntKind.i64.wrap x ≤ 9223372036854775807 := (wrap_within .i64 x).2
theorem hs_sl {W : World} {v : Value} {l : List Tree.H} (h : IsHs W v l) : ∃ a c, v = .slice a l.length c := by
  obtain ⟨_, ⟨rfl, a, c, rfl, _⟩ | ⟨b, o, c, rfl, _⟩⟩ := h
  · exact ⟨_, _, rfl⟩
  · exact ⟨_, _, rfl⟩
theorem strs_sl {W : World} {v : Value} {l : List ByteArray} (h : IsStrs W v l) : ∃ a c, v = .slice a l.length c ∧ (1 ≤ l.length → l.length ≤ c) := by
  obtain ⟨_, ⟨rfl, a, c, rfl⟩ | ⟨b, o, c, rfl, _, h3, _⟩⟩ := h
  · exact ⟨_, _, rfl, fun h => by simp at h⟩
  · exact ⟨_, _, rfl, fun _ => h3⟩
/-- what TreeChecks has laid before it compares -/
structure ChkAt (w : World) (z0 z1 z2 z3 : Int) (p9 p13 pS : Nat) (M sz : Int) (h : Tree.H) (s1 s2 : ByteArray) (B : Nat) (v : Value) (hs : List Tree.H) (W : World) : Prop where
  below : Below w.heap.size w W
  q : W.heap[w.heap.size]? = some (.cells #[.int .i64 z0, .int .i64 z1, .int .i64 z2, .int .i64 z3] 51 (0, 0))
  h9 : W.heap[p9]? = some (.cells (headArr M h) 36 (0, 0))
  h13 : W.heap[p13]? = some (.cells (headArr sz h) 36 (0, 0))
  s : W.heap[pS]? = some (.cells #[.string s1, .string s2] 9 (0, 0))
  own : OwnsH W B v hs
theorem ChkAt.step {w : World} {z0 z1 z2 z3 : Int} {p9 p13 pS : Nat} {M sz : Int} {h : Tree.H} {s1 s2 : ByteArray} {B : Nat} {v : Value} {hs : List Tree.H} {W W' : World} (k : ChkAt w z0 z1 z2 z3 p9 p13 pS M sz h s1 s2 B v hs W) (hb : Below W.heap.size W W') : ChkAt w z0 z1 z2 z3 p9 p13 pS M sz h s1 s2 B v hs W' :=
  ⟨below_join k.below hb, heap_below k.q hb, heap_below k.h9 hb, heap_below k.h13 hb, heap_below k.s hb, k.own.below hb⟩
end
end Go.Proofs.YtjedhmoehepbnaaDoor
