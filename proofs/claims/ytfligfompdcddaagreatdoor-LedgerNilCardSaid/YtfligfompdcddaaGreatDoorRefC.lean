/- The model of the ledger: insert. -/
import Derived.Test.YtfligfompdcddaaGreatDoorRefB
import Derived.Laws.AppendOwn
import Derived.Laws.AppendOwnNone
namespace Go.Proofs.YtfligfompdcddaaGreatDoor
open Go.RowKit Go.Sort Go.Maps
set_option linter.unusedVariables false
/-- the slice u reads as the strings ys -/
def StrsIn (w : World) (u : Value) (ys : List (List UInt8)) : Prop := (u = .slice none 0 0 ∧ ys = []) ∨ ∃ ad c, u = .slice (some ad) ys.length c ∧ ∀ j y, ys[j]? = some y → w.cell? (ad.add j) = some (Go.Proofs.encStr y)
theorem StrsIn.below {w w' : World} {u : Value} {ys : List (List UInt8)} (h : StrsIn w u ys) (hb : Below w.heap.size w w') : StrsIn w' u ys := by
  rcases h with h | ⟨ad, c, e, h⟩
  · exact .inl h
  · exact .inr ⟨ad, c, e, fun j y hy => (hb.cell (block_lt_of_cell (h j y hy))).trans (h j y hy)⟩
theorem encs_one {ys : List (List UInt8)} : ∀ u ∈ ys.map Go.Proofs.encStr, u.oneCell' = true := by
  intro u hu
  obtain ⟨y, _, rfl⟩ := List.mem_map.1 hu
  rfl
theorem wpList_append_strs {ops : Array Oper} {rest : List Oper} {o : Oper} {a : Act} {w : World} {Q : Exit → Act → World → Prop} (hgd : o.guard = none) (s x : Operand)
    (ho : o.op = .call { callee := .builtin .append, args := #[s, x], argTypes := #[44, 44] })
    (base : Nat) (v : Value) (xs : List (List UInt8)) (hs : a.eval s = v) (hown : w.ownsRow base 9 1 v xs.length (xs.map Go.Proofs.encStr)) (u : Value) (ys : List (List UInt8)) (hx : a.eval x = u) (hu : StrsIn w u ys)
    (hn : xs.length + ys.length ≤ 100000) (hbase : base ≤ w.heap.size)
    (h : ∀ v' w', w'.ownsRow base 9 1 v' (xs ++ ys).length ((xs ++ ys).map Go.Proofs.encStr) → w.grownBy w' v.ownBlock → wpList Tryz.prog ops Q rest (a.put o.dst v') w') : wpList Tryz.prog ops Q (o :: rest) a w := by
  obtain ⟨i0, hi, hz0, hz1, hz2⟩ := info_parts (show (Tryz.prog.info? 9).map (fun i => (i.zero, i.size, i.bytes)) = some (some (.string ⟨#[]⟩), 1, 16) by kernel_rfl)
  rcases hu with ⟨e, hy⟩ | ⟨ad, c, e, hc⟩
  · refine wpList_append_own_none hgd s x 44 ho base 9 i0 1 Tryz.underlying44 hi v xs.length _ hs hown (by rw [hx, e]) (h v w ?_ ⟨rfl, rfl, rfl, Nat.le_refl _, fun _ _ _ => rfl⟩)
    subst hy
    rw [List.append_nil]
    exact hown
  · refine wpList_append_own (P := Tryz.prog) w hgd s x 44 ho base 9 i0 _ 1 16 Tryz.underlying44 hi hz0 hz1 hz2 rfl (by omega) v xs.length _ hs hown ad ys.length c (ys.map Go.Proofs.encStr) (by rw [hx, e]) (by simp) (fun j u hu => ?_) encs_one (by unfold maxLen; omega) (by omega) hbase (fun v' w' h1 h2 _ => h v' w' ?_ h2)
    · rw [List.getElem?_map] at hu
      obtain ⟨y, hy, rfl⟩ := Option.map_eq_some_iff.1 hu
      exact hc j y hy
    · rw [List.map_append, List.length_append]
      exact h1
theorem less_dec (x : List UInt8) (s : ByteArray) : Op.bytesLess (⟨x.toArray⟩ : ByteArray).toList s.toList = decide (x < s.data.toList) := by
  rw [ByteArray.toList_eq, ByteArray.toList_eq, bytesLess_eq]
theorem addr_add (g k j : Nat) : (⟨g, k, none⟩ : Addr).add j = ⟨g, k + j, none⟩ := by
  unfold Addr.add
  split
  · rename_i h; rw [h]; rfl
  · rfl
theorem own_cap {w : World} {B : Nat} {e : TypeId} {size : Nat} {a : Addr} {n cap : Nat} {xs : List Value} (h : w.ownsRow B e size (.slice (some a) n cap) n xs) : n ≤ cap := by
  rcases h.2 with ⟨h1, _⟩ | ⟨g, cap', cur, h1, h2, h3, h4, _⟩
  · cases h1
  · injection h1 with _ _ h1; subst h1; exact h4
theorem StrsIn.own {w : World} {B : Nat} {v : Value} {ys : List (List UInt8)} (h : w.ownsRow B 9 1 v ys.length (ys.map Go.Proofs.encStr)) : StrsIn w v ys := by
  rcases h.2 with ⟨rfl, h0⟩ | ⟨g, cap, cur, rfl, _⟩
  · exact .inl ⟨rfl, by simpa using h0⟩
  · refine .inr ⟨_, cap, rfl, fun j y hy => ?_⟩
    have hk := (List.getElem?_eq_some_iff.1 hy).1
    have e : (⟨g, 0, none⟩ : Addr).add j = ⟨g, j, none⟩ := by rw [addr_add, Nat.zero_add]
    rw [e, h.cellAt j (by omega), List.getElem?_map, hy]
    rfl
def Inserted (B : Nat) (ls : List (List UInt8)) (s : ByteArray) (w : World) (e : Ending) (w' : World) : Prop :=
  ∃ v', e = .returned v' ∧ w'.ownsRow B 9 1 v' (Led.ins ls s.data.toList).length ((Led.ins ls s.data.toList).map Go.Proofs.encStr) ∧ Below w.heap.size w w'
set_option maxHeartbeats 4000000 in
set_option maxRecDepth 100000 in
theorem insert_any {w : World} {B : Nat} {v : Value} {ls : List (List UInt8)} (h : w.ownsRow B 9 1 v ls.length (ls.map Go.Proofs.encStr)) (s : ByteArray) (hB : B ≤ w.heap.size) (hl : ls.length ≤ 10000) :
    Calls Tryz.prog 50 #[v, .string s] w (Inserted B ls s w) := by
  obtain ⟨ao, cap, rfl, hc⟩ := strs_row h
  obtain ⟨n, hn⟩ : ∃ n, ls.length = n := ⟨_, rfl⟩
  rw [hn] at h hl ⊢
  have H := Lib.hid h
  have HC := Lib.hid hc
  have HB := Lib.hid hB
  have HN := Lib.hid hn
  clear h hc hB hn
  go_enter Tryz.func50, Tryz.ntmps50
  go_upto_block 0 with fail
  go_cut [5] (fun v5 wx => ∃ k : Nat, v5 = .int .i64 k ∧ k ≤ n ∧ (∀ j x, j < k → ls[j]? = some x → x < s.data.toList) ∧ (∀ x, ls[k]? = some x → ¬ x < s.data.toList) ∧ wx = w)
  case first =>
    go_wp2_with fail
    go_loop [5] (fun i => ∃ k : Nat, k ≤ n ∧ i = .int .i64 k ∧ ∀ j x, j < k → ls[j]? = some x → x < s.data.toList) (fun i => n - (intOf i).toNat)
    case atStart => exact ⟨0, Nat.zero_le _, rfl, fun j x hj => by omega⟩
    case round =>
      obtain ⟨k, hk, rfl, hall⟩ := hrel
      have ALL := Lib.hid hall
      clear hall
      by_cases hlt : k < n
      · obtain ⟨x, hx⟩ : ∃ x, ls[k]? = some x := ⟨ls[k]'(by rw [HN.out]; exact hlt), List.getElem?_eq_getElem _⟩
        obtain ⟨g, rfl, cx⟩ := HC.out k x hx
        have HX := Lib.hid hx
        have hd := less_dec x s
        obtain ⟨xb, hxb⟩ : ∃ xb : ByteArray, (⟨x.toArray⟩ : ByteArray) = xb := ⟨_, rfl⟩
        rw [hxb] at hd cx
        clear hx hxb
        by_cases hlx : x < s.data.toList
        · rw [decide_eq_true hlx] at hd
          have HLX := Lib.hid hlx
          clear hlx
          go_wp2_with fail
          go_round
          case rel => exact ⟨k + 1, by omega, by go_num, fun j y hj hy => by
            by_cases e : j = k
            · subst e; rw [HX.out] at hy; injection hy with hy; subst hy; exact HLX.out
            · exact ALL.out j y (by omega) hy⟩
          case measure => simp [intOf]; omega
        · rw [decide_eq_false hlx] at hd
          have HLX := Lib.hid hlx
          clear hlx
          go_wp2_with fail
          go_meet
          exact ⟨k, rfl, by omega, ALL.out, fun y hy => by rw [HX.out] at hy; injection hy with hy; subst hy; exact HLX.out, rfl⟩
      · obtain rfl : k = n := by omega
        go_wp2_with fail
        go_meet
        exact ⟨k, rfl, by omega, ALL.out, fun y hy => by have := (List.getElem?_eq_some_iff.1 hy).1; rw [HN.out] at this; omega, rfl⟩
  case rest =>
    obtain ⟨k, rfl, hk, hall, hnot, rfl⟩ := hcut
    have IA := Lib.hid (Led.ins_at hall (by rw [HN.out]; exact hk) hnot)
    clear hall hnot
    by_cases hkn : k < n
    · obtain ⟨x, hx⟩ : ∃ x, ls[k]? = some x := ⟨ls[k]'(by rw [HN.out]; exact hkn), List.getElem?_eq_getElem _⟩
      obtain ⟨g, rfl, cx⟩ := HC.out k x hx
      have ia := IA.out
      rw [hx] at ia
      obtain ⟨xb, hxb⟩ : ∃ xb : ByteArray, (⟨x.toArray⟩ : ByteArray) = xb := ⟨_, rfl⟩
      have exb : x = xb.data.toList := by rw [← hxb]
      rw [hxb] at cx
      subst exb
      have HX := Lib.hid hx
      clear hx hxb
      by_cases e : xb = s
      · rw [if_pos (by rw [e])] at ia
        have INS := Lib.hid ia
        have d1 : (xb.toList == s.toList) = true := by rw [byte_test, decide_eq_true e]
        clear ia e IA
        go_wp2_with fail
        go_ret
        exact ⟨_, rfl, by rw [INS.out, HN.out]; exact H.out, Below.refl _ _⟩
      · rw [if_neg (fun h => e (by injection h with h; cases xb; cases s; simp at h; rw [ByteArray.mk.injEq]; exact h))] at ia
        have INS := Lib.hid ia
        have d1 : (xb.toList == s.toList) = false := by rw [byte_test, decide_eq_false e]
        have z1 : (k : Int) ≤ (n : Int) := by omega
        have z2 : (0 : Int) ≤ (k : Int) := by omega
        clear ia e IA
        have hcap := own_cap H.out
        have nck : ¬ cap = k := by omega
        have SD : Hid (StrsIn wc (.slice (some ⟨g, k, none⟩) (n - k) (cap - k)) (ls.drop k)) := .inr ⟨⟨g, k, none⟩, cap - k, by rw [List.length_drop, HN.out], fun j y hy => by
          rw [List.getElem?_drop] at hy
          obtain ⟨g', e', c'⟩ := HC.out (k + j) y hy
          injection e' with e'
          injection e' with e'
          subst e'
          rw [addr_add]; first | exact c' | (rw [Nat.zero_add]; exact c')⟩
        have ST : Hid (StrsIn wc (.slice (some ⟨g, 0, none⟩) k cap) (ls.take k)) := .inr ⟨⟨g, 0, none⟩, cap, by rw [List.length_take, HN.out, Nat.min_eq_left (by omega)], fun j y hy => by
          rw [List.getElem?_take] at hy
          split at hy
          · obtain ⟨g', e', c'⟩ := HC.out j y hy
            injection e' with e'
            injection e' with e'
            subst e'
            rw [addr_add]; first | exact c' | (rw [Nat.zero_add]; exact c')
          · cases hy⟩
        have kc : (k : Int) ≤ (cap : Int) := by omega
        have ba : Below wc.heap.size wc (wc.alloc (.cells #[.string s] 9)) := (Below.refl _ _).alloc (Nat.le_refl _) _
        have BA := Lib.hid ba
        have SD1 := Lib.hid (SD.out.below ba)
        have O1 : Hid ((wc.alloc (.cells #[.string s] 9)).ownsRow wc.heap.size 9 1 (.slice (some ⟨wc.heap.size, 0, none⟩) 1 1) [s.data.toList].length ([s.data.toList].map Go.Proofs.encStr)) :=
          ⟨rfl, .inr ⟨wc.heap.size, 1, #[.string s], rfl, Nat.le_refl _, heap_alloc_new _ _, Nat.le_refl _, Nat.le_of_ble_eq_true rfl, rfl, by cases s; rfl⟩⟩
        have LN := Lib.hid (show [s.data.toList].length + (ls.drop k).length ≤ 20000 by rw [List.length_drop, HN.out]; simp only [List.length_singleton]; omega)
        have LT := Lib.hid (show (ls.take k).length ≤ 10000 by rw [List.length_take, HN.out]; omega)
        clear ba
        go_wp2_with (first
          | (at_builtin; (refine wpList_append_strs rfl (.tmp 35) (.tmp 38) rfl wc.heap.size (.slice (some ⟨wc.heap.size, 0, none⟩) 1 1) [s.data.toList] rfl O1.out _ (ls.drop k) rfl SD1.out (Nat.le_trans LN.out (by omega)) BA.out.size ?_); intro v2 w2 r2 g2; have R2 := Lib.hid r2; have b2 := BA.out.grown g2 BA.out.size (fun b e => (rows_lt O1.out b e).1); have b3 := b2.alloc b2.size (.cells #[] 9); have B2 := Lib.hid b2; have B3 := Lib.hid b3; have R3 := Lib.hid (rows_below r2 ((Below.refl _ _).alloc (Nat.le_refl _) (.cells #[] 9))); have ST3 := Lib.hid (ST.out.below b3); have O3 : Hid ((w2.alloc (.cells #[] 9)).ownsRow w2.heap.size 9 1 (.slice (some ⟨w2.heap.size, 0, none⟩) 0 0) ([] : List (List UInt8)).length (([] : List (List UInt8)).map Go.Proofs.encStr)) := (⟨rfl, .inr ⟨w2.heap.size, 0, #[], rfl, Nat.le_refl _, heap_alloc_new _ _, Nat.le_refl _, Nat.le_of_ble_eq_true rfl, rfl, rfl⟩⟩); have Z3 := Lib.hid (show w2.heap.size ≤ (w2.alloc (.cells #[] 9)).heap.size by simp); clear r2 g2 b2 b3)
          | (at_builtin; (refine wpList_append_strs rfl (.tmp 40) (.tmp 43) rfl w2.heap.size (.slice (some ⟨w2.heap.size, 0, none⟩) 0 0) [] rfl O3.out _ (ls.take k) rfl ST3.out (by have := LT.out; simp only [List.length_nil]; omega) Z3.out ?_); intro v4 w4 r4 g4; (have R4 := Lib.hid r4; have b4 := B3.out.grown g4 (Nat.le_trans B2.out.size Z3.out) (fun b e => Nat.le_trans B2.out.size (rows_lt O3.out b e).1); have B4 := Lib.hid b4; have R5 := Lib.hid (R3.out.kept g4 (.inr (fun e => absurd (rows_lt R2.out _ e).2 (Nat.lt_irrefl _)))); have Z4 := Lib.hid (Nat.le_trans Z3.out g4.size); clear r4 g4 b4))
          | (at_builtin; (refine wpList_append_strs rfl (.tmp 44) (.tmp 45) rfl w2.heap.size v4 ([] ++ ls.take k) rfl R4.out v2 ([s.data.toList] ++ ls.drop k) rfl (StrsIn.own R5.out) (by have := LN.out; have := LT.out; simp only [List.length_append, List.nil_append]; simp only [List.length_singleton] at *; omega) Z4.out ?_); intro v5 w5 r5 g5; have R6 := Lib.hid r5; have B6 := Lib.hid (B4.out.grown g5 (Nat.le_trans B2.out.size Z4.out) (fun b e => Nat.le_trans B2.out.size (rows_lt R4.out b e).1)); clear r5 g5))
        go_ret
        refine ⟨_, rfl, ?_, B6.out⟩
        rw [INS.out]
        have r := ownsRow_base_a R6.out (Nat.le_trans HB.out B2.out.size)
        simp only [List.nil_append, List.singleton_append] at r
        exact r
    · obtain rfl : k = n := by omega
      have ia := IA.out
      rw [List.getElem?_eq_none (by rw [HN.out]; exact Nat.le_refl _), if_neg (by simp)] at ia
      have INS := Lib.hid ia
      have z2 : (0 : Int) ≤ (k : Int) := by omega
      clear ia IA
      cases ao with
      | none =>
        have k0 : k = 0 := by
          rcases H.out.2 with ⟨h1, _⟩ | ⟨g, cap', cur, h1, _⟩
          · injection h1 with _ h1 _
          · cases h1
        have c0 : cap = 0 := by
          rcases H.out.2 with ⟨h1, _⟩ | ⟨g, cap', cur, h1, _⟩
          · injection h1 with _ _ h1
          · cases h1
        subst k0 c0
        obtain rfl := List.eq_nil_of_length_eq_zero HN.out
        have SD : Hid (StrsIn wc (.slice none 0 0) ([] : List (List UInt8))) := .inl ⟨rfl, rfl⟩
        have ST : Hid (StrsIn wc (.slice none 0 0) ([] : List (List UInt8))) := .inl ⟨rfl, rfl⟩
        have ba : Below wc.heap.size wc (wc.alloc (.cells #[.string s] 9)) := (Below.refl _ _).alloc (Nat.le_refl _) _
        have BA := Lib.hid ba
        have SD1 := Lib.hid (SD.out.below ba)
        have O1 : Hid ((wc.alloc (.cells #[.string s] 9)).ownsRow wc.heap.size 9 1 (.slice (some ⟨wc.heap.size, 0, none⟩) 1 1) [s.data.toList].length ([s.data.toList].map Go.Proofs.encStr)) :=
          ⟨rfl, .inr ⟨wc.heap.size, 1, #[.string s], rfl, Nat.le_refl _, heap_alloc_new _ _, Nat.le_refl _, Nat.le_of_ble_eq_true rfl, rfl, by cases s; rfl⟩⟩
        have LN := Lib.hid (show [s.data.toList].length + ([] : List (List UInt8)).length ≤ 20000 by simp)
        have LT := Lib.hid (show ([] : List (List UInt8)).length ≤ 10000 by simp)
        clear ba
        go_wp2_with (first
          | (at_builtin; (refine wpList_append_strs rfl (.tmp 35) (.tmp 38) rfl wc.heap.size (.slice (some ⟨wc.heap.size, 0, none⟩) 1 1) [s.data.toList] rfl O1.out _ ([] : List (List UInt8)) rfl SD1.out (Nat.le_trans LN.out (by omega)) BA.out.size ?_); intro v2 w2 r2 g2; have R2 := Lib.hid r2; have b2 := BA.out.grown g2 BA.out.size (fun b e => (rows_lt O1.out b e).1); have b3 := b2.alloc b2.size (.cells #[] 9); have B2 := Lib.hid b2; have B3 := Lib.hid b3; have R3 := Lib.hid (rows_below r2 ((Below.refl _ _).alloc (Nat.le_refl _) (.cells #[] 9))); have ST3 := Lib.hid (ST.out.below b3); have O3 : Hid ((w2.alloc (.cells #[] 9)).ownsRow w2.heap.size 9 1 (.slice (some ⟨w2.heap.size, 0, none⟩) 0 0) ([] : List (List UInt8)).length (([] : List (List UInt8)).map Go.Proofs.encStr)) := (⟨rfl, .inr ⟨w2.heap.size, 0, #[], rfl, Nat.le_refl _, heap_alloc_new _ _, Nat.le_refl _, Nat.le_of_ble_eq_true rfl, rfl, rfl⟩⟩); have Z3 := Lib.hid (show w2.heap.size ≤ (w2.alloc (.cells #[] 9)).heap.size by simp); clear r2 g2 b2 b3)
          | (at_builtin; (refine wpList_append_strs rfl (.tmp 40) (.tmp 43) rfl w2.heap.size (.slice (some ⟨w2.heap.size, 0, none⟩) 0 0) [] rfl O3.out _ ([] : List (List UInt8)) rfl ST3.out (by have := LT.out; simp only [List.length_nil]; omega) Z3.out ?_); intro v4 w4 r4 g4; (have R4 := Lib.hid r4; have b4 := B3.out.grown g4 (Nat.le_trans B2.out.size Z3.out) (fun b e => Nat.le_trans B2.out.size (rows_lt O3.out b e).1); have B4 := Lib.hid b4; have R5 := Lib.hid (R3.out.kept g4 (.inr (fun e => absurd (rows_lt R2.out _ e).2 (Nat.lt_irrefl _)))); have Z4 := Lib.hid (Nat.le_trans Z3.out g4.size); clear r4 g4 b4))
          | (at_builtin; (refine wpList_append_strs rfl (.tmp 44) (.tmp 45) rfl w2.heap.size v4 ([] ++ ([] : List (List UInt8))) rfl R4.out v2 ([s.data.toList] ++ ([] : List (List UInt8))) rfl (StrsIn.own R5.out) (by have := LN.out; have := LT.out; simp only [List.length_append, List.nil_append]; simp only [List.length_singleton] at *; omega) Z4.out ?_); intro v5 w5 r5 g5; have R6 := Lib.hid r5; have B6 := Lib.hid (B4.out.grown g5 (Nat.le_trans B2.out.size Z4.out) (fun b e => Nat.le_trans B2.out.size (rows_lt R4.out b e).1)); clear r5 g5))
        go_ret
        refine ⟨_, rfl, ?_, B6.out⟩
        rw [INS.out]
        have r := ownsRow_base_a R6.out (Nat.le_trans HB.out B2.out.size)
        simp only [List.nil_append, List.append_nil, List.take_nil, List.drop_nil] at r ⊢
        exact r
      | some ad =>
        obtain ⟨g, rfl⟩ : ∃ g, ad = ⟨g, 0, none⟩ := by
          rcases H.out.2 with ⟨h1, _⟩ | ⟨g, cap', cur, h1, _⟩
          · cases h1
          · injection h1 with h1; injection h1 with h1; exact ⟨g, h1⟩
        have hcap := own_cap H.out
        by_cases nck : cap = k
        · subst nck
          have SD : Hid (StrsIn wc (.slice (some ⟨g, 0, none⟩) 0 0) (ls.drop cap)) := .inr ⟨⟨g, 0, none⟩, 0, by rw [List.length_drop, HN.out, Nat.sub_self], fun j y hy => by
            rw [List.getElem?_drop] at hy
            have := (List.getElem?_eq_some_iff.1 hy).1
            rw [HN.out] at this
            omega⟩
          have ST : Hid (StrsIn wc (.slice (some ⟨g, 0, none⟩) cap cap) (ls.take cap)) := .inr ⟨⟨g, 0, none⟩, cap, by rw [List.length_take, HN.out, Nat.min_eq_left (by omega)], fun j y hy => by
            rw [List.getElem?_take] at hy
            split at hy
            · obtain ⟨g', e', c'⟩ := HC.out j y hy
              injection e' with e'
              injection e' with e'
              subst e'
              rw [addr_add]; first | exact c' | (rw [Nat.zero_add]; exact c')
            · cases hy⟩
          have ba : Below wc.heap.size wc (wc.alloc (.cells #[.string s] 9)) := (Below.refl _ _).alloc (Nat.le_refl _) _
          have BA := Lib.hid ba
          have SD1 := Lib.hid (SD.out.below ba)
          have O1 : Hid ((wc.alloc (.cells #[.string s] 9)).ownsRow wc.heap.size 9 1 (.slice (some ⟨wc.heap.size, 0, none⟩) 1 1) [s.data.toList].length ([s.data.toList].map Go.Proofs.encStr)) :=
            ⟨rfl, .inr ⟨wc.heap.size, 1, #[.string s], rfl, Nat.le_refl _, heap_alloc_new _ _, Nat.le_refl _, Nat.le_of_ble_eq_true rfl, rfl, by cases s; rfl⟩⟩
          have LN := Lib.hid (show [s.data.toList].length + (ls.drop cap).length ≤ 20000 by rw [List.length_drop, HN.out]; simp only [List.length_singleton]; omega)
          have LT := Lib.hid (show (ls.take cap).length ≤ 10000 by rw [List.length_take, HN.out]; omega)
          clear ba
          go_wp2_with (first
            | (at_builtin; (refine wpList_append_strs rfl (.tmp 35) (.tmp 38) rfl wc.heap.size (.slice (some ⟨wc.heap.size, 0, none⟩) 1 1) [s.data.toList] rfl O1.out _ (ls.drop cap) rfl SD1.out (Nat.le_trans LN.out (by omega)) BA.out.size ?_); intro v2 w2 r2 g2; have R2 := Lib.hid r2; have b2 := BA.out.grown g2 BA.out.size (fun b e => (rows_lt O1.out b e).1); have b3 := b2.alloc b2.size (.cells #[] 9); have B2 := Lib.hid b2; have B3 := Lib.hid b3; have R3 := Lib.hid (rows_below r2 ((Below.refl _ _).alloc (Nat.le_refl _) (.cells #[] 9))); have ST3 := Lib.hid (ST.out.below b3); have O3 : Hid ((w2.alloc (.cells #[] 9)).ownsRow w2.heap.size 9 1 (.slice (some ⟨w2.heap.size, 0, none⟩) 0 0) ([] : List (List UInt8)).length (([] : List (List UInt8)).map Go.Proofs.encStr)) := (⟨rfl, .inr ⟨w2.heap.size, 0, #[], rfl, Nat.le_refl _, heap_alloc_new _ _, Nat.le_refl _, Nat.le_of_ble_eq_true rfl, rfl, rfl⟩⟩); have Z3 := Lib.hid (show w2.heap.size ≤ (w2.alloc (.cells #[] 9)).heap.size by simp); clear r2 g2 b2 b3)
            | (at_builtin; (refine wpList_append_strs rfl (.tmp 40) (.tmp 43) rfl w2.heap.size (.slice (some ⟨w2.heap.size, 0, none⟩) 0 0) [] rfl O3.out _ (ls.take cap) rfl ST3.out (by have := LT.out; simp only [List.length_nil]; omega) Z3.out ?_); intro v4 w4 r4 g4; (have R4 := Lib.hid r4; have b4 := B3.out.grown g4 (Nat.le_trans B2.out.size Z3.out) (fun b e => Nat.le_trans B2.out.size (rows_lt O3.out b e).1); have B4 := Lib.hid b4; have R5 := Lib.hid (R3.out.kept g4 (.inr (fun e => absurd (rows_lt R2.out _ e).2 (Nat.lt_irrefl _)))); have Z4 := Lib.hid (Nat.le_trans Z3.out g4.size); clear r4 g4 b4))
            | (at_builtin; (refine wpList_append_strs rfl (.tmp 44) (.tmp 45) rfl w2.heap.size v4 ([] ++ ls.take cap) rfl R4.out v2 ([s.data.toList] ++ ls.drop cap) rfl (StrsIn.own R5.out) (by have := LN.out; have := LT.out; simp only [List.length_append, List.nil_append]; simp only [List.length_singleton] at *; omega) Z4.out ?_); intro v5 w5 r5 g5; have R6 := Lib.hid r5; have B6 := Lib.hid (B4.out.grown g5 (Nat.le_trans B2.out.size Z4.out) (fun b e => Nat.le_trans B2.out.size (rows_lt R4.out b e).1)); clear r5 g5))
          go_ret
          refine ⟨_, rfl, ?_, B6.out⟩
          rw [INS.out]
          have r := ownsRow_base_a R6.out (Nat.le_trans HB.out B2.out.size)
          simp only [List.nil_append, List.singleton_append] at r
          exact r
        · have kc : (k : Int) ≤ (cap : Int) := by omega
          have SD : Hid (StrsIn wc (.slice (some ⟨g, k, none⟩) 0 (cap - k)) (ls.drop k)) := .inr ⟨⟨g, k, none⟩, cap - k, by rw [List.length_drop, HN.out, Nat.sub_self], fun j y hy => by
            rw [List.getElem?_drop] at hy
            obtain ⟨g', e', c'⟩ := HC.out (k + j) y hy
            injection e' with e'
            injection e' with e'
            subst e'
            rw [addr_add]; first | exact c' | (rw [Nat.zero_add]; exact c')⟩
          have ST : Hid (StrsIn wc (.slice (some ⟨g, 0, none⟩) k cap) (ls.take k)) := .inr ⟨⟨g, 0, none⟩, cap, by rw [List.length_take, HN.out, Nat.min_eq_left (by omega)], fun j y hy => by
            rw [List.getElem?_take] at hy
            split at hy
            · obtain ⟨g', e', c'⟩ := HC.out j y hy
              injection e' with e'
              injection e' with e'
              subst e'
              rw [addr_add]; first | exact c' | (rw [Nat.zero_add]; exact c')
            · cases hy⟩
          have ba : Below wc.heap.size wc (wc.alloc (.cells #[.string s] 9)) := (Below.refl _ _).alloc (Nat.le_refl _) _
          have BA := Lib.hid ba
          have SD1 := Lib.hid (SD.out.below ba)
          have O1 : Hid ((wc.alloc (.cells #[.string s] 9)).ownsRow wc.heap.size 9 1 (.slice (some ⟨wc.heap.size, 0, none⟩) 1 1) [s.data.toList].length ([s.data.toList].map Go.Proofs.encStr)) :=
            ⟨rfl, .inr ⟨wc.heap.size, 1, #[.string s], rfl, Nat.le_refl _, heap_alloc_new _ _, Nat.le_refl _, Nat.le_of_ble_eq_true rfl, rfl, by cases s; rfl⟩⟩
          have LN := Lib.hid (show [s.data.toList].length + (ls.drop k).length ≤ 20000 by rw [List.length_drop, HN.out]; simp only [List.length_singleton]; omega)
          have LT := Lib.hid (show (ls.take k).length ≤ 10000 by rw [List.length_take, HN.out]; omega)
          clear ba
          go_wp2_with (first
            | (at_builtin; (refine wpList_append_strs rfl (.tmp 35) (.tmp 38) rfl wc.heap.size (.slice (some ⟨wc.heap.size, 0, none⟩) 1 1) [s.data.toList] rfl O1.out _ (ls.drop k) rfl SD1.out (Nat.le_trans LN.out (by omega)) BA.out.size ?_); intro v2 w2 r2 g2; have R2 := Lib.hid r2; have b2 := BA.out.grown g2 BA.out.size (fun b e => (rows_lt O1.out b e).1); have b3 := b2.alloc b2.size (.cells #[] 9); have B2 := Lib.hid b2; have B3 := Lib.hid b3; have R3 := Lib.hid (rows_below r2 ((Below.refl _ _).alloc (Nat.le_refl _) (.cells #[] 9))); have ST3 := Lib.hid (ST.out.below b3); have O3 : Hid ((w2.alloc (.cells #[] 9)).ownsRow w2.heap.size 9 1 (.slice (some ⟨w2.heap.size, 0, none⟩) 0 0) ([] : List (List UInt8)).length (([] : List (List UInt8)).map Go.Proofs.encStr)) := (⟨rfl, .inr ⟨w2.heap.size, 0, #[], rfl, Nat.le_refl _, heap_alloc_new _ _, Nat.le_refl _, Nat.le_of_ble_eq_true rfl, rfl, rfl⟩⟩); have Z3 := Lib.hid (show w2.heap.size ≤ (w2.alloc (.cells #[] 9)).heap.size by simp); clear r2 g2 b2 b3)
            | (at_builtin; (refine wpList_append_strs rfl (.tmp 40) (.tmp 43) rfl w2.heap.size (.slice (some ⟨w2.heap.size, 0, none⟩) 0 0) [] rfl O3.out _ (ls.take k) rfl ST3.out (by have := LT.out; simp only [List.length_nil]; omega) Z3.out ?_); intro v4 w4 r4 g4; (have R4 := Lib.hid r4; have b4 := B3.out.grown g4 (Nat.le_trans B2.out.size Z3.out) (fun b e => Nat.le_trans B2.out.size (rows_lt O3.out b e).1); have B4 := Lib.hid b4; have R5 := Lib.hid (R3.out.kept g4 (.inr (fun e => absurd (rows_lt R2.out _ e).2 (Nat.lt_irrefl _)))); have Z4 := Lib.hid (Nat.le_trans Z3.out g4.size); clear r4 g4 b4))
            | (at_builtin; (refine wpList_append_strs rfl (.tmp 44) (.tmp 45) rfl w2.heap.size v4 ([] ++ ls.take k) rfl R4.out v2 ([s.data.toList] ++ ls.drop k) rfl (StrsIn.own R5.out) (by have := LN.out; have := LT.out; simp only [List.length_append, List.nil_append]; simp only [List.length_singleton] at *; omega) Z4.out ?_); intro v5 w5 r5 g5; have R6 := Lib.hid r5; have B6 := Lib.hid (B4.out.grown g5 (Nat.le_trans B2.out.size Z4.out) (fun b e => Nat.le_trans B2.out.size (rows_lt R4.out b e).1)); clear r5 g5))
          go_ret
          refine ⟨_, rfl, ?_, B6.out⟩
          rw [INS.out]
          have r := ownsRow_base_a R6.out (Nat.le_trans HB.out B2.out.size)
          simp only [List.nil_append, List.singleton_append] at r
          exact r
end Go.Proofs.YtfligfompdcddaaGreatDoor
