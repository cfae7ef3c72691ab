/- The contract of the reference's Split (at most 19 weights). -/
import Derived.Test.YtlfcoopnonhfeaaSplit
import Derived.Deep.AppendLies
namespace Go.Proofs.Ytlfcoopnonhfeaa
open Go.RowKit Go.Sort
set_option linter.unusedVariables false
/-- a row of integers at a block's head, perhaps with room behind it -/
def IntsPart (w : World) (g : Nat) (xs : List Int) : Prop := ∃ cur : Array Value, w.heap[g]? = some (.cells cur 3 (0, 0)) ∧ cur.toList.take xs.length = xs.map (Value.int .i64) ∧ xs.length ≤ cur.size
theorem IntsPart.lt {w : World} {g : Nat} {xs : List Int} (h : IntsPart w g xs) : g < w.heap.size := let ⟨_, h, _⟩ := h; (Array.getElem?_eq_some_iff.1 h).1
theorem IntsPart.cell {w : World} {g : Nat} {xs : List Int} (h : IntsPart w g xs) (i : Nat) (hi : i < xs.length) : w.cell? ⟨g, i, none⟩ = some (.int .i64 (xs.getD i 0)) := by
  obtain ⟨cur, h1, h2, h3⟩ := h
  rw [cell_of_row _ _ _ _ _ _ h1]
  have : (cur.toList.take xs.length)[i]? = (xs.map (Value.int .i64))[i]? := by rw [h2]
  rw [List.getElem?_take, if_pos hi, Array.getElem?_toList] at this
  rw [this]
  simp [hi]
theorem IntsPart.frozen {w : World} {g : Nat} {xs : List Int} (h : IntsPart w g xs) (i : Nat) : w.frozen? ⟨g, i, none⟩ = false := let ⟨_, h, _⟩ := h; frozen_of_row _ _ _ _ _ h
theorem IntsPart.set {w : World} {g : Nat} {xs : List Int} (h : IntsPart w g xs) (i : Nat) (v : Int) : IntsPart (w.setCell ⟨g, i, none⟩ (.int .i64 v)) g (xs.set i v) := by
  obtain ⟨cur, h1, h2, h3⟩ := h
  refine ⟨_, heap_setCell_same _ _ _ _ _ _ h1, ?_, by simpa using h3⟩
  rw [List.length_set, Array.toList_setIfInBounds, List.take_set, h2, List.map_set]
theorem IntsPart.set_other {w : World} {g k : Nat} {xs : List Int} (h : IntsPart w g xs) (i : Nat) (v : Value) (hne : g ≠ k) : IntsPart (w.setCell ⟨k, i, none⟩ v) g xs := by
  obtain ⟨cur, h1, h2, h3⟩ := h
  exact ⟨cur, by rw [heap_setCell_other _ _ _ _ hne]; exact h1, h2, h3⟩
theorem IntsPart.below {w w' : World} {g : Nat} {xs : List Int} (h : IntsPart w g xs) (hb : Below w.heap.size w w') : IntsPart w' g xs := by
  have hl := h.lt
  obtain ⟨cur, h1, h2, h3⟩ := h
  exact ⟨cur, (hb.block g hl).trans h1, h2, h3⟩
theorem IntsPart.at {w : World} {g : Nat} {xs : List Int} (h : IntsPart w g xs) (cap : Nat) : IntsAt w (.slice (some ⟨g, 0, none⟩) xs.length cap) xs :=
  ⟨_, cap, rfl, .inr ⟨g, rfl, fun j hj => h.cell j hj⟩⟩
theorem IntsPart.of_owns {w : World} {base : Nat} {v : Value} {xs : List Int} (h : w.ownsRow base 3 1 v xs.length (xs.map (Value.int .i64))) (h0 : 0 < xs.length) : ∃ g cap, v = .slice (some ⟨g, 0, none⟩) xs.length cap ∧ base ≤ g ∧ IntsPart w g xs ∧ xs.length ≤ cap ∧ cap ≤ maxLen := by
  rcases h.2 with ⟨_, hn⟩ | ⟨g, cap, cur, rfl, hb, hg, hc, hm, hs, ht⟩
  · omega
  · exact ⟨g, cap, rfl, hb, ⟨cur, hg, by rw [Nat.mul_one] at ht; exact ht, by omega⟩, hc, hm⟩
/-- what a Split gives, wherever the parts lie -/
def SplitR (a : Int) (ws : List Int) (w : World) (e : Ending) (w' : World) : Prop :=
  match Led.split a ws with
  | none => e = .returned (.tuple #[.slice none 0 0, .bool false]) ∧ Below w.heap.size w w'
  | some ps => ∃ v, e = .returned (.tuple #[v, .bool true]) ∧ IntsAt w' v ps ∧ Below w.heap.size w w'
theorem SplitR.no {a : Int} {ws : List Int} {w w' : World} (h : ¬ Led.Fit a ws) (hb : Below w.heap.size w w') : SplitR a ws w (.returned (.tuple #[.slice none 0 0, .bool false])) w' := by
  have e : Led.split a ws = Option.none := by
    unfold Led.split
    rw [if_neg (fun h2 => h ((Led.fit_iff a ws).1 h2))]
  unfold SplitR
  rw [e]
  exact ⟨rfl, hb⟩
theorem SplitR.yes {a : Int} {ws : List Int} {w w' : World} {v : Value} (h : Led.Fit a ws) (hF : IntsAt w' v (Led.parts a ws)) (hb : Below w.heap.size w w') : SplitR a ws w (.returned (.tuple #[v, .bool true])) w' := by
  have e : Led.split a ws = Option.some (Led.parts a ws) := by
    unfold Led.split
    rw [if_pos ((Led.fit_iff a ws).2 h)]
  unfold SplitR
  rw [e]
  exact ⟨v, rfl, hF, hb⟩
theorem SplitOf.weak {a : Int} {ws : List Int} {w w' : World} {e : Ending} (h : SplitOf a ws w e w') : SplitR a ws w e w' := by
  unfold SplitOf at h
  unfold SplitR
  cases hs : Led.split a ws with
  | none => rw [hs] at h; exact h
  | some ps =>
    rw [hs] at h
    obtain ⟨g, h1, h2, _, h3⟩ := h
    exact ⟨_, h1, h2.at _, h3⟩
theorem wpList_append_int {ops : Array Oper} {rest : List Oper} {o : Oper} {a : Act} {w : World} {Q : Exit → Act → World → Prop} (hgd : o.guard = none) (s x : Operand)
    (ho : o.op = Op.call { callee := Callee.builtin Builtin.append, args := #[s, x], argTypes := #[22, 22] })
    (base : Nat) (v : Value) (xs : List Int) (y : Int) (B : Nat) (hsv : a.eval s = v) (hx : a.eval x = .slice (some ⟨B, 0, none⟩) 1 1) (hown : w.ownsRow base 3 1 v xs.length (xs.map (Value.int .i64))) (hB : w.heap[B]? = some (.cells #[.int .i64 y] 3 (0, 0))) (hl : xs.length ≤ 100000) (hb : base ≤ w.heap.size)
    (h : ∀ v' w', w'.ownsRow base 3 1 v' (xs ++ [y]).length ((xs ++ [y]).map (Value.int .i64)) → w.grownBy w' v.ownBlock → (v'.ownBlock = v.ownBlock ∨ ∃ k, v'.ownBlock = some k ∧ w.heap.size ≤ k) → wpList Try.prog ops Q rest (a.put o.dst v') w') :
    wpList Try.prog ops Q (o :: rest) a w := by
  obtain ⟨i0, hi, hz0, hz1, hz2⟩ := info_parts int_info
  refine wpList_append_lies (P := Try.prog) w hgd s x 22 ho base 3 i0 _ 1 8 Try.underlying22 hi hz0 hz1 hz2 rfl (by omega) v xs.length (xs.map (Value.int .i64)) hsv hown ⟨B, 0, none⟩ 1 1 [.int .i64 y] hx rfl (World.news_of_block hB)
    (by intro u hu; simp at hu; subst hu; rfl) (by omega) (by unfold maxLen; omega) (by omega) hb w.heap.size rfl ?_
  intro g cap w' hown' hgrow hat hlt
  refine h _ w' ?_ hgrow ?_
  · rw [List.map_append, List.length_append]
    exact hown'
  · rcases hat with e | e
    · exact .inl (by rw [e]; rfl)
    · exact .inr ⟨g, rfl, by omega⟩
theorem owns_lt {w : World} {base : Nat} {v : Value} {n : Nat} {xs : List Value} (h : w.ownsRow base 3 1 v n xs) : ∀ b, v.ownBlock = some b → base ≤ b ∧ b < w.heap.size := by
  intro b hb
  rcases h.2 with ⟨rfl, _⟩ | ⟨g, cap, cur, rfl, h1, h2, _⟩
  · cases hb
  · have : g = b := by simpa [Value.ownBlock] using hb
    subst this
    exact ⟨h1, (Array.getElem?_eq_some_iff.1 h2).1⟩
theorem owns_kept {w w' : World} {base : Nat} {v : Value} {n : Nat} {xs : List Value} {row : Option Nat} (h : w.ownsRow base 3 1 v n xs) (hg : w.grownBy w' row) (hne : ∀ b, v.ownBlock = some b → row ≠ some b) : w'.ownsRow base 3 1 v n xs := by
  refine h.kept hg ?_
  rcases h.2 with ⟨rfl, _⟩ | ⟨g, cap, cur, rfl, _⟩
  · exact .inl rfl
  · exact .inr (fun e => hne g rfl e.symm)
theorem map_range_part (k : Nat) (f : Nat → Int) : (List.range (k + 1)).map f = (List.range k).map f ++ [f k] := by
  rw [List.range_succ, List.map_append]; rfl
set_option maxHeartbeats 4000000 in
set_option maxRecDepth 100000 in
theorem rsplit_any (a : Int) (ws : List Int) (w : World) (v : Value) (hv : IntsAt w v ws) (hn : ws.length ≤ 19) : Calls Try.prog 9 #[.int .i64 a, v] w (SplitR a ws w) := by
  obtain ⟨ao, cap, rfl, hv⟩ := hv
  obtain ⟨n, en⟩ : ∃ n, ws.length = n := ⟨_, rfl⟩
  have EN := Lib.hid en
  have HV := Lib.hid hv
  rw [en] at hn
  rw [en]
  clear en hv
  have dl : decide ((1000 : Int) < (n : Int)) = false := by simp; omega
  have dl2 : decide (1000 < n) = false := by simp; omega
  by_cases ha0 : a < 0
  · have nf : Hid (¬ Led.Fit a ws) := fun h => by have := h.a0; omega
    have d1 : decide (a < 0) = true := by simpa using ha0
    go_enter Try.func9, Try.ntmps9
    go_wp2_with fail
    go_ret2
    exact SplitR.no nf.out (Below.refl _ _)
  by_cases ha1 : 1000000000 < a
  · have nf : Hid (¬ Led.Fit a ws) := fun h => by have := h.a1; omega
    have d1 : decide (a < 0) = false := by simpa using ha0
    have d2 : decide (1000000000 < a) = true := by simpa using ha1
    go_enter Try.func9, Try.ntmps9
    go_wp2_with fail
    go_ret2
    exact SplitR.no nf.out (Below.refl _ _)
  have d1 : decide (a < 0) = false := by simpa using ha0
  have d2 : decide (1000000000 < a) = false := by simpa using ha1
  by_cases hn0 : n < 1
  · have nf : Hid (¬ Led.Fit a ws) := fun h => by have := h.len_pos; rw [EN.out] at this; omega
    have d3 : decide ((n : Int) < 1) = true := by simp; omega
    have d4 : decide (n < 1) = true := by simp; omega
    go_enter Try.func9, Try.ntmps9
    go_wp2_with fail
    go_ret2
    exact SplitR.no nf.out (Below.refl _ _)
  have d3 : decide ((n : Int) < 1) = false := by simp; omega
  have d4 : decide (n < 1) = false := by simp; omega
  have a0 : 0 ≤ a := by omega
  have a1 : a ≤ 1000000000 := by omega
  clear ha0 ha1 hn0
  go_enter Try.func9, Try.ntmps9
  go_wp2_with fail
  go_loop [6, 7] (fun t i => ∃ k : Nat, k ≤ n ∧ i = .int .i64 k ∧ t = .int .i64 (ws.take k).sum ∧ ∀ j, j < k → 0 ≤ ws.getD j 0 ∧ ws.getD j 0 ≤ 1000000) (fun _ i => n - (intOf i).toNat)
  case atStart => exact ⟨0, Nat.zero_le _, rfl, rfl, fun j hj => by omega⟩
  case round =>
    obtain ⟨k, hk, rfl, rfl, hall⟩ := hrel
    have ALL := Lib.hid hall
    have hs := sum_bound ws k (by omega) hall
    clear hall
    by_cases hlt : k < n
    · have e1 := sum_take_succ ws k (by rw [EN.out]; exact hlt)
      have E1 := Lib.hid e1
      obtain ⟨hnil, g, rfl, hc⟩ : ws ≠ [] ∧ ∃ g, ao = some ⟨g, 0, none⟩ ∧ ∀ j, j < ws.length → w.cell? ⟨g, j, none⟩ = some (.int .i64 (ws.getD j 0)) := by
        have hne : ws ≠ [] := fun e => by have := EN.out; rw [e] at this; simp at this; omega
        rcases HV.out with h | h
        · exact absurd h hne
        · exact ⟨hne, h⟩
      have ck := hc k (by rw [EN.out]; exact hlt)
      clear hc hnil e1
      generalize hx : ws.getD k 0 = x at *
      have HX := Lib.hid hx
      generalize (ws.take k).sum = t at *
      clear hx
      by_cases hb : x < 0
      · have b1 : decide (x < 0) = true := by simpa using hb
        have nf : Hid (¬ Led.Fit a ws) := fun h => by have := h.w _ (Led.mem_getD (i := k) (by rw [EN.out]; exact hlt)); rw [HX.out] at this; omega
        go_wp2_with fail
        go_ret2
        exact SplitR.no nf.out (Below.refl _ _)
      · by_cases hb2 : 1000000 < x
        · have b1 : decide (x < 0) = false := by simpa using hb
          have b2 : decide (1000000 < x) = true := by simpa using hb2
          have nf : Hid (¬ Led.Fit a ws) := fun h => by have := h.w _ (Led.mem_getD (i := k) (by rw [EN.out]; exact hlt)); rw [HX.out] at this; omega
          go_wp2_with fail
          go_ret2
          exact SplitR.no nf.out (Below.refl _ _)
        · have b1 : decide (x < 0) = false := by simpa using hb
          have b2 : decide (1000000 < x) = false := by simpa using hb2
          go_wp2_with fail
          go_round
          case rel => exact ⟨k + 1, by omega, by go_num, by rw [E1.out], fun j hj => by
            by_cases e : j = k
            · rw [e, HX.out]; omega
            · exact ALL.out j (by omega)⟩
          case measure => simp [intOf]; omega
    · obtain rfl : k = n := by omega
      have es : (ws.take k).sum = ws.sum := by rw [List.take_of_length_le (by rw [EN.out]; exact Nat.le_refl _)]
      rw [es] at hs ⊢
      clear es
      obtain ⟨T, hT⟩ : ∃ T, ws.sum = T := ⟨_, rfl⟩
      rw [hT] at hs ⊢
      have HT := Lib.hid hT
      clear hT
      by_cases hz : T = 0
      · subst hz
        have nf : Hid (¬ Led.Fit a ws) := fun h => h.sum HT.out
        go_wp2_with fail
        go_ret2
        exact SplitR.no nf.out (Below.refl _ _)
      · have z1 : (T == 0) = false := by simpa using hz
        have hF : Led.Fit a ws := ⟨a0, a1, by rw [EN.out]; omega, fun y hy => by
          obtain ⟨j, hj, rfl⟩ := List.mem_iff_getElem.1 hy
          have := ALL.out j (by rw [← EN.out]; exact hj)
          simpa [hj] using this, by rw [HT.out]; exact hz⟩
        have FIT := Lib.hid hF
        clear hF
        obtain ⟨g, cap', hao, hc⟩ : ∃ (g cap' : Nat), ao = some ⟨g, 0, none⟩ ∧ ∀ j, j < ws.length → w.cell? ⟨g, j, none⟩ = some (.int .i64 (ws.getD j 0)) := by
          have hne : ws ≠ [] := fun e => by have := FIT.out.len_pos; rw [e] at this; simp at this
          rcases HV.out with h | ⟨g, h1, h2⟩
          · exact absurd h hne
          · exact ⟨g, 0, h1, h2⟩
        subst hao
        have HC := Lib.hid hc
        have tp := FIT.out.pos
        rw [HT.out] at tp
        clear hc cap' HV hs ALL hz
        go_wp2_with fail
        go_loopw [8, 9, 10, 11] (fun o r l i wr => ∃ j : Nat, j ≤ k ∧ i = .int .i64 j ∧ l = .int .i64 (a - ((ws.take j).map fun x => a * x / T).sum) ∧ wr.ownsRow w.heap.size 3 1 o ((List.range j).map (Led.share a ws)).length (((List.range j).map (Led.share a ws)).map (Value.int .i64)) ∧ wr.ownsRow w.heap.size 3 1 r ((List.range j).map fun x => (Led.rests a ws).getD x 0).length (((List.range j).map fun x => (Led.rests a ws).getD x 0).map (Value.int .i64)) ∧ (∀ b, o.ownBlock = some b → r.ownBlock ≠ some b) ∧ Below w.heap.size w wr) (fun _ _ _ i _ => k - (intOf i).toNat)
        case atStart => exact ⟨0, Nat.zero_le _, rfl, by simp, ⟨by simp, .inl ⟨rfl, by simp⟩⟩, ⟨by simp, .inl ⟨rfl, by simp⟩⟩, (fun b hb => by cases hb), Below.refl _ _⟩
        case round =>
          obtain ⟨j, hj, rfl, rfl, hO, hR, hD, hB⟩ := hrel
          have HO := Lib.hid hO
          have HR := Lib.hid hR
          have HD := Lib.hid hD
          have HB := Lib.hid hB
          clear hO hR hD hB
          by_cases hlt : j < k
          · have hjl : j < ws.length := by rw [EN.out]; exact hlt
            have gl : g < w.heap.size := block_lt_of_cell (HC.out 0 (by omega))
            have c0 : wr.cell? ⟨g, j, none⟩ = some (.int .i64 (ws.getD j 0)) := by
              rw [HB.out.cell (p := ⟨g, j, none⟩) gl]
              exact HC.out j hjl
            have C0 := Lib.hid (HC.out j hjl)
            have GL := Lib.hid gl
            have hm := FIT.out.mul (Led.mem_getD hjl)
            have hs := sum_map_bd (ws.take j) (fun x => a * x / T) 1000000000000000 (fun x hx => by
              have h1 := FIT.out.mul (List.mem_of_mem_take hx)
              have h2 := Int.ediv_nonneg h1.1 (show 0 ≤ T by omega)
              have h3 := Int.ediv_le_self T h1.1
              omega)
            have hjt : (ws.take j).length = j := by rw [List.length_take]; omega
            rw [hjt] at hs
            have ES : Hid (((ws.take (j + 1)).map fun x => a * x / T).sum = ((ws.take j).map fun x => a * x / T).sum + a * ws.getD j 0 / T) := by
              show _ = _
              rw [List.take_succ_eq_append_getElem hjl, List.map_append, List.sum_append]
              simp [hjl]
            have h3 := Int.ediv_le_self T hm.1
            have h4 := Int.ediv_nonneg hm.1 (show 0 ≤ T by omega)
            have tp1 : 1 ≤ T := tp.1
            have E1 : Hid (Led.share a ws j = a * ws.getD j 0 / T) := by show _ = _; unfold Led.share; rw [HT.out]
            have E2 : Hid ((Led.rests a ws).getD j 0 = a * ws.getD j 0 % T) := by show _ = _; rw [Led.rests_getD a ws hjl, HT.out]
            generalize hy : ws.getD j 0 = y at *
            generalize ((ws.take j).map fun x => a * x / T).sum = S at *
            have m0 : 0 ≤ a * y := hm.1
            have m1 : a * y ≤ 1000000000000000 := hm.2
            have s0 : 0 ≤ S := hs.1
            have s1 : S ≤ 20000000000000000 := by omega
            have q0 : 0 ≤ a * y / T := h4
            have q1 : a * y / T ≤ 1000000000000000 := by omega
            obtain ⟨xs, hxs⟩ : ∃ xs, (List.range j).map (Led.share a ws) = xs := ⟨_, rfl⟩
            obtain ⟨ys, hys⟩ : ∃ ys, ((List.range j).map fun x => (Led.rests a ws).getD x 0) = ys := ⟨_, rfl⟩
            have HX := Lib.hid hxs
            have HY := Lib.hid hys
            have LX : Hid (xs.length = j) := by show _ = _; rw [← hxs]; simp
            have LY : Hid (ys.length = j) := by show _ = _; rw [← hys]; simp
            rw [hxs] at HO
            rw [hys] at HR
            have ga := World.grownBy_alloc wr (.cells #[.int .i64 (a * y / T)] 3) none
            have OA := Lib.hid (owns_kept HO.out ga (fun b hb e => by cases e))
            have RA := Lib.hid (owns_kept HR.out ga (fun b hb e => by cases e))
            have NA := Lib.hid (heap_alloc_new wr (.cells #[.int .i64 (a * y / T)] 3))
            have BA : Hid (Below w.heap.size w (wr.alloc (.cells #[.int .i64 (a * y / T)] 3))) := HB.out.alloc HB.out.size _
            have JB : Hid (j ≤ 19) := by show _ ≤ _; omega
            have NR : Hid (∀ b, u9.ownBlock = some b → b < wr.heap.size) := fun b hb => (owns_lt HR.out b hb).2
            clear hm hs hjt hjl hy h3 h4 tp gl hxs hys ga
            go_upto_region 19 with (at_builtin; refine wpList_append_int rfl (.tmp 63) (.tmp 72) rfl w.heap.size u8 xs (a * y / T) wr.heap.size rfl rfl OA.out NA.out (by rw [LX.out]; exact Nat.le_trans JB.out (by omega)) BA.out.size ?_; intro v1 w1 hown1 hg1 hv1)
            have b1 : Below w.heap.size w w1 := BA.out.grown hg1 BA.out.size (fun b e => (owns_lt OA.out b e).1)
            have r1 := owns_kept RA.out hg1 (fun b hb e => HD.out b e hb)
            have d1' : ∀ b, v1.ownBlock = some b → u9.ownBlock ≠ some b := by
              intro b hb e
              rcases hv1 with h | ⟨kk, h, h2⟩
              · exact HD.out b (by rw [← h]; exact hb) e
              · rw [h] at hb
                injection hb with hb
                have := NR.out b e
                simp at h2
                omega
            have B1 := Lib.hid b1
            have D1 := Lib.hid d1'
            have gb := World.grownBy_alloc w1 (.cells #[.int .i64 (a * y % T)] 3) none
            have O2 := Lib.hid (owns_kept hown1 gb (fun b hb e => by cases e))
            have R2 := Lib.hid (owns_kept r1 gb (fun b hb e => by cases e))
            have N2 := Lib.hid (heap_alloc_new w1 (.cells #[.int .i64 (a * y % T)] 3))
            have BA2 : Hid (Below w.heap.size w (w1.alloc (.cells #[.int .i64 (a * y % T)] 3))) := B1.out.alloc B1.out.size _
            have NV : Hid (∀ b, v1.ownBlock = some b → b < w1.heap.size) := fun b hb => (owns_lt hown1 b hb).2
            have c1 : w1.cell? ⟨g, j, none⟩ = some (.int .i64 y) := (B1.out.cell (p := ⟨g, j, none⟩) GL.out).trans C0.out
            clear c0 hown1 hg1 hv1 b1 r1 d1' gb OA RA NA BA HO HR HD HB
            go_upto_region 20 with (at_builtin; refine wpList_append_int rfl (.tmp 74) (.tmp 83) rfl w.heap.size u9 ys (a * y % T) w1.heap.size rfl rfl R2.out N2.out (by rw [LY.out]; exact Nat.le_trans JB.out (by omega)) BA2.out.size ?_; intro v2 w2 hown2 hg2 hv2)
            have b2 : Below w.heap.size w w2 := BA2.out.grown hg2 BA2.out.size (fun b e => (owns_lt R2.out b e).1)
            have o2 := owns_kept O2.out hg2 (fun b hb e => D1.out b hb e)
            have d2' : ∀ b, v1.ownBlock = some b → v2.ownBlock ≠ some b := by
              intro b hb e
              rcases hv2 with h | ⟨kk, h, h2⟩
              · exact D1.out b hb (by rw [← h]; exact e)
              · rw [h] at e
                injection e with e
                have := NV.out b hb
                simp at h2
                omega
            have B2 := Lib.hid b2
            have D2 := Lib.hid d2'
            have O3 := Lib.hid o2
            have R3 := Lib.hid hown2
            obtain ⟨g1, cap1, hf1, _, hp1, _, _⟩ := IntsPart.of_owns o2 (by simp)
            have el : (xs ++ [a * y / T]).length = j + 1 := by rw [List.length_append, LX.out]; rfl
            rw [el] at hf1
            have c2 := hp1.cell j (by rw [el]; omega)
            have ev : (xs ++ [a * y / T]).getD j 0 = a * y / T := by
              rw [List.getD_eq_getElem?_getD, List.getElem?_append_right (by rw [LX.out]; exact Nat.le_refl _), LX.out]
              simp
            rw [ev] at c2
            have HF1 := Lib.hid hf1
            clear c1 b2 o2 d2' hown2 hg2 hv2 hp1 el ev O2 R2 N2 BA2 NV D1 B1
            subst hf1
            go_wp2_with fail
            go_roundw
            case rel =>
              refine ⟨j + 1, by omega, by go_num, by rw [ES.out]; go_num, ?_, ?_, D2.out, B2.out⟩
              · rw [map_range_part, HX.out, E1.out]; exact O3.out
              · rw [map_range_part, HY.out, E2.out]; exact R3.out
            case measure => simp [intOf]; omega
          · obtain rfl : j = k := by omega
            have el : a - ((ws.take j).map fun x => a * x / T).sum = Led.left a ws := by
              rw [List.take_of_length_le (by rw [EN.out]; exact Nat.le_refl _)]
              unfold Led.left
              rw [HT.out]
            rw [el]
            have hlf := Led.left_le FIT.out
            rw [EN.out] at hlf
            obtain ⟨l, hl⟩ : ∃ l : Nat, Led.left a ws = (l : Int) := ⟨(Led.left a ws).toNat, by omega⟩
            rw [hl] at hlf ⊢
            have HL := Lib.hid hl
            have j0 : 0 < j := by have := FIT.out.len_pos; rw [EN.out] at this; exact this
            have l0 : l < j := by omega
            obtain ⟨g1, cap1, hf1, hb1, hp1, _, _⟩ := IntsPart.of_owns HO.out (by simp; exact j0)
            obtain ⟨g2, cap2, hf2, hb2, hp2, _, _⟩ := IntsPart.of_owns HR.out (by simp; exact j0)
            have lx : ((List.range j).map (Led.share a ws)).length = j := by simp
            have ly : ((List.range j).map fun x => (Led.rests a ws).getD x 0).length = j := by simp
            rw [lx] at hf1
            rw [ly] at hf2
            have n12 : g1 ≠ g2 := fun e => HD.out g1 (by rw [hf1]; rfl) (by rw [hf2, e]; rfl)
            have n21 : g2 ≠ g1 := Ne.symm n12
            subst hf1 hf2
            have eP : (List.range j).map (Led.share a ws) = (List.range j).map (Led.part a ws 0) := by
              apply List.map_congr_left
              intro x hx
              unfold Led.part
              simp
            have eR : ((List.range j).map fun x => (Led.rests a ws).getD x 0) = (List.range j).map (Led.leftover a ws 0) := by
              apply List.map_congr_left
              intro x hx
              unfold Led.leftover
              simp
            rw [eP] at hp1
            rw [eR] at hp2
            have P1 := Lib.hid hp1
            have P2 := Lib.hid hp2
            have G1 := Lib.hid hb1
            have G2 := Lib.hid hb2
            clear hp1 hp2 hb1 hb2 eP eR lx ly el hl hlf HO HR HD
            go_wp2_with fail
            go_loopw [10] (fun lf wr => ∃ q : Nat, q ≤ l ∧ lf = .int .i64 (l - q) ∧ IntsPart wr g1 ((List.range j).map (Led.part a ws q)) ∧ IntsPart wr g2 ((List.range j).map (Led.leftover a ws q)) ∧ Below w.heap.size w wr) (fun lf _ => (intOf lf).toNat)
            case atStart => exact ⟨0, Nat.zero_le _, by simp, P1.out, P2.out, HB.out⟩
            case round =>
              obtain ⟨wo, rfl⟩ : ∃ wo : World, wo = wr := ⟨_, rfl⟩
              obtain ⟨q, hq, rfl, hP, hR, hB⟩ := hrel
              have HP := Lib.hid hP
              have HR := Lib.hid hR
              have HB' := Lib.hid hB
              clear hP hR hB P1 P2 HB
              by_cases hlt : q < l
              · have dl : decide ((0 : Int) < (l : Int) - (q : Int)) = true := by simp; omega
                go_wp2_with fail
                go_loopw [12, 13] (fun bv iv wq => ∃ i b : Nat, i ≤ j ∧ b < j ∧ b ≤ i ∧ iv = .int .i64 i ∧ bv = .int .i64 b ∧ Led.Best (Led.leftover a ws q) i b ∧ Below wo.heap.size wo wq) (fun _ iv _ => j - (intOf iv).toNat)
                case atStart => exact ⟨0, 0, Nat.zero_le _, j0, Nat.le_refl _, rfl, rfl, fun x hx => by omega, Below.refl _ _⟩
                case round =>
                  obtain ⟨i, b, hi, hbj, hbi, rfl, rfl, hbest, hB2⟩ := hrel
                  have BEST := Lib.hid hbest
                  have R5 := Lib.hid (HR.out.below hB2)
                  have P5 := Lib.hid (HP.out.below hB2)
                  have B5 : Hid (Below w.heap.size w wr) := HB'.out.trans (hB2.mono HB'.out.size)
                  have B6 := Lib.hid hB2
                  clear hbest hB2
                  by_cases hij : i < j
                  · have di : decide ((i : Int) < (j : Int)) = true := by simp; omega
                    have c1 := R5.out.cell i (by simp; exact hij)
                    have c2 := R5.out.cell b (by simp; exact hbj)
                    have e1 : ((List.range j).map (Led.leftover a ws q)).getD i 0 = Led.leftover a ws q i := by simp [hij]
                    have e2 : ((List.range j).map (Led.leftover a ws q)).getD b 0 = Led.leftover a ws q b := by simp [hbj]
                    rw [e1] at c1
                    rw [e2] at c2
                    clear e1 e2
                    have NX := Lib.hid (BEST.out.next hbi)
                    generalize hfi : Led.leftover a ws q i = fi at *
                    generalize hfb : Led.leftover a ws q b = fb at *
                    have kept : ∀ (a : Addr) (v : Value), wr.cell? a = some v → ∀ dd os, (grow (redrawn wr dd) os).cell? a = some v := fun a v ha dd os => ((below_regrown wr dd os).cell (block_lt_of_cell ha)).trans ha
                    have X1 := kept _ _ c1
                    have X2 := kept _ _ c2
                    have i0 : (0 : Int) ≤ (i : Int) := by omega
                    have i1 : (i : Int) < (j : Int) := by omega
                    have i2 : (i : Int).toNat = i := by omega
                    have b0 : (0 : Int) ≤ (b : Int) := by omega
                    have b1 : (b : Int) < (j : Int) := by omega
                    have b2 : (b : Int).toNat = b := by omega
                    clear c1 c2 kept hfi hfb
                    by_cases hgt : fb < fi
                    · have dg : decide (fb < fi) = true := by simpa using hgt
                      have HG := Lib.hid hgt
                      clear hgt
                      go_wp2_with fail
                      refine wp_region_quiet_below (by kernel_rfl) (by kernel_rfl) ?_
                      repeat (go_big_quiet_step (fail))
                      refine wpQuiet_nil ?_
                      intro _ hw'
                      obtain ⟨⟨dq, osq⟩, hw''⟩ := hw'
                      subst hw''
                      have B7 := Lib.hid (below_join B6.out (below_regrown wr dq osq))
                      clear X1 X2
                      go_wp2_with fail
                      go_roundw
                      case rel => exact ⟨i + 1, i, by omega, hij, by omega, by go_num, rfl, NX.out.1 HG.out, B7.out⟩
                      case measure => simp [intOf]; omega
                    · have dg : decide (fb < fi) = false := by simpa using hgt
                      have HG := Lib.hid hgt
                      clear hgt
                      go_wp2_with fail
                      refine wp_region_quiet_below (by kernel_rfl) (by kernel_rfl) ?_
                      repeat (go_big_quiet_step (fail))
                      refine wpQuiet_nil ?_
                      intro _ hw'
                      obtain ⟨⟨dq, osq⟩, hw''⟩ := hw'
                      subst hw''
                      have B7 := Lib.hid (below_join B6.out (below_regrown wr dq osq))
                      clear X1 X2
                      go_wp2_with fail
                      go_roundw
                      case rel => exact ⟨i + 1, b, by omega, hbj, by omega, by go_num, rfl, NX.out.2 HG.out, B7.out⟩
                      case measure => simp [intOf]; omega
                  · obtain rfl : i = j := by omega
                    have hrk := Led.best_is FIT.out (t := q) (b := b) (by rw [EN.out]; omega) (by rw [EN.out]; exact hbj) (by rw [EN.out]; exact BEST.out)
                    have c1 := P5.out.cell b (by simp; exact hbj)
                    have f1 := P5.out.frozen b
                    have c2 := R5.out.cell b (by simp; exact hbj)
                    have f2 := R5.out.frozen b
                    have e1 : ((List.range i).map (Led.part a ws q)).getD b 0 = Led.part a ws q b := by simp [hbj]
                    rw [e1] at c1
                    have pl := Led.part_le FIT.out q b (by rw [EN.out]; exact hbj)
                    have EV : Hid (((List.range i).map (Led.part a ws q)).set b (Led.part a ws q b + 1) = (List.range i).map (Led.part a ws (q + 1))) := by
                      show _ = _
                      apply List.ext_getElem
                      · simp
                      · intro x h1 h2
                        have hi' : x < i := by simpa using h2
                        rw [List.getElem_set, List.getElem_map, List.getElem_map, List.getElem_range, Led.part_next (by rw [EN.out]; exact hbj) hrk x (by rw [EN.out]; exact hi')]
                        by_cases e : b = x
                        · subst e; simp
                        · rw [if_neg e, if_neg (Ne.symm e)]; simp
                    have EW : Hid (((List.range i).map (Led.leftover a ws q)).set b (-1) = (List.range i).map (Led.leftover a ws (q + 1))) := by
                      show _ = _
                      apply List.ext_getElem
                      · simp
                      · intro x h1 h2
                        have hi' : x < i := by simpa using h2
                        rw [List.getElem_set, List.getElem_map, List.getElem_map, List.getElem_range, Led.leftover_next (by rw [EN.out]; exact hbj) hrk x (by rw [EN.out]; exact hi')]
                        by_cases e : b = x
                        · subst e; simp
                        · rw [if_neg e, if_neg (Ne.symm e)]
                    have b0 : (0 : Int) ≤ (b : Int) := by omega
                    have b1 : (b : Int) < (i : Int) := by omega
                    have b2 : (b : Int).toNat = b := by omega
                    generalize Led.part a ws q b = pv at *
                    generalize ((List.range i).map (Led.leftover a ws q)).getD b 0 = rv at *
                    obtain ⟨p0, p1⟩ := pl
                    clear e1 hrk
                    go_wp2_with fail
                    go_roundw
                    case rel =>
                      refine ⟨q + 1, by omega, by go_num, ?_, ?_, (B5.out.setCell G1.out _).setCell G2.out _⟩
                      · rw [← EV.out]; exact (P5.out.set b (pv + 1)).set_other (k := g2) b _ n12
                      · rw [← EW.out]; exact (R5.out.set_other (k := g1) b _ n21).set b (-1)
                    case measure => simp [intOf]; omega
              · obtain rfl : q = l := by omega
                have dl : decide ((0 : Int) < (q : Int) - (q : Int)) = false := by simp
                have fin : (List.range j).map (Led.part a ws q) = Led.parts a ws := by
                  unfold Led.parts
                  rw [EN.out, HL.out]
                  rfl
                have FIN := Lib.hid fin
                have LP : Hid ((Led.parts a ws).length = j) := by show _ = _; rw [Led.parts_length, EN.out]
                clear fin
                go_wp2_with fail
                go_ret2
                refine SplitR.yes FIT.out ?_ HB'.out
                have h1 := HP.out
                rw [FIN.out] at h1
                have h2 := h1.at cap1
                rw [LP.out] at h2
                exact h2
end Go.Proofs.Ytlfcoopnonhfeaa
