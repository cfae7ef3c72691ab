/- The contract of Split (at most 19 weights). -/
import Derived.Test.YtfligfompdcddaaGreatDoorSplitLaw
import Derived.Test.YtfligfompdcddaaGreatDoorDesc
namespace Go.Proofs.YtfligfompdcddaaGreatDoor
open Go.RowKit Go.Sort
set_option linter.unusedVariables false
/-- a slice value reads as a list of integers -/
def IntsAt (w : World) (v : Value) (xs : List Int) : Prop :=
  ∃ ao cap, v = .slice ao xs.length cap ∧ (xs = [] ∨ ∃ g, ao = some ⟨g, 0, none⟩ ∧ ∀ j, j < xs.length → w.cell? ⟨g, j, none⟩ = some (.int .i64 (xs.getD j 0)))
theorem IntsFull.at {w : World} {g : Nat} {xs : List Int} (h : IntsFull w g xs) (cap : Nat) : IntsAt w (.slice (some ⟨g, 0, none⟩) xs.length cap) xs :=
  ⟨_, cap, rfl, .inr ⟨g, rfl, fun j hj => h.cell j hj⟩⟩
theorem IntsAt.below {w w' : World} {v : Value} {xs : List Int} (h : IntsAt w v xs) (hb : Below w.heap.size w w') : IntsAt w' v xs := by
  obtain ⟨ao, cap, rfl, h⟩ := h
  refine ⟨ao, cap, rfl, ?_⟩
  rcases h with h | ⟨g, rfl, h⟩
  · exact .inl h
  · exact .inr ⟨g, rfl, fun j hj => by rw [hb.cell (p := ⟨g, j, none⟩) (block_lt_of_cell (h j hj))]; exact h j hj⟩
theorem IntsAt.of_owns {w : World} {base : Nat} {v : Value} {xs : List Int} (h : w.ownsRow base 3 1 v xs.length (xs.map (Value.int .i64))) : IntsAt w v xs := by
  rcases h.2 with ⟨rfl, hn⟩ | ⟨g, cap, cur, rfl, _, hg, hc, _, hs, ht⟩
  · exact ⟨none, 0, by rw [hn], .inl (List.eq_nil_of_length_eq_zero hn)⟩
  · refine ⟨_, cap, rfl, .inr ⟨g, rfl, fun j hj => ?_⟩⟩
    rw [cell_of_row _ _ _ _ _ _ hg]
    have : (cur.toList.take (xs.length * 1))[j]? = (xs.map (Value.int .i64))[j]? := by rw [ht]
    rw [List.getElem?_take, if_pos (by omega), Array.getElem?_toList] at this
    rw [this]
    simp [hj]
/-- what Split gives -/
def SplitOf (a : Int) (ws : List Int) (w : World) (e : Ending) (w' : World) : Prop :=
  match Led.split a ws with
  | none => e = .returned (.tuple #[.slice none 0 0, .bool false]) ∧ Below w.heap.size w w'
  | some ps => ∃ g, e = .returned (.tuple #[.slice (some ⟨g, 0, none⟩) ps.length ps.length, .bool true]) ∧ IntsFull w' g ps ∧ w.heap.size ≤ g ∧ Below w.heap.size w w'
theorem SplitOf.no {a : Int} {ws : List Int} {w w' : World} (h : ¬ Led.Fit a ws) (hb : Below w.heap.size w w') : SplitOf a ws w (.returned (.tuple #[.slice none 0 0, .bool false])) w' := by
  have e : Led.split a ws = Option.none := by
    unfold Led.split
    rw [if_neg (fun h2 => h ((Led.fit_iff a ws).1 h2))]
  unfold SplitOf
  rw [e]
  exact ⟨rfl, hb⟩
theorem SplitOf.yes {a : Int} {ws : List Int} {w w' : World} (h : Led.Fit a ws) {g : Nat} (hF : IntsFull w' g (Led.parts a ws)) (hg : w.heap.size ≤ g) (hb : Below w.heap.size w w') :
    SplitOf a ws w (.returned (.tuple #[.slice (some ⟨g, 0, none⟩) ws.length ws.length, .bool true])) w' := by
  have e : Led.split a ws = Option.some (Led.parts a ws) := by
    unfold Led.split
    rw [if_pos ((Led.fit_iff a ws).2 h)]
  unfold SplitOf
  rw [e]
  exact ⟨g, by rw [Led.parts_length], hF, hg, hb⟩
theorem sum_take_succ (ws : List Int) (k : Nat) (hk : k < ws.length) : (ws.take (k + 1)).sum = (ws.take k).sum + ws.getD k 0 := by
  rw [List.take_succ_eq_append_getElem hk, List.sum_append]
  simp [hk]
theorem sum_bound (ws : List Int) (k : Nat) (hk : k ≤ 1000) (h : ∀ j, j < k → 0 ≤ ws.getD j 0 ∧ ws.getD j 0 ≤ 1000000) : 0 ≤ (ws.take k).sum ∧ (ws.take k).sum ≤ 1000000 * (k : Int) := by
  induction k with
  | zero => simp
  | succ k ih =>
    have h1 := ih (by omega) (fun j hj => h j (by omega))
    by_cases hk2 : k < ws.length
    · rw [sum_take_succ _ _ hk2]
      have := h k (by omega)
      omega
    · rw [List.take_of_length_le (by omega)]
      rw [List.take_of_length_le (by omega)] at h1
      omega
theorem sum_map_bd (l : List Int) (f : Int → Int) (M : Int) (h : ∀ x ∈ l, 0 ≤ f x ∧ f x ≤ M) : 0 ≤ (l.map f).sum ∧ (l.map f).sum ≤ M * (l.length : Int) := by
  induction l with
  | nil => simp
  | cons x l ih =>
    have h1 := h x (by simp)
    have h2 := ih (fun y hy => h y (by simp [hy]))
    simp only [List.map_cons, List.sum_cons, List.length_cons]
    rw [Int.natCast_add, Int.mul_add]
    simp
    omega
theorem step_map (k j : Nat) (f : Nat → Int) (v : Int) (hv : f j = v) : ((List.range k).map fun x : Nat => if x < j + 1 then f x else 0) = ((List.range k).map fun x : Nat => if x < j then f x else 0).set j v := by
  apply List.ext_getElem
  · simp
  · intro i h1 h2
    rw [List.getElem_set]
    by_cases e : j = i
    · subst e; simp [hv]
    · simp only [if_neg e, List.getElem_map, List.getElem_range]
      by_cases h3 : i < j
      · rw [if_pos h3, if_pos (by omega)]
      · rw [if_neg h3, if_neg (by omega)]
set_option maxHeartbeats 4000000 in
set_option maxRecDepth 100000 in
theorem split_any (a : Int) (ws : List Int) (w : World) (v : Value) (hv : IntsAt w v ws) (hn : ws.length ≤ 19) : Calls Tryz.prog 27 #[.int .i64 a, v] w (SplitOf a ws w) := by
  obtain ⟨ao, cap, rfl, hv⟩ := hv
  obtain ⟨n, en⟩ : ∃ n, ws.length = n := ⟨_, rfl⟩
  have EN := Lib.hid en
  have HV := Lib.hid hv
  rw [en] at hn
  rw [en]
  clear en hv
  have dl : decide ((1000 : Int) < (n : Int)) = false := by simp; omega
  have dl2 : decide (1000 < n) = false := by simp; omega
  by_cases ha0 : a < 0
  · have nf : Hid (¬ Led.Fit a ws) := fun h => by have := h.a0; omega
    have d1 : decide (a < 0) = true := by simpa using ha0
    go_enter Tryz.func27, Tryz.ntmps27
    go_wp2_with fail
    go_ret2
    exact SplitOf.no nf.out (Below.refl _ _)
  by_cases ha1 : 1000000000 < a
  · have nf : Hid (¬ Led.Fit a ws) := fun h => by have := h.a1; omega
    have d1 : decide (a < 0) = false := by simpa using ha0
    have d2 : decide (1000000000 < a) = true := by simpa using ha1
    go_enter Tryz.func27, Tryz.ntmps27
    go_wp2_with fail
    go_ret2
    exact SplitOf.no nf.out (Below.refl _ _)
  have d1 : decide (a < 0) = false := by simpa using ha0
  have d2 : decide (1000000000 < a) = false := by simpa using ha1
  have a0 : 0 ≤ a := by omega
  have a1 : a ≤ 1000000000 := by omega
  clear ha0 ha1
  go_enter Tryz.func27, Tryz.ntmps27
  go_wp2_with fail
  go_loop [6, 29] (fun t i => ∃ k : Nat, k ≤ n ∧ i = .int .i64 k ∧ t = .int .i64 (ws.take k).sum ∧ ∀ j, j < k → 0 ≤ ws.getD j 0 ∧ ws.getD j 0 ≤ 1000000) (fun _ i => n - (intOf i).toNat)
  case atStart => exact ⟨0, Nat.zero_le _, rfl, rfl, fun j hj => by omega⟩
  case round =>
    obtain ⟨k, hk, rfl, rfl, hall⟩ := hrel
    have ALL := Lib.hid hall
    have hs := sum_bound ws k (by omega) hall
    clear hall
    by_cases hlt : k < n
    · have e1 := sum_take_succ ws k (by rw [EN.out]; exact hlt)
      have E1 := Lib.hid e1
      obtain ⟨hnil, g, rfl, hc⟩ : ws ≠ [] ∧ ∃ g, ao = some ⟨g, 0, none⟩ ∧ ∀ j, j < ws.length → w.cell? ⟨g, j, none⟩ = some (.int .i64 (ws.getD j 0)) := by
        have hne : ws ≠ [] := fun e => by have := EN.out; rw [e] at this; simp at this; omega
        rcases HV.out with h | h
        · exact absurd h hne
        · exact ⟨hne, h⟩
      have ck := hc k (by rw [EN.out]; exact hlt)
      clear hc hnil e1
      generalize hx : ws.getD k 0 = x at *
      have HX := Lib.hid hx
      generalize (ws.take k).sum = t at *
      clear hx
      by_cases hb : x < 0
      · have b1 : decide (x < 0) = true := by simpa using hb
        have nf : Hid (¬ Led.Fit a ws) := fun h => by have := h.w _ (Led.mem_getD (i := k) (by rw [EN.out]; exact hlt)); rw [HX.out] at this; omega
        go_wp2_with fail
        go_ret2
        exact SplitOf.no nf.out (Below.refl _ _)
      · by_cases hb2 : 1000000 < x
        · have b1 : decide (x < 0) = false := by simpa using hb
          have b2 : decide (1000000 < x) = true := by simpa using hb2
          have nf : Hid (¬ Led.Fit a ws) := fun h => by have := h.w _ (Led.mem_getD (i := k) (by rw [EN.out]; exact hlt)); rw [HX.out] at this; omega
          go_wp2_with fail
          go_ret2
          exact SplitOf.no nf.out (Below.refl _ _)
        · have b1 : decide (x < 0) = false := by simpa using hb
          have b2 : decide (1000000 < x) = false := by simpa using hb2
          go_wp2_with fail
          go_round
          case rel => exact ⟨k + 1, by omega, by go_num, by rw [E1.out], fun j hj => by
            by_cases e : j = k
            · rw [e, HX.out]; omega
            · exact ALL.out j (by omega)⟩
          case measure => simp [intOf]; omega
    · obtain rfl : k = n := by omega
      have es : (ws.take k).sum = ws.sum := by rw [List.take_of_length_le (by rw [EN.out]; exact Nat.le_refl _)]
      rw [es] at hs ⊢
      clear es
      obtain ⟨T, hT⟩ : ∃ T, ws.sum = T := ⟨_, rfl⟩
      rw [hT] at hs ⊢
      have HT := Lib.hid hT
      clear hT
      by_cases hz : T = 0
      · subst hz
        have nf : Hid (¬ Led.Fit a ws) := fun h => h.sum HT.out
        go_wp2_with fail
        go_ret2
        exact SplitOf.no nf.out (Below.refl _ _)
      · have z1 : (T == 0) = false := by simpa using hz
        have hF : Led.Fit a ws := ⟨a0, a1, by rw [EN.out]; omega, fun y hy => by
          obtain ⟨j, hj, rfl⟩ := List.mem_iff_getElem.1 hy
          have := ALL.out j (by rw [← EN.out]; exact hj)
          simpa [hj] using this, by rw [HT.out]; exact hz⟩
        have FIT := Lib.hid hF
        clear hF
        obtain ⟨g, cap', hao, hc⟩ : ∃ (g cap' : Nat), ao = some ⟨g, 0, none⟩ ∧ ∀ j, j < ws.length → w.cell? ⟨g, j, none⟩ = some (.int .i64 (ws.getD j 0)) := by
          have hne : ws ≠ [] := fun e => by have := FIT.out.len_pos; rw [e] at this; simp at this
          rcases HV.out with h | ⟨g, h1, h2⟩
          · exact absurd h hne
          · exact ⟨g, 0, h1, h2⟩
        subst hao
        have HC := Lib.hid hc
        obtain ⟨i0, hi, hz0, hz1, hz2⟩ := info_parts int_info
        have tp := FIT.out.pos
        rw [HT.out] at tp
        clear hc cap' HV hs ALL hz
        go_wp2_with (at_make; refine wpList_make_full _ rfl (.tmp 46) (.tmp 46) 55 rfl w.heap.size 3 i0 (.int .i64 0) 1 Tryz.underlying55 hi hz0 hz1 .i64 .i64 _ _ k rfl rfl rfl rfl (by rw [hz2]; omega) (by unfold maxLen; omega) (Nat.le_refl _) ?_)
        intro w1 hown hgrow
        have F1 := Lib.hid (IntsFull.made (by rw [Nat.mul_one]; exact hown))
        have B1 : Hid (Below w.heap.size w w1) := (Below.refl _ _).grown hgrow (Nat.le_refl _) (fun j hj => by cases hj)
        clear hown hgrow
        go_wp2_with (at_make; refine wpList_make_full _ rfl (.tmp 49) (.tmp 49) 55 rfl w1.heap.size 3 i0 (.int .i64 0) 1 Tryz.underlying55 hi hz0 hz1 .i64 .i64 _ _ k rfl rfl rfl rfl (by rw [hz2]; omega) (by unfold maxLen; omega) (Nat.le_refl _) ?_)
        intro w2 hown hgrow
        have F2 := Lib.hid (IntsFull.made (by rw [Nat.mul_one]; exact hown))
        have B2 : Hid (Below w1.heap.size w1 w2) := (Below.refl _ _).grown hgrow (Nat.le_refl _) (fun j hj => by cases hj)
        have F1' := Lib.hid (F1.out.below B2.out)
        have lt1 := F1.out.lt
        have BW := Lib.hid (below_join B1.out B2.out)
        clear hown hgrow hi hz0 hz1 hz2
        obtain ⟨gp, hgp⟩ : ∃ gp, w.heap.size = gp := ⟨_, rfl⟩
        obtain ⟨gr, hgr⟩ : ∃ gr, w1.heap.size = gr := ⟨_, rfl⟩
        have GP := Lib.hid hgp
        rw [hgr] at F2 lt1 ⊢
        rw [hgp] at F1' lt1 BW ⊢
        clear hgr hgp B1 B2 F1
        have LT : Hid (gp ≤ gr) := by show gp ≤ gr; omega
        have n1 : gp ≠ gr := by omega
        have n2 : gr ≠ gp := by omega
        go_wp2_with fail
        go_loopw [11, 54] (fun l i wr => ∃ j : Nat, j ≤ k ∧ i = .int .i64 j ∧ l = .int .i64 (a - ((ws.take j).map fun x => a * x / T).sum) ∧ IntsFull wr gp ((List.range k).map fun x : Nat => if x < j then Led.share a ws x else 0) ∧ IntsFull wr gr ((List.range k).map fun x : Nat => if x < j then (Led.rests a ws).getD x 0 else 0) ∧ Below gp w wr) (fun _ i _ => k - (intOf i).toNat)
        case atStart =>
          have e0 : ∀ f : Nat → Int, ((List.range k).map fun x : Nat => if x < 0 then f x else 0) = List.replicate k 0 := by
            intro f
            apply List.ext_getElem
            · simp
            · intro i h1 h2; simp
          refine ⟨0, Nat.zero_le _, rfl, by simp, ?_, ?_, BW.out⟩
          · rw [e0]; exact F1'.out
          · rw [e0]; exact F2.out
        case round =>
          obtain ⟨j, hj, rfl, rfl, hP, hR, hB⟩ := hrel
          have HP := Lib.hid hP
          have HR := Lib.hid hR
          have HB := Lib.hid hB
          clear hP hR hB F1' F2 BW
          by_cases hlt : j < k
          · have hjl : j < ws.length := by rw [EN.out]; exact hlt
            have gl : g < gp := by rw [← GP.out]; exact block_lt_of_cell (HC.out 0 (by omega))
            have c0 : wr.cell? ⟨g, j, none⟩ = some (.int .i64 (ws.getD j 0)) := by
              rw [HB.out.cell (p := ⟨g, j, none⟩) gl]
              exact HC.out j hjl
            have c1 := HP.out.cell j (by simp; omega)
            have f1 := HP.out.frozen j
            have c2 := HR.out.cell j (by simp; omega)
            have f2 := HR.out.frozen j
            have z1 : ((List.range k).map fun x : Nat => if x < j then Led.share a ws x else 0).getD j 0 = 0 := by simp [hlt]
            have z2 : ((List.range k).map fun x : Nat => if x < j then (Led.rests a ws).getD x 0 else 0).getD j 0 = 0 := by simp [hlt]
            rw [z1] at c1
            rw [z2] at c2
            have hm := FIT.out.mul (Led.mem_getD hjl)
            have hs := sum_map_bd (ws.take j) (fun x => a * x / T) 1000000000000000 (fun x hx => by
              have h1 := FIT.out.mul (List.mem_of_mem_take hx)
              have h2 := Int.ediv_nonneg h1.1 (show 0 ≤ T by omega)
              have h3 := Int.ediv_le_self T h1.1
              omega)
            have hjt : (ws.take j).length = j := by rw [List.length_take]; omega
            rw [hjt] at hs
            have ES : Hid (((ws.take (j + 1)).map fun x => a * x / T).sum = ((ws.take j).map fun x => a * x / T).sum + a * ws.getD j 0 / T) := by
              show _ = _
              rw [List.take_succ_eq_append_getElem hjl, List.map_append, List.sum_append]
              simp [hjl]
            have h3 := Int.ediv_le_self T hm.1
            have h4 := Int.ediv_nonneg hm.1 (show 0 ≤ T by omega)
            have h5 := Int.emod_nonneg (a * ws.getD j 0) (show T ≠ 0 by omega)
            have tp1 : 1 ≤ T := tp.1
            have E1 : Hid (Led.share a ws j = a * ws.getD j 0 / T) := by show _ = _; unfold Led.share; rw [HT.out]
            have E2 : Hid ((Led.rests a ws).getD j 0 = a * ws.getD j 0 % T) := by show _ = _; rw [Led.rests_getD a ws hjl, HT.out]
            generalize hy : ws.getD j 0 = y at *
            generalize ((ws.take j).map fun x => a * x / T).sum = S at *
            have m0 : 0 ≤ a * y := hm.1
            have m1 : a * y ≤ 1000000000000000 := hm.2
            have s0 : 0 ≤ S := hs.1
            have s1 : S ≤ 20000000000000000 := by omega
            have q0 : 0 ≤ a * y / T := h4
            have q1 : a * y / T ≤ 1000000000000000 := by omega
            clear z1 z2 hm hs hjt hjl hy h3 h4 tp gl
            go_wp2_with fail
            go_roundw
            case rel =>
              have P2 := (HP.out.set j (a * y / T)).set_other (k := gr) j (.int .i64 (a * y % T)) n1
              have R2 := (HR.out.set_other (k := gp) j (.int .i64 (a * y / T)) n2).set j (a * y % T)
              refine ⟨j + 1, by omega, by go_num, by rw [ES.out]; go_num, ?_, ?_, (HB.out.setCell (Nat.le_refl _) _).setCell LT.out _⟩
              · rw [step_map k j (Led.share a ws) _ E1.out]; exact P2
              · rw [step_map k j (fun x => (Led.rests a ws).getD x 0) _ E2.out]; exact R2
            case measure => simp [intOf]; omega
          · obtain rfl : j = k := by omega
            have el : a - ((ws.take j).map fun x => a * x / T).sum = Led.left a ws := by
              rw [List.take_of_length_le (by rw [EN.out]; exact Nat.le_refl _)]
              unfold Led.left
              rw [HT.out]
            rw [el]
            have hlf := Led.left_le FIT.out
            rw [EN.out] at hlf
            obtain ⟨l, hl⟩ : ∃ l : Nat, Led.left a ws = (l : Int) := ⟨(Led.left a ws).toNat, by omega⟩
            rw [hl] at hlf ⊢
            have HL := Lib.hid hl
            have eR : ((List.range j).map fun x : Nat => if x < j then (Led.rests a ws).getD x 0 else 0) = Led.rests a ws := by
              apply list_ext_getD
              · simp [Led.rests_length, EN.out]
              · intro i hi
                have hi' : i < j := by simpa using hi
                simp [hi']
            have eP : ((List.range j).map fun x : Nat => if x < j then Led.share a ws x else 0) = (List.range j).map (Led.part a ws 0) := by
              apply List.map_congr_left
              intro x hx
              rw [if_pos (List.mem_range.1 hx)]
              unfold Led.part
              simp
            have R2 := HR.out
            rw [eR] at R2
            have P2 := HP.out
            rw [eP] at P2
            have R3 := Lib.hid R2
            have P3 := Lib.hid P2
            have rl : Hid ((Led.rests a ws).length = j) := by show _ = _; rw [Led.rests_length]; exact EN.out
            have CD := desc_any (Led.rests a ws) wr gr j (by rw [rl.out]; have := FIT.out.len_pos; rw [EN.out] at this; exact this) (by rw [rl.out]; exact hn) (fun i hi => R3.out.cell i hi)
            rw [rl.out] at CD
            have CD := Lib.hid CD
            clear el hl eR eP R2 P2 HP HR
            have l0 : l ≤ j := by omega
            clear hlf
            go_wp2_with fail
            refine CD.out.mono ?_
            rintro e w5 ⟨gi, s, rfl, hI, hgi, hb5, hsl, hrk⟩
            rw [rl.out] at hrk hsl ⊢
            have HI := Lib.hid hI
            have B5 : Hid (Below gp w w5) := HB.out.trans (hb5.mono (by have h1 := HB.out.size; have h2 := GP.out; omega))
            have P5 := Lib.hid (P3.out.below hb5)
            have HRK := Lib.hid hrk
            have GI : Hid (gp < gi) := Nat.lt_of_lt_of_le P3.out.lt hgi
            have HSL := Lib.hid hsl
            clear hI hgi hb5 hsl hrk CD P3 R3 HB
            have i1 : gp ≠ gi := by have := GI.out; omega
            have i2 : gi ≠ gp := by have := GI.out; omega
            go_wp2_with fail
            go_loopw [87] (fun i wr => ∃ q : Nat, q ≤ l ∧ i = .int .i64 q ∧ IntsFull wr gp ((List.range j).map (Led.part a ws q)) ∧ IntsFull wr gi (s.map fun x : Nat => (x : Int)) ∧ Below gp w wr) (fun i _ => l - (intOf i).toNat)
            case atStart => exact ⟨0, Nat.zero_le _, rfl, P5.out, HI.out, B5.out⟩
            case round =>
              obtain ⟨q, hq, rfl, hP, hI, hB⟩ := hrel
              have HP := Lib.hid hP
              have HI' := Lib.hid hI
              have HB := Lib.hid hB
              clear hP hI hB P5 HI B5
              by_cases hlt : q < l
              · obtain ⟨r1, r2⟩ := HRK.out q (by omega)
                generalize hx : s.getD q 0 = x at *
                have cI := HI'.out.cell q (by rw [List.length_map, HSL.out]; omega)
                have eI : (s.map fun x : Nat => (x : Int)).getD q 0 = (x : Int) := by
                  rw [← hx]
                  have : q < s.length := by rw [HSL.out]; omega
                  simp [this]
                rw [eI] at cI
                have cP := HP.out.cell x (by simp; exact r1)
                have fP := HP.out.frozen x
                have eP : ((List.range j).map (Led.part a ws q)).getD x 0 = Led.part a ws q x := by simp [r1]
                rw [eP] at cP
                have pl := Led.part_le FIT.out q x (by rw [EN.out]; exact r1)
                have x0 : (0 : Int) ≤ (x : Int) := by omega
                have x1 : (x : Int) < (j : Int) := by omega
                have x2 : (x : Int).toNat = x := by omega
                have EV : Hid (((List.range j).map (Led.part a ws q)).set x (Led.part a ws q x + 1) = (List.range j).map (Led.part a ws (q + 1))) := by
                  show _ = _
                  apply List.ext_getElem
                  · simp
                  · intro i h1 h2
                    have hi' : i < j := by simpa using h2
                    rw [List.getElem_set, List.getElem_map, List.getElem_map, List.getElem_range, Led.part_next (by rw [EN.out]; exact r1) r2 i (by rw [EN.out]; exact hi')]
                    by_cases e : x = i
                    · subst e; simp
                    · rw [if_neg e, if_neg (Ne.symm e)]; simp
                have HX := Lib.hid hx
                have R2 := Lib.hid r2
                generalize Led.part a ws q x = pv at *
                obtain ⟨p0, p1⟩ := pl
                clear hx eI eP r2 r1
                go_wp2_with fail
                go_roundw
                case rel =>
                  refine ⟨q + 1, by omega, by go_num, ?_, HI'.out.set_other (k := gp) x _ (by have := GI.out; omega), HB.out.setCell (Nat.le_refl _) _⟩
                  rw [← EV.out]
                  exact HP.out.set x (pv + 1)
                case measure => simp [intOf]; omega
              · obtain rfl : q = l := by omega
                have fin : (List.range j).map (Led.part a ws q) = Led.parts a ws := by
                  unfold Led.parts
                  rw [EN.out, HL.out]
                  rfl
                have FIN := Lib.hid fin
                clear fin
                go_wp2_with fail
                go_ret2
                rw [← EN.out]
                exact SplitOf.yes FIT.out (by rw [← FIN.out]; exact HP.out) (by rw [GP.out]; exact Nat.le_refl _) (by rw [GP.out]; exact HB.out)
end Go.Proofs.YtfligfompdcddaaGreatDoor
