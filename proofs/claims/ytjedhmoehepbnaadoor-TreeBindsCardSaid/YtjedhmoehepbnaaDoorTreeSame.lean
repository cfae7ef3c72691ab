/- Slices of hashes that are read; the contract of the reference's Same. -/
import Derived.Test.YtjedhmoehepbnaaDoorTreeGrowth
namespace Go.Proofs.YtjedhmoehepbnaaDoor
open Go.RowKit Go.Sort
set_option linter.unusedVariables false

/-- hashes that lie one behind the other -/
def HAt (W : World) (b o : Nat) (hs : List Tree.H) : Prop := ∀ i, i < hs.length → W.rangeAt b (o + i * 32) (hashArr (hs.getD i [])).toList
def Each (hs : List Tree.H) : Prop := ∀ x ∈ hs, x.length = 32
/-- a slice that reads as a list of hashes -/
def IsHs (W : World) (v : Value) (hs : List Tree.H) : Prop :=
  Each hs ∧ ((hs = [] ∧ ∃ a c, v = .slice a 0 c ∧ c ≤ 9223372036854775807) ∨ ∃ b o c, v = .slice (some ⟨b, o, none⟩) hs.length c ∧ 1 ≤ hs.length ∧ hs.length ≤ c ∧ c ≤ 9223372036854775807 ∧ HAt W b o hs)
theorem Each.getD {hs : List Tree.H} (h : Each hs) (i : Nat) (hi : i < hs.length) : (hs.getD i []).length = 32 := by
  rw [List.getD_eq_getElem?_getD, List.getElem?_eq_getElem hi]
  exact h _ (List.getElem_mem hi)
theorem range_below {W w1 : World} {b o : Nat} {cs : List Value} (h : W.rangeAt b o cs) (hb : Below W.heap.size W w1) : w1.rangeAt b o cs := fun j v hv =>
  (hb.cell (p := ⟨b, o + j, none⟩) (block_lt_of_cell (h j v hv))).trans (h j v hv)
theorem HAt.below {W w1 : World} {b o : Nat} {hs : List Tree.H} (h : HAt W b o hs) (hb : Below W.heap.size W w1) : HAt w1 b o hs := fun i hi => range_below (h i hi) hb
theorem IsHs.below {W w1 : World} {v : Value} {hs : List Tree.H} (h : IsHs W v hs) (hb : Below W.heap.size W w1) : IsHs w1 v hs := by
  obtain ⟨h1, h2 | ⟨b, o, c, e, h3, h4, h5, h6⟩⟩ := h
  · exact ⟨h1, .inl h2⟩
  · exact ⟨h1, .inr ⟨b, o, c, e, h3, h4, h5, h6.below hb⟩⟩
theorem flat_get (hs : List Tree.H) (h : Each hs) (i j : Nat) (hi : i < hs.length) (hj : j < 32) : (flat hs)[i * 32 + j]? = (hashArr (hs.getD i [])).toList[j]? := by
  induction hs generalizing i with
  | nil => simp at hi
  | cons x hs ih =>
    have e : flat (x :: hs) = (hashArr x).toList ++ flat hs := by simp [flat]
    have lx : (hashArr x).toList.length = 32 := by rw [Array.length_toList, hashArr_size, h x (by simp)]
    rw [e]
    cases i with
    | zero => rw [List.getElem?_append_left (by omega)]; simp
    | succ i =>
      rw [List.getElem?_append_right (by omega), lx, show (i + 1) * 32 + j - 32 = i * 32 + j by omega, ih (fun y hy => h y (by simp [hy])) i (by simpa using hi)]
      simp
theorem OwnsH.is {W : World} {base : Nat} {v : Value} {hs : List Tree.H} (h : OwnsH W base v hs) : IsHs W v hs := by
  refine ⟨h.1, ?_⟩
  rcases h.2.2 with ⟨rfl, hn⟩ | ⟨g, cap, cur, rfl, hbg, hgg, hnc, hcm, hcs, ht⟩
  · exact .inl ⟨List.length_eq_zero_iff.1 hn, none, 0, rfl, by omega⟩
  · have hcm' : cap ≤ 9223372036854775807 := by unfold maxLen at hcm; omega
    by_cases h0 : hs.length = 0
    · exact .inl ⟨List.length_eq_zero_iff.1 h0, some ⟨g, 0, none⟩, cap, by rw [h0], hcm'⟩
    · refine .inr ⟨g, 0, cap, rfl, by omega, hnc, hcm', fun i hi j u hu => ?_⟩
      have hj : j < 32 := by
        have := (List.getElem?_eq_some_iff.1 hu).1
        rw [Array.length_toList, hashArr_size, Each.getD h.1 i hi] at this
        exact this
      rw [Nat.zero_add, cell_of_row _ _ _ _ _ _ hgg]
      rw [← flat_get hs h.1 i j hi hj, ← ht, List.getElem?_take, if_pos (by omega)] at hu
      simpa using hu
/-- the load of an element, in every world of the class -/
theorem elem_load {W : World} {b o : Nat} {hs : List Tree.H} (h : HAt W b o hs) (he : Each hs) (i : Nat) (hi : i < hs.length) :
    ∀ w', (∃ p : Regrown, w' = grow (redrawn W p.d) p.os) → (loadVar 24 ⟨b, o + i * 32, none⟩).run Tryd.prog w' = .ok (.agg (hashArr (hs.getD i []))) w' := by
  rintro w' ⟨p, rfl⟩
  have := run_loadVar_mid (P := Tryd.prog) (grow (redrawn W p.d) p.os) b (o + i * 32) 24 (hashArr (hs.getD i [])).toList _ (range_below (h i hi) (below_regrown W p.d p.os)) Tryd.underlying24 rfl
    (by have := hash_info (hs.getD i []) (he.getD i hi); rw [Array.length_toList]; exact this)
  rw [Array.toArray_toList] at this
  exact this
/-- the first place at which two lists differ -/
theorem first_other : ∀ (xs ys : List Tree.H), xs.length = ys.length → ∃ d, d ≤ xs.length ∧ (∀ j, j < d → xs.getD j [] = ys.getD j []) ∧ (d < xs.length → xs.getD d [] ≠ ys.getD d []) ∧ (xs == ys) = decide (d = xs.length) := by
  intro xs
  induction xs with
  | nil => intro ys h; cases ys with
    | nil => exact ⟨0, by simp, fun j h => by omega, fun h => by simp at h, by simp⟩
    | cons y ys => simp at h
  | cons x xs ih =>
    intro ys h
    cases ys with
    | nil => simp at h
    | cons y ys =>
      by_cases e : x = y
      · obtain ⟨d, h1, h2, h3, h4⟩ := ih ys (by simpa using h)
        refine ⟨d + 1, by simp; omega, fun j hj => ?_, fun hd => ?_, ?_⟩
        · cases j with
          | zero => simpa using e
          | succ j => simpa using h2 j (by omega)
        · simpa using h3 (by simpa using hd)
        · rw [List.cons_beq_cons, h4, e]; simp
      · exact ⟨0, by simp, fun j h => by omega, fun _ => by simpa using e, by rw [List.cons_beq_cons, beq_eq_false_iff_ne.2 e]; simp⟩
def isBool (b : Bool) (w : World) (e : Ending) (w' : World) : Prop := e = .returned (.bool b) ∧ Below w.heap.size w w'
set_option maxHeartbeats 1000000 in
theorem same_any (va vb : Value) (xs ys : List Tree.H) (w : World) (ha : IsHs w va xs) (hb : IsHs w vb ys) :
    Calls Tryd.prog 29 #[va, vb] w (isBool (xs == ys) w) := by
  obtain ⟨aa, na, ca, rfl, hna⟩ : ∃ a n c, va = .slice a n c ∧ xs.length = n := by
    obtain ⟨_, ⟨rfl, a, c, rfl, _⟩ | ⟨b, o, c, rfl, _⟩⟩ := ha
    · exact ⟨_, _, _, rfl, rfl⟩
    · exact ⟨_, _, _, rfl, rfl⟩
  obtain ⟨ab, nb, cb, rfl, hnb⟩ : ∃ a n c, vb = .slice a n c ∧ ys.length = n := by
    obtain ⟨_, ⟨rfl, a, c, rfl, _⟩ | ⟨b, o, c, rfl, _⟩⟩ := hb
    · exact ⟨_, _, _, rfl, rfl⟩
    · exact ⟨_, _, _, rfl, rfl⟩
  have hnm : na ≤ 9223372036854775807 := by
    obtain ⟨_, ⟨rfl, a, c, e, _⟩ | ⟨b, o, c, e, h1, h2, h3, _⟩⟩ := ha
    · simp at hna; omega
    · omega
  by_cases hne : na = nb
  · subst hne
    obtain ⟨d, h1, h2, h3, h4⟩ := first_other xs ys (by omega)
    have H2 := Lib.hid h2
    have H3 := Lib.hid h3
    rw [hna] at h1 h4
    have H4 := Lib.hid h4
    have HA := Lib.hid ha
    have HB := Lib.hid hb
    have HNA := Lib.hid hna
    have HNB := Lib.hid hnb
    clear h2 h3 h4 ha hb hna hnb
    go_enter Tryd.func29, Tryd.ntmps29
    go_wp2_with fail
    go_loopw [5] (fun i wr => ∃ k : Nat, k ≤ d ∧ i = .int .i64 k ∧ Below w.heap.size w wr) (fun i _ => na - (intOf i).toNat)
    case atStart => exact ⟨0, by omega, rfl, Below.refl _ _⟩
    case round =>
      obtain ⟨k, hk, rfl, hbw⟩ := hrel
      by_cases hlt : k < na
      · obtain ⟨ea, ⟨e, _⟩ | ⟨b, o, c, e, _, _, _, sa⟩⟩ := HA.out.below hbw
        · have := HNA.out; rw [e] at this; simp at this; omega
        obtain ⟨eb, ⟨e', _⟩ | ⟨b', o', c', e', _, _, _, sb⟩⟩ := HB.out.below hbw
        · have := HNB.out; rw [e'] at this; simp at this; omega
        injection e with e1 e2 e3
        injection e' with e1' e2' e3'
        subst e1 e3 e1' e3'
        have LA := Lib.hid (elem_load sa ea k (by rw [HNA.out]; exact hlt))
        have LB := Lib.hid (elem_load sb eb k (by rw [HNB.out]; exact hlt))
        have za := ea.getD k (by rw [HNA.out]; exact hlt)
        have zb := eb.getD k (by rw [HNB.out]; exact hlt)
        have hnq := fun W => hash_neq (xs.getD k []) (ys.getD k []) za zb W
        obtain ⟨x, ex⟩ : ∃ x, xs.getD k [] = x := ⟨_, rfl⟩
        obtain ⟨y, ey⟩ : ∃ y, ys.getD k [] = y := ⟨_, rfl⟩
        have hq : (x == y) = decide (k < d) := by
          by_cases hkd : k < d
          · have := H2.out k hkd
            rw [ex, ey] at this
            rw [this]; simp [hkd]
          · have hkd' : k = d := by omega
            have := H3.out (by rw [HNA.out]; omega)
            rw [← hkd', ex, ey] at this
            rw [beq_eq_false_iff_ne.2 this]; simp [hkd]
        rw [ex, ey, hq] at hnq
        rw [ex] at LA
        rw [ey] at LB
        clear sa sb ea eb za zb e2 e2' ex ey hq HA HB
        have q1 : (0 : Int) ≤ (k : Int) := by omega
        have q2 : (k : Int) < (na : Int) := by omega
        have q3 : (k : Int).toNat = k := by omega
        by_cases hkd : k < d
        · have hdt : (!decide (k < d)) = false := by simp [hkd]
          rw [hdt] at hnq
          go_wp2_with fail
          refine wp_region_quiet_below (by kernel_rfl) (by kernel_rfl) ?_
          repeat (first | (refine quiet_load_row (by rfl) _ (.tmp 19) rfl _ _ rfl _ LA.out ?_; simp only [Act.put, List.setIfInBounds_toArray, List.set_cons_zero, List.set_cons_succ]) | (refine quiet_load_row (by rfl) _ (.tmp 23) rfl _ _ rfl _ LB.out ?_; simp only [Act.put, List.setIfInBounds_toArray, List.set_cons_zero, List.set_cons_succ]) | go_big_quiet_step (fail))
          refine wpQuiet_nil ?_
          intro _ hw'
          obtain ⟨⟨dq, osq⟩, hw''⟩ := hw'
          subst hw''
          go_wp2_with fail
          go_roundw
          case rel => exact ⟨k + 1, by omega, by go_num, hbw.trans ((below_regrown wr dq osq).mono hbw.size)⟩
          case measure => simp [intOf]; omega
        · have hdt : (!decide (k < d)) = true := by simp [hkd]
          rw [hdt] at hnq
          go_wp2_with fail
          refine wp_region_quiet_below (by kernel_rfl) (by kernel_rfl) ?_
          repeat (first | (refine quiet_load_row (by rfl) _ (.tmp 19) rfl _ _ rfl _ LA.out ?_; simp only [Act.put, List.setIfInBounds_toArray, List.set_cons_zero, List.set_cons_succ]) | (refine quiet_load_row (by rfl) _ (.tmp 23) rfl _ _ rfl _ LB.out ?_; simp only [Act.put, List.setIfInBounds_toArray, List.set_cons_zero, List.set_cons_succ]) | go_big_quiet_step (fail))
          refine wpQuiet_nil ?_
          intro _ hw'
          obtain ⟨⟨dq, osq⟩, hw''⟩ := hw'
          subst hw''
          go_wp2_with fail
          go_ret
          exact ⟨ret_bool (by rw [H4.out]; simp; omega), hbw.trans ((below_regrown wr dq osq).mono hbw.size)⟩
      · have hdl : decide ((k : Int) < (na : Int)) = false := by simp; omega
        go_wp2_with fail
        go_ret
        exact ⟨ret_bool (by rw [H4.out]; simp; omega), hbw⟩
  · have hbe : (xs == ys) = false := by
      rw [beq_eq_false_iff_ne]; intro h; rw [h] at hna; omega
    rw [hbe]
    have hdn : ((na : Int) != (nb : Int)) = true := by simp; omega
    clear ha hb hna hnb hbe hne
    go_enter Tryd.func29, Tryd.ntmps29
    go_wp2_with fail
    go_ret
    exact ⟨rfl, Below.refl _ _⟩
end Go.Proofs.YtjedhmoehepbnaaDoor
