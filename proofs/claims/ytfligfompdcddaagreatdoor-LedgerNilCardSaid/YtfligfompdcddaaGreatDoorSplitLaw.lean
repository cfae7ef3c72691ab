/- Shares of an amount (plain): what Split gives, and what its parts are like. -/
import Derived.Test.YtfligfompdcddaaGreatDoorSplitSort
namespace Go.Proofs.YtfligfompdcddaaGreatDoor
open Go.Sort
set_option linter.unusedVariables false
namespace Led
def share (a : Int) (ws : List Int) (i : Nat) : Int := a * ws.getD i 0 / ws.sum
def rests (a : Int) (ws : List Int) : List Int := ws.map fun w => a * w % ws.sum
def left (a : Int) (ws : List Int) : Int := a - (ws.map fun w => a * w / ws.sum).sum
/-- the parts, when t indices have had one more -/
def part (a : Int) (ws : List Int) (t : Nat) (i : Nat) : Int := share a ws i + if rk (rests a ws) i < t then 1 else 0
def parts (a : Int) (ws : List Int) : List Int := (List.range ws.length).map (part a ws (left a ws).toNat)
def fit (a : Int) (ws : List Int) : Bool := decide (0 ≤ a) && decide (a ≤ 1000000000) && decide (ws.length ≤ 1000) && ws.all (fun w => decide (0 ≤ w) && decide (w ≤ 1000000)) && !(decide (ws.sum = 0))
/-- P23.4 -/
def split (a : Int) (ws : List Int) : Option (List Int) := if fit a ws then some (parts a ws) else none
/-- amount and weights are as they must be -/
structure Fit (a : Int) (ws : List Int) : Prop where
  a0 : 0 ≤ a
  a1 : a ≤ 1000000000
  len : ws.length ≤ 1000
  w : ∀ w ∈ ws, 0 ≤ w ∧ w ≤ 1000000
  sum : ws.sum ≠ 0
theorem fit_iff (a : Int) (ws : List Int) : fit a ws = true ↔ Fit a ws := by
  unfold fit
  simp only [Bool.and_eq_true, decide_eq_true_eq, List.all_eq_true, Bool.not_eq_true', decide_eq_false_iff_not]
  exact ⟨fun ⟨⟨⟨⟨h1, h2⟩, h3⟩, h4⟩, h5⟩ => ⟨h1, h2, h3, h4, h5⟩, fun h => ⟨⟨⟨⟨h.a0, h.a1⟩, h.len⟩, h.w⟩, h.sum⟩⟩
theorem sum_le {ws : List Int} (h : ∀ w ∈ ws, 0 ≤ w ∧ w ≤ 1000000) : 0 ≤ ws.sum ∧ ws.sum ≤ 1000000 * (ws.length : Int) := by
  induction ws with
  | nil => simp
  | cons w ws ih =>
    have h1 := h w (by simp)
    have h2 := ih (fun v hv => h v (by simp [hv]))
    simp only [List.sum_cons, List.length_cons]
    omega
theorem sum_take_le {ws : List Int} (h : ∀ w ∈ ws, 0 ≤ w ∧ w ≤ 1000000) (k : Nat) : 0 ≤ (ws.take k).sum ∧ (ws.take k).sum ≤ ws.sum := by
  have h1 := sum_le (ws := ws.take k) (fun w hw => h w (List.mem_of_mem_take hw))
  have h2 := sum_le (ws := ws.drop k) (fun w hw => h w (List.mem_of_mem_drop hw))
  have e : ws.sum = (ws.take k).sum + (ws.drop k).sum := by rw [← List.sum_append, List.take_append_drop]
  omega
theorem Fit.pos {a : Int} {ws : List Int} (h : Fit a ws) : 1 ≤ ws.sum ∧ ws.sum ≤ 1000000000 := by
  have := sum_le h.w
  have h2 := h.sum
  have h3 := h.len
  omega
theorem Fit.len_pos {a : Int} {ws : List Int} (h : Fit a ws) : 0 < ws.length := by
  cases ws with
  | nil => exact absurd rfl h.sum
  | cons w ws => simp
theorem Fit.mul {a : Int} {ws : List Int} (h : Fit a ws) {w : Int} (hw : w ∈ ws) : 0 ≤ a * w ∧ a * w ≤ 1000000000000000 := by
  have h1 := h.w w hw
  exact ⟨Int.mul_nonneg h.a0 h1.1, by
    have := Int.mul_le_mul h.a1 h1.2 h1.1 (by omega : (0 : Int) ≤ 1000000000)
    omega⟩
theorem sum_split (a T : Int) (hT : 0 < T) (l : List Int) : a * l.sum = T * (l.map fun w => a * w / T).sum + (l.map fun w => a * w % T).sum := by
  induction l with
  | nil => simp
  | cons w l ih =>
    simp only [List.sum_cons, List.map_cons]
    have := Int.mul_ediv_add_emod (a * w) T
    rw [Int.mul_add, Int.mul_add, ih]
    omega
theorem sum_mod_le (a T : Int) (hT : 0 < T) (l : List Int) : 0 ≤ (l.map fun w => a * w % T).sum ∧ (l.map fun w => a * w % T).sum ≤ (T - 1) * (l.length : Int) := by
  induction l with
  | nil => simp
  | cons w l ih =>
    simp only [List.sum_cons, List.map_cons, List.length_cons]
    have h1 := Int.emod_nonneg (a * w) (show T ≠ 0 by omega)
    have h2 := Int.emod_lt_of_pos (a * w) hT
    have e : (T - 1) * ((l.length + 1 : Nat) : Int) = (T - 1) * (l.length : Int) + (T - 1) := by
      rw [Int.natCast_add, Int.mul_add]; simp
    rw [e]
    omega
theorem left_mul {a : Int} {ws : List Int} (h : Fit a ws) : ws.sum * left a ws = (rests a ws).sum := by
  have h1 := sum_split a ws.sum (by have := h.pos; omega) ws
  unfold left rests
  rw [Int.mul_sub, Int.mul_comm ws.sum a]
  omega
theorem left_le {a : Int} {ws : List Int} (h : Fit a ws) : 0 ≤ left a ws ∧ left a ws < ws.length := by
  have h1 := left_mul h
  have hp := h.pos
  have h2 := sum_mod_le a ws.sum (by omega) ws
  have hl := h.len_pos
  have e : (rests a ws).sum = (ws.map fun w => a * w % ws.sum).sum := rfl
  rw [← e, ← h1] at h2
  constructor
  · by_cases hn : 0 ≤ left a ws
    · exact hn
    have := Int.mul_le_mul_of_nonneg_left (show left a ws ≤ -1 by omega) (show 0 ≤ ws.sum by omega)
    omega
  · by_cases hn : left a ws < ws.length
    · exact hn
    replace hn : (ws.length : Int) ≤ left a ws := by omega
    have h3 := Int.mul_le_mul_of_nonneg_left hn (show 0 ≤ ws.sum by omega)
    have e2 : (ws.sum - 1) * (ws.length : Int) = ws.sum * (ws.length : Int) - ws.length := by rw [Int.sub_mul]; simp
    omega
theorem rests_length (a : Int) (ws : List Int) : (rests a ws).length = ws.length := by simp [rests]
theorem parts_length (a : Int) (ws : List Int) : (parts a ws).length = ws.length := by simp [parts]
theorem rests_getD (a : Int) (ws : List Int) {i : Nat} (hi : i < ws.length) : (rests a ws).getD i 0 = a * ws.getD i 0 % ws.sum := by
  unfold rests
  simp [hi]
theorem mem_getD {ws : List Int} {i : Nat} (hi : i < ws.length) : ws.getD i 0 ∈ ws := by
  have : ws.getD i 0 = ws[i] := by simp [hi]
  rw [this]; exact List.getElem_mem hi
/-- the sorted indices -/
theorem sorted_exists (r : List Int) (h : 0 < r.length) : ∃ s : List Nat, s.Perm (List.range r.length) ∧ ∀ k (hk : k < s.length), rk r s[k] = k := by
  obtain ⟨m, hm⟩ : ∃ m, r.length = m + 1 := ⟨r.length - 1, by omega⟩
  obtain ⟨h1, h2, h3⟩ := idxs_sorted r hm (fun x y => decide (r.getD y 0 < r.getD x 0)) (fun _ _ => rfl)
  refine ⟨_, h3, ?_⟩
  intro k hk
  have hk' : k < m + 1 := by
    rw [List.length_map, Array.length_toList, h1] at hk
    exact hk
  have := h2 k hk'
  rw [getElem!_pos _ k (by rw [h1]; exact hk')] at this
  simpa using this
theorem rk_surj (r : List Int) {t : Nat} (h : t < r.length) : ∃ i, i < r.length ∧ rk r i = t := by
  obtain ⟨s, hp, hs⟩ := sorted_exists r (by omega)
  have hl := hp.length_eq
  rw [List.length_range] at hl
  exact ⟨s[t], List.mem_range.1 (hp.mem_iff.1 (List.getElem_mem _)), hs t (by omega)⟩
theorem sum_map_add (l : List Nat) (f g : Nat → Int) : (l.map fun i => f i + g i).sum = (l.map f).sum + (l.map g).sum := by
  induction l with
  | nil => rfl
  | cons a l ih => simp only [List.map_cons, List.sum_cons, ih]; omega
theorem sum_perm {l l' : List Int} (h : l.Perm l') : l.sum = l'.sum := by
  induction h with
  | nil => rfl
  | cons x _ ih => simp [ih]
  | swap x y l => simp; omega
  | trans _ _ h1 h2 => rw [h1, h2]
theorem sum_below (t n : Nat) (h : t ≤ n) : ((List.range n).map fun k => if k < t then (1 : Int) else 0).sum = t := by
  induction n with
  | zero => simp; omega
  | succ n ih =>
    rw [List.range_succ, List.map_append, List.sum_append]
    by_cases e : t = n + 1
    · subst e
      have : ∀ k ∈ List.range n, (if k < n + 1 then (1 : Int) else 0) = 1 := fun k hk => if_pos (by have := List.mem_range.1 hk; omega)
      rw [List.map_congr_left this, List.map_const', List.length_range, List.sum_replicate_int]
      simp
    · rw [ih (by omega)]
      simp
      omega
/-- how many have one more -/
theorem sum_rk (r : List Int) {t : Nat} (h : t ≤ r.length) (h0 : 0 < r.length) : ((List.range r.length).map fun i => if rk r i < t then (1 : Int) else 0).sum = t := by
  obtain ⟨s, hp, hs⟩ := sorted_exists r h0
  have hl := hp.length_eq
  rw [List.length_range] at hl
  rw [← sum_perm (hp.map fun i => if rk r i < t then (1 : Int) else 0)]
  have e : (s.map fun i => if rk r i < t then (1 : Int) else 0) = (List.range s.length).map fun k => if k < t then (1 : Int) else 0 := by
    apply List.ext_getElem
    · simp
    · intro k h1 h2
      have h3 : k < s.length := by simpa using h1
      rw [List.getElem_map, List.getElem_map, List.getElem_range, hs k h3]
  rw [e, hl]
  exact sum_below t _ h
theorem map_range_getD (ws : List Int) (f : Int → Int) : (List.range ws.length).map (fun i => f (ws.getD i 0)) = ws.map f := by
  apply List.ext_getElem
  · simp
  · intro i h1 h2
    have h3 : i < ws.length := by simpa using h2
    simp [h3]
theorem parts_getD (a : Int) (ws : List Int) {i : Nat} (hi : i < ws.length) : (parts a ws).getD i 0 = part a ws (left a ws).toNat i := by
  unfold parts
  rw [List.getD_eq_getElem?_getD, List.getElem?_map, List.getElem?_range hi]
  rfl
/-- the parts have the amount as their sum -/
theorem parts_sum {a : Int} {ws : List Int} (h : Fit a ws) : (parts a ws).sum = a := by
  unfold parts part
  have hl := left_le h
  rw [sum_map_add (List.range ws.length) (share a ws) (fun i => if rk (rests a ws) i < (left a ws).toNat then 1 else 0)]
  have e1 := sum_rk (rests a ws) (t := (left a ws).toNat) (by rw [rests_length]; omega) (by rw [rests_length]; exact h.len_pos)
  rw [rests_length] at e1
  rw [e1]
  have e2 : (List.range ws.length).map (share a ws) = ws.map fun w => a * w / ws.sum := map_range_getD ws (fun w => a * w / ws.sum)
  rw [e2]
  have e3 : left a ws = a - (ws.map fun w => a * w / ws.sum).sum := rfl
  omega
theorem share_le {a : Int} {ws : List Int} (h : Fit a ws) (i : Nat) (hi : i < ws.length) : 0 ≤ share a ws i ∧ share a ws i ≤ 1000000000000000 ∧ 0 ≤ a * ws.getD i 0 ∧ a * ws.getD i 0 ≤ 1000000000000000 := by
  have h1 := h.mul (mem_getD hi)
  have hp := h.pos
  refine ⟨Int.ediv_nonneg h1.1 (by omega), ?_, h1.1, h1.2⟩
  have := Int.ediv_le_self ws.sum h1.1
  unfold share
  omega
theorem part_le {a : Int} {ws : List Int} (h : Fit a ws) (t i : Nat) (hi : i < ws.length) : 0 ≤ part a ws t i ∧ part a ws t i ≤ 1000000000000001 := by
  have := share_le h i hi
  unfold part
  split <;> omega
/-- each part differs from its exact share by less than 1 -/
theorem part_near {a : Int} {ws : List Int} (h : Fit a ws) (t i : Nat) (hi : i < ws.length) (hz : (rests a ws).getD i 0 = 0 → rk (rests a ws) i < t → False) : -ws.sum < part a ws t i * ws.sum - a * ws.getD i 0 ∧ part a ws t i * ws.sum - a * ws.getD i 0 < ws.sum := by
  have hp := h.pos
  have e := Int.mul_ediv_add_emod (a * ws.getD i 0) ws.sum
  have h1 := Int.emod_nonneg (a * ws.getD i 0) (show ws.sum ≠ 0 by omega)
  have h2 := Int.emod_lt_of_pos (a * ws.getD i 0) (show 0 < ws.sum by omega)
  rw [rests_getD a ws hi] at hz
  unfold part
  have e2 : share a ws i * ws.sum = ws.sum * (a * ws.getD i 0 / ws.sum) := by unfold share; rw [Int.mul_comm]
  split
  · rename_i hr
    rw [Int.add_mul, e2]
    have : ¬ (a * ws.getD i 0 % ws.sum = 0) := fun h0 => hz h0 hr
    omega
  · rw [Int.add_mul, e2]
    omega
/-- who has one more has a rest -/
theorem rest_pos {a : Int} {ws : List Int} (h : Fit a ws) {i : Nat} (hi : i < ws.length) (hz : (rests a ws).getD i 0 = 0) : ¬ rk (rests a ws) i < (left a ws).toNat := by
  intro hr
  have hp := h.pos
  have hl := left_mul h
  have h0 := left_le h
  have nn : ∀ r ∈ rests a ws, 0 ≤ r ∧ r ≤ ws.sum - 1 := by
    intro r hr
    obtain ⟨w, _, rfl⟩ := List.mem_map.1 hr
    have h1 := Int.emod_nonneg (a * w) (show ws.sum ≠ 0 by omega)
    have h2 := Int.emod_lt_of_pos (a * w) (show 0 < ws.sum by omega)
    omega
  have hs : ∀ l : List Int, (∀ r ∈ l, 0 ≤ r ∧ r ≤ ws.sum - 1) → l.sum ≤ (ws.sum - 1) * ((l.countP fun r => decide (0 < r) : Nat) : Int) := by
    intro l
    induction l with
    | nil => simp
    | cons r l ih =>
      intro hl
      have h1 := hl r (by simp)
      have h2 := ih (fun x hx => hl x (by simp [hx]))
      rw [List.sum_cons, List.countP_cons]
      by_cases e : 0 < r
      · rw [if_pos (by simpa using e), Int.natCast_add, Int.mul_add]
        simp; omega
      · rw [if_neg (by simpa using e)]
        simp; omega
  have hc : (rests a ws).countP (fun r => decide (0 < r)) ≤ rk (rests a ws) i := by
    have e : (rests a ws).countP (fun r => decide (0 < r)) = (List.range (rests a ws).length).countP (fun j => decide (0 < (rests a ws).getD j 0)) := by
      have := map_range_getD (rests a ws) (fun x => x)
      rw [List.map_id'] at this
      conv => lhs; rw [← this]
      rw [List.countP_map]
      rfl
    rw [e]
    unfold rk
    refine List.countP_mono_left fun j hj hp => ?_
    rw [bef_iff, hz]
    left
    simpa using hp
  have h3 := hs _ nn
  have h4 := Int.mul_le_mul_of_nonneg_left (show (((rests a ws).countP fun r => decide (0 < r) : Nat) : Int) ≤ left a ws - 1 by omega) (show 0 ≤ ws.sum - 1 by omega)
  rw [← hl] at h3
  have e : ws.sum * left a ws = (ws.sum - 1) * left a ws + left a ws := by rw [Int.sub_mul]; simp
  have e2 : (ws.sum - 1) * (left a ws - 1) = (ws.sum - 1) * left a ws - (ws.sum - 1) := by rw [Int.mul_sub]; simp
  omega
theorem part_close {a : Int} {ws : List Int} (h : Fit a ws) (i : Nat) (hi : i < ws.length) : -ws.sum < part a ws (left a ws).toNat i * ws.sum - a * ws.getD i 0 ∧ part a ws (left a ws).toNat i * ws.sum - a * ws.getD i 0 < ws.sum :=
  part_near h _ i hi (fun hz hr => rest_pos h hi hz hr)
/-- a greater weight never has a lesser part; of equal weights the earlier has no lesser one -/
theorem part_mono {a : Int} {ws : List Int} (h : Fit a ws) {i k : Nat} (hi : i < ws.length) (hk : k < ws.length) (hw : ws.getD k 0 < ws.getD i 0 ∨ (ws.getD k 0 = ws.getD i 0 ∧ i < k)) : part a ws (left a ws).toNat k ≤ part a ws (left a ws).toNat i := by
  have hp := h.pos
  by_cases ha0 : a = 0
  · subst ha0
    have e : left 0 ws = 0 := by
      unfold left
      have : ∀ l : List Int, (l.map fun w => 0 * w / ws.sum).sum = 0 := by
        intro l
        induction l with
        | nil => rfl
        | cons w l ih => simp only [List.map_cons, List.sum_cons, ih]; simp
      rw [this]; rfl
    unfold part share
    rw [e]
    simp
  have hle : a * ws.getD k 0 ≤ a * ws.getD i 0 := Int.mul_le_mul_of_nonneg_left (by omega) h.a0
  have hs : share a ws k ≤ share a ws i := Int.ediv_le_ediv (by omega) hle
  unfold part
  by_cases e : share a ws k = share a ws i
  · have hr : rk (rests a ws) i < rk (rests a ws) k ∨ i = k := by
      by_cases hik : i = k
      · exact .inr hik
      · refine .inl (rk_lt_of_bef _ (by rw [rests_length]; exact hi) ?_)
        rw [bef_iff, rests_getD a ws hi, rests_getD a ws hk]
        have e1 := Int.mul_ediv_add_emod (a * ws.getD i 0) ws.sum
        have e2 := Int.mul_ediv_add_emod (a * ws.getD k 0) ws.sum
        unfold share at e
        rw [e] at e2
        rcases hw with hw | ⟨hw, hlt⟩
        · by_cases hq : a * ws.getD k 0 = a * ws.getD i 0
          · have := Int.eq_of_mul_eq_mul_left ha0 hq
            omega
          · left; omega
        · right; rw [hw]; exact ⟨rfl, hlt⟩
    rcases hr with hr | rfl
    · split <;> split <;> omega
    · omega
  · split <;> split <;> omega
/-- the reference's pick: the first of the greatest rests that are left -/
def leftover (a : Int) (ws : List Int) (t i : Nat) : Int := if rk (rests a ws) i < t then -1 else (rests a ws).getD i 0
/-- b is the best of the first k -/
def Best (f : Nat → Int) (k b : Nat) : Prop := ∀ j, j < k → j ≠ b → f j < f b ∨ (f j = f b ∧ b < j)
theorem Best.next {f : Nat → Int} {k b : Nat} (h : Best f k b) (hb : b ≤ k) : (f b < f k → Best f (k + 1) k) ∧ (¬ f b < f k → Best f (k + 1) b) := by
  refine ⟨fun hlt j hj hne => ?_, fun hge j hj hne => ?_⟩
  · by_cases e : j = b
    · subst e; exact .inl hlt
    · have := h j (by omega) e
      left; omega
  · by_cases e : j = k
    · subst e
      omega
    · exact h j (by omega) hne
theorem best_is {a : Int} {ws : List Int} (h : Fit a ws) {t b : Nat} (ht : t < ws.length) (hb : b < ws.length) (hB : Best (leftover a ws t) ws.length b) : rk (rests a ws) b = t := by
  obtain ⟨i, hi, hr⟩ := rk_surj (rests a ws) (t := t) (by rw [rests_length]; exact ht)
  rw [rests_length] at hi
  by_cases e : i = b
  · rw [← e]; exact hr
  · exfalso
    have h1 := hB i hi e
    have nn : 0 ≤ (rests a ws).getD i 0 := by rw [rests_getD a ws hi]; exact Int.emod_nonneg _ (by have := h.pos; omega)
    have e1 : leftover a ws t i = (rests a ws).getD i 0 := by unfold leftover; rw [if_neg (by omega)]
    rw [e1] at h1
    by_cases hlt : rk (rests a ws) b < t
    · have e2 : leftover a ws t b = -1 := by unfold leftover; rw [if_pos hlt]
      rw [e2] at h1
      omega
    · have e2 : leftover a ws t b = (rests a ws).getD b 0 := by unfold leftover; rw [if_neg hlt]
      rw [e2] at h1
      have hne : rk (rests a ws) b ≠ t := fun e3 => e (rk_inj _ (by rw [rests_length]; exact hi) (by rw [rests_length]; exact hb) (hr.trans e3.symm))
      have hbi : bef (rests a ws) b i = true := by rw [bef_iff]; omega
      have := rk_lt_of_bef (rests a ws) (by rw [rests_length]; exact hb) hbi
      omega
/-- .. and its step -/
theorem leftover_next {a : Int} {ws : List Int} {t b : Nat} (hb : b < ws.length) (hr : rk (rests a ws) b = t) (i : Nat) (hi : i < ws.length) : leftover a ws (t + 1) i = if i = b then -1 else leftover a ws t i := by
  unfold leftover
  by_cases e : i = b
  · subst e; rw [if_pos (by omega), if_pos rfl]
  · have : rk (rests a ws) i ≠ t := fun e3 => e (rk_inj _ (by rw [rests_length]; exact hi) (by rw [rests_length]; exact hb) (e3.trans hr.symm))
    rw [if_neg e]
    by_cases h2 : rk (rests a ws) i < t
    · rw [if_pos (by omega), if_pos h2]
    · rw [if_neg (by omega), if_neg h2]
theorem part_next {a : Int} {ws : List Int} {t b : Nat} (hb : b < ws.length) (hr : rk (rests a ws) b = t) (i : Nat) (hi : i < ws.length) : part a ws (t + 1) i = part a ws t i + if i = b then 1 else 0 := by
  unfold part
  by_cases e : i = b
  · subst e; rw [if_pos (by omega), if_neg (by omega), if_pos rfl]; omega
  · have : rk (rests a ws) i ≠ t := fun e3 => e (rk_inj _ (by rw [rests_length]; exact hi) (by rw [rests_length]; exact hb) (e3.trans hr.symm))
    rw [if_neg e]
    by_cases h2 : rk (rests a ws) i < t
    · rw [if_pos (by omega), if_pos h2]; omega
    · rw [if_neg (by omega), if_neg h2]; omega
end Led
end Go.Proofs.YtfligfompdcddaaGreatDoor
