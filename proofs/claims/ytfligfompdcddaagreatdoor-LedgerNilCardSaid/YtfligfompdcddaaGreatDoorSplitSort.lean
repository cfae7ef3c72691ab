/- The order of indices by their rests; what a stable insertion sort makes of the indices (plain). -/
import Derived.Sort.LotA
import Derived.Sort.WalkA
namespace Go.Proofs.YtfligfompdcddaaGreatDoor
open Go.Sort
set_option linter.unusedVariables false
namespace Led
/-- greater rests first, of equal ones the earlier -/
def bef (r : List Int) (i j : Nat) : Bool := decide (r.getD j 0 < r.getD i 0) || (decide (r.getD i 0 = r.getD j 0) && decide (i < j))
/-- the place of an index in this order -/
def rk (r : List Int) (i : Nat) : Nat := (List.range r.length).countP fun j => bef r j i
theorem bef_iff (r : List Int) (i j : Nat) : bef r i j = true ↔ (r.getD j 0 < r.getD i 0 ∨ (r.getD i 0 = r.getD j 0 ∧ i < j)) := by
  unfold bef
  simp
theorem bef_false (r : List Int) (i j : Nat) : bef r i j = false ↔ ¬ (r.getD j 0 < r.getD i 0 ∨ (r.getD i 0 = r.getD j 0 ∧ i < j)) := by
  rw [← bef_iff]; simp
theorem bef_total (r : List Int) {i j : Nat} (h : i ≠ j) (hf : bef r j i = false) : bef r i j = true := by
  rw [bef_iff]
  rw [bef_false] at hf
  omega
theorem bef_asymm (r : List Int) {i j : Nat} (h : bef r i j = true) : bef r j i = false := by
  rw [bef_false]
  rw [bef_iff] at h
  omega
theorem bef_irrefl (r : List Int) (i : Nat) : bef r i i = false := by rw [bef_false]; omega
theorem bef_trans (r : List Int) {i j k : Nat} (h : bef r i j = true) (h' : bef r j k = true) : bef r i k = true := by
  rw [bef_iff] at *
  omega
theorem rk_lt_of_bef (r : List Int) {i j : Nat} (hi : i < r.length) (h : bef r i j = true) : rk r i < rk r j := by
  unfold rk
  have h1 : (List.range r.length).countP (fun k => bef r k i) + 1 ≤ (List.range r.length).countP (fun k => bef r k j) := by
    have e : (List.range r.length).countP (fun k => bef r k i || decide (k = i)) = (List.range r.length).countP (fun k => bef r k i) + (List.range r.length).countP (fun k => decide (k = i)) := by
      have gen : ∀ l : List Nat, l.countP (fun k => bef r k i || decide (k = i)) = l.countP (fun k => bef r k i) + l.countP (fun k => decide (k = i)) := by
        intro l
        induction l with
        | nil => rfl
        | cons a l ih =>
          simp only [List.countP_cons, ih]
          by_cases ha : a = i
          · subst ha; simp [bef_irrefl]; omega
          · simp [ha]; omega
      exact gen _
    have e2 : (List.range r.length).countP (fun k => decide (k = i)) = 1 := by
      have : (List.range r.length).countP (fun k => decide (k = i)) = (List.range r.length).count i := by
        unfold List.count; congr 1
      rw [this, List.Nodup.count List.nodup_range, if_pos (List.mem_range.2 hi)]
    rw [← e2, ← e]
    refine List.countP_mono_left fun k hk hp => ?_
    simp only [Bool.or_eq_true, decide_eq_true_eq] at hp
    rcases hp with hp | rfl
    · exact bef_trans r hp h
    · exact h
  omega
theorem rk_inj (r : List Int) {i j : Nat} (hi : i < r.length) (hj : j < r.length) (h : rk r i = rk r j) : i = j := by
  by_cases e : i = j
  · exact e
  · cases hb : bef r i j with
    | true => have := rk_lt_of_bef r hi hb; omega
    | false =>
      have := rk_lt_of_bef r hj (bef_total r (Ne.symm e) hb)
      omega
/-- a sorted list of all indices has each at its place -/
theorem rk_sorted (r : List Int) (s : List Nat) (hp : s.Perm (List.range r.length)) (hs : s.Pairwise fun i j => bef r i j = true) (k : Nat) (hk : k < s.length) : rk r s[k] = k := by
  unfold rk
  rw [← hp.countP_eq]
  have e : s = s.take k ++ s[k] :: s.drop (k + 1) := by simp
  have h1 : ∀ x ∈ s.take k, bef r x s[k] = true := by
    intro x hx
    obtain ⟨m, hm, rfl⟩ := List.mem_iff_getElem.1 hx
    rw [List.length_take] at hm
    rw [List.getElem_take]
    exact List.pairwise_iff_getElem.1 hs m k (by omega) hk (by omega)
  have h2 : ∀ x ∈ s.drop (k + 1), bef r x s[k] = false := by
    intro x hx
    obtain ⟨m, hm, rfl⟩ := List.mem_iff_getElem.1 hx
    rw [List.length_drop] at hm
    rw [List.getElem_drop]
    exact bef_asymm r (List.pairwise_iff_getElem.1 hs k (k + 1 + m) hk (by omega) (by omega))
  have c1 : (s.take k).countP (fun x => bef r x s[k]) = k := by
    rw [List.countP_eq_length.2 h1, List.length_take]; omega
  have c2 : (s.drop (k + 1)).countP (fun x => bef r x s[k]) = 0 := by
    rw [List.countP_eq_zero]; intro x hx; rw [h2 x hx]; simp
  calc s.countP (fun x => bef r x s[k]) = (s.take k ++ s[k] :: s.drop (k + 1)).countP (fun x => bef r x s[k]) := by rw [← e]
    _ = k := by rw [List.countP_append, List.countP_cons, c1, c2, bef_irrefl]; simp
end Led
section
variable {m : Nat}
/-- two comparisons that agree where the left one stood behind the right one sort the indices alike -/
structure InsJ (i j : Nat) (d : Array (Fin (m + 1))) : Prop where
  size : d.size = m + 1
  at' : d[j]!.val = i
  low : ∀ p, p ≤ i → p ≠ j → d[p]!.val < i
  high : ∀ p, i < p → p < m + 1 → d[p]!.val = p
theorem insInner_same {lt lt' : Fin (m + 1) → Fin (m + 1) → Bool} (h : ∀ x y : Fin (m + 1), y < x → lt x y = lt' x y) {i : Nat} (hi : i < m + 1) : ∀ (j : Nat) (d : Array (Fin (m + 1))), j ≤ i → InsJ i j d →
    insInner lt 0 j d = insInner lt' 0 j d ∧ ∃ j', j' ≤ i ∧ InsJ i j' (insInner lt 0 j d)
  | 0, d, hj, hJ => by
    unfold insInner
    exact ⟨rfl, 0, hj, hJ⟩
  | j + 1, d, hj, hJ => by
    unfold insInner
    have e : lt d[j + 1]! d[j]! = lt' d[j + 1]! d[j]! := h _ _ (by
      show d[j]!.val < d[j + 1]!.val
      rw [hJ.at']
      exact hJ.low j (by omega) (by omega))
    rw [← e]
    split
    · refine insInner_same h hi j _ (by omega) ?_
      have g := swp_get d (i := j + 1) (j := j) (by rw [hJ.size]; omega) (by rw [hJ.size]; omega)
      refine ⟨by rw [swp_size]; exact hJ.size, ?_, ?_, ?_⟩
      · rw [g]; simp; exact hJ.at'
      · intro p hp hpj
        rw [g]
        by_cases h1 : p = j + 1
        · subst h1; simp; exact hJ.low j (by omega) (by omega)
        · simp only [h1, hpj, if_false]; exact hJ.low p hp h1
      · intro p hp hpm
        rw [g]
        simp only [show p ≠ j by omega, show p ≠ j + 1 by omega, if_false]
        exact hJ.high p hp hpm
    · exact ⟨rfl, j + 1, hj, hJ⟩
theorem insOuter_same {lt lt' : Fin (m + 1) → Fin (m + 1) → Bool} (h : ∀ x y : Fin (m + 1), y < x → lt x y = lt' x y) : ∀ (n i : Nat) (d : Array (Fin (m + 1))), m + 1 - i = n → d.size = m + 1 → (∀ p, p < i → d[p]!.val < i) → (∀ p, i ≤ p → p < m + 1 → d[p]!.val = p) →
    insOuter lt 0 (m + 1) i d = insOuter lt' 0 (m + 1) i d
  | 0, i, d, hn, _, _, _ => by rw [insOuter_stop _ _ _ _ _ (by omega), insOuter_stop _ _ _ _ _ (by omega)]
  | n + 1, i, d, hn, hs, hl, hh => by
    rw [insOuter_go _ _ _ _ _ (by omega), insOuter_go lt' _ _ _ _ (by omega)]
    obtain ⟨e, j', hj', hJ⟩ := insInner_same h (i := i) (by omega) i d (Nat.le_refl _) ⟨hs, hh i (Nat.le_refl _) (by omega), fun p hp hne => hl p (by omega), fun p hp hm => hh p (by omega) hm⟩
    rw [← e]
    refine insOuter_same h n (i + 1) _ (by omega) hJ.size ?_ (fun p hp hm => hJ.high p (by omega) hm)
    intro p hp
    by_cases hpj : p = j'
    · subst hpj; rw [hJ.at']; omega
    · have := hJ.low p (by omega) hpj; omega
/-- the indices in order -/
def idxs (m : Nat) : Array (Fin (m + 1)) := Array.ofFn id
theorem idxs_size (m : Nat) : (idxs m).size = m + 1 := by simp [idxs]
theorem idxs_get (p : Nat) (h : p < m + 1) : (idxs m)[p]!.val = p := by
  rw [getElem!_pos _ p (by rw [idxs_size]; exact h)]
  simp [idxs]
theorem idxs_sort {lt lt' : Fin (m + 1) → Fin (m + 1) → Bool} (h : ∀ x y : Fin (m + 1), y < x → lt x y = lt' x y) : insertionSort lt (idxs m) 0 (m + 1) = insertionSort lt' (idxs m) 0 (m + 1) := by
  unfold insertionSort
  exact insOuter_same h (m + 1 - 1) 1 _ rfl (idxs_size m) (fun p hp => by rw [idxs_get p (by omega)]; exact hp) (fun p _ hp => idxs_get p hp)
theorem befF_swo (r : List Int) : SWO (fun x y : Fin (m + 1) => Led.bef r x y) :=
  ⟨fun x => Led.bef_irrefl r x, fun x y z h h' => Led.bef_trans r h h', fun x y z h h' => by rw [Led.bef_false] at *; omega⟩
/-- what the sort leaves: the index at each place has that rank -/
theorem idxs_sorted (r : List Int) (hr : r.length = m + 1) (lt : Fin (m + 1) → Fin (m + 1) → Bool) (hlt : ∀ x y : Fin (m + 1), lt x y = decide (r.getD y 0 < r.getD x 0)) :
    (insertionSort lt (idxs m) 0 (m + 1)).size = m + 1 ∧ (∀ k, k < m + 1 → Led.rk r (insertionSort lt (idxs m) 0 (m + 1))[k]!.val = k) ∧ ((insertionSort lt (idxs m) 0 (m + 1)).toList.map Fin.val).Perm (List.range r.length) := by
  rw [idxs_sort (lt := lt) (lt' := fun x y : Fin (m + 1) => Led.bef r x y) (fun x y hyx => by
    rw [hlt, Bool.eq_iff_iff, Led.bef_iff]
    have : y.val < x.val := hyx
    simp
    omega)]
  obtain ⟨⟨hsz, _, hperm⟩, hsort⟩ := insertionSort_holds (befF_swo r) (idxs m) 0 (m + 1) (by omega) (by rw [idxs_size]; omega)
  generalize insertionSort (fun x y : Fin (m + 1) => Led.bef r x y) (idxs m) 0 (m + 1) = d at *
  rw [idxs_size] at hsz
  have ext : ∀ (a : Array (Fin (m + 1))), a.size = m + 1 → a.extract 0 (m + 1) = a := fun a ha => by
    have := Array.extract_size (xs := a)
    rwa [ha] at this
  have e1 := ext d hsz
  have e2 := ext (idxs m) (idxs_size m)
  rw [e1, e2] at hperm
  have hp2 : (d.toList.map Fin.val).Perm (List.range r.length) := by
    refine (hperm.map Fin.val).trans ?_
    have : (idxs m).toList.map Fin.val = List.range (m + 1) := by
      apply List.ext_getElem
      · simp [idxs]
      · intro i h1 h2
        rw [List.getElem_range, List.getElem_map]
        have h3 : i < m + 1 := by simpa using h2
        have := idxs_get i h3
        rw [getElem!_pos _ i (by rw [idxs_size]; exact h3)] at this
        simpa using this
    rw [this, hr]
  refine ⟨hsz, fun k hk => ?_, hp2⟩
  have hnd : (d.toList.map Fin.val).Nodup := hp2.nodup_iff.2 List.nodup_range
  have get : ∀ p (h : p < m + 1), (d.toList.map Fin.val)[p]'(by simp [hsz]; exact h) = d[p]!.val := by
    intro p h
    rw [getElem!_pos _ p (by rw [hsz]; exact h)]
    simp
  have hpw : (d.toList.map Fin.val).Pairwise fun i j => Led.bef r i j = true := by
    rw [List.pairwise_iff_getElem]
    intro i j hi hj hij
    have hi' : i < m + 1 := by simpa [hsz] using hi
    have hj' : j < m + 1 := by simpa [hsz] using hj
    refine Led.bef_total r ?_ ?_
    · intro e
      have := (List.getElem_inj hnd).1 e
      omega
    · rw [get i hi', get j hj']
      exact hsort i j (Nat.zero_le _) hij hj'
  have := Led.rk_sorted r _ hp2 hpw k (by simp [hsz]; exact hk)
  rw [get k hk] at this
  exact this
end
end Go.Proofs.YtfligfompdcddaaGreatDoor
