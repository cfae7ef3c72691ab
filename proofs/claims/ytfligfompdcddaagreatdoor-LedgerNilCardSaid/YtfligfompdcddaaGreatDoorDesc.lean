/- The indices of a list, those of greater elements first: contracts of the comparison, of the stable sort (at most 19 elements), and of descending. -/
import Derived.Test.YtfligfompdcddaaGreatDoorSplitSort
import Derived.Test.YtfligfompdcddaaGreatDoorInsShelf
import Derived.Test.YtfligfompdcddaaGreatDoorIntsFull
import Derived.Shelf.SlSortCmp.Insertion
import Derived.Deep.DeepCutAuto
import Derived.Laws.EntriesVeiled
import Derived.Laws.Entries
import Derived.LoopTactic
namespace Go.Proofs.YtfligfompdcddaaGreatDoor
open Go.RowKit Go.Sort Go.Lib
set_option linter.unusedVariables false
def cmpI (a b : Int) : Int := if a < b then -1 else if b < a then 1 else 0
theorem ltOf_cmp {α : Type} [Inhabited α] (g : α → Int) (x y : α) : ltOf (fun x y => cmpI (g y) (g x)) x y = decide (g y < g x) := by
  unfold ltOf cmpI
  by_cases h1 : g y < g x
  · simp [h1]
  · by_cases h2 : g x < g y <;> simp [h1, h2]
set_option maxHeartbeats 1000000 in
theorem compare_any (a b : Int) (w : World) : Calls Tryz.prog 62 #[.int .i64 a, .int .i64 b] w fun e w' => e = .returned (.int .i64 (cmpI a b)) ∧ w' = w := by
  by_cases h1 : a < b
  · have e : cmpI a b = -1 := by unfold cmpI; rw [if_pos h1]
    have E := Lib.hid e
    clear e
    go_enter Tryz.func62, Tryz.ntmps62
    go_wp2
    go_ret
    exact ⟨by rw [E.out]; rfl, rfl⟩
  · by_cases h2 : b < a
    · have e : cmpI a b = 1 := by unfold cmpI; rw [if_neg h1, if_pos h2]
      have E := Lib.hid e
      clear e
      go_enter Tryz.func62, Tryz.ntmps62
      go_wp2
      go_ret
      exact ⟨by rw [E.out]; rfl, rfl⟩
    · have e : cmpI a b = 0 := by unfold cmpI; rw [if_neg h1, if_neg h2]
      have E := Lib.hid e
      clear e
      go_enter Tryz.func62, Tryz.ntmps62
      go_wp2
      go_ret
      exact ⟨by rw [E.out]; rfl, rfl⟩
set_option maxHeartbeats 1000000 in
/-- the closure: it compares the elements with two numbers, the second one first -/
theorem closure_any (r : List Int) (W : World) (pl gr cap : Nat) (hl : r.length ≤ maxLen) (hp : W.cell? ⟨pl, 0, none⟩ = some (.slice (some ⟨gr, 0, none⟩) r.length cap)) (hr : ∀ j, j < r.length → W.cell? ⟨gr, j, none⟩ = some (.int .i64 (r.getD j 0))) (x y : Nat) (hx : x < r.length) (hy : y < r.length) :
    Calls Tryz.prog 61 #[.int .i64 x, .int .i64 y, .pointer (some ⟨pl, 0, none⟩)] W fun e w' => e = .returned (.int .i64 (cmpI (r.getD y 0) (r.getD x 0))) ∧ ∃ q, w' = W.drewN q := by
  have cx := hr x hx
  have cy := hr y hy
  have x0 : (0 : Int) ≤ x := by omega
  have y0 : (0 : Int) ≤ y := by omega
  have x1 : (x : Int) < r.length := by omega
  have y1 : (y : Int) < r.length := by omega
  have x2 : (x : Int).toNat = x := by omega
  have y2 : (y : Int).toNat = y := by omega
  have CC : Hid (∀ V, Calls Tryz.prog 62 #[.int .i64 (r.getD y 0), .int .i64 (r.getD x 0)] V fun e w' => e = .returned (.int .i64 (cmpI (r.getD y 0) (r.getD x 0))) ∧ w' = V) := fun V => compare_any _ _ V
  generalize r.getD y 0 = vy at *
  generalize r.getD x 0 = vx at *
  generalize cmpI vy vx = cv at *
  obtain ⟨n, hn⟩ : ∃ n, r.length = n := ⟨_, rfl⟩
  rw [hn] at hp x1 y1
  unfold maxLen at hl
  clear hr hl hn hx hy
  go_enter Tryz.func61, Tryz.ntmps61
  go_wp2_with fail
  go_quiet ((go_at_call 62; exact Calls.quiet_of_same (CC.out _)))
  go_wp2_with fail
  go_ret
  exact ⟨rfl, _, rfl⟩
set_option maxHeartbeats 1000000 in
theorem stable_any {w w1 : World} (g cap pl n : Nat) (hn : n ≤ 19)
    (h : Calls Tryz.prog 98 #[.slice (some ⟨g, 0, none⟩) n cap, .int .i64 0, .int .i64 n, .func (.func 61) #[] #[.pointer (some ⟨pl, 0, none⟩)]] w fun e w' => e = .returned (.tuple #[]) ∧ ∃ q, w' = w1.drewN q) :
    Calls Tryz.prog 75 #[.slice (some ⟨g, 0, none⟩) n cap, .int .i64 n, .func (.func 61) #[] #[.pointer (some ⟨pl, 0, none⟩)]] w fun e w' => e = .returned (.tuple #[]) ∧ ∃ q, w' = w1.drewN q := by
  have h1 : decide ((20 : Int) ≤ (n : Int)) = false := by simp; omega
  have h2 : decide (20 ≤ n) = false := by simp; omega
  have h3 : decide ((20 : Int) < (n : Int)) = false := by simp; omega
  have h4 : decide (20 < n) = false := by simp; omega
  have H := Lib.hid h
  clear h
  go_enter Tryz.func75, Tryz.ntmps75
  go_wp2_with fail
  go_loop [7, 8] (fun a b => a = .int .i64 0 ∧ b = .int .i64 20) (fun _ _ => 0)
  case atStart => exact ⟨rfl, rfl⟩
  case round =>
    obtain ⟨rfl, rfl⟩ := hrel
    go_wp2_with fail
    refine H.out.mono ?_
    rintro e w' ⟨rfl, q, rfl⟩
    go_wp2_with fail
    go_loop [6] (fun a => a = .int .i64 20) (fun _ => 0)
    case atStart => exact rfl
    case round =>
      obtain rfl := hrel
      go_wp2_with fail
      go_end0
      exact ⟨rfl, q, rfl⟩
set_option maxHeartbeats 1000000 in
theorem sortStable_any {w w1 : World} (g cap pl n : Nat) (hn : n ≤ 19)
    (h : Calls Tryz.prog 98 #[.slice (some ⟨g, 0, none⟩) n cap, .int .i64 0, .int .i64 n, .func (.func 61) #[] #[.pointer (some ⟨pl, 0, none⟩)]] w fun e w' => e = .returned (.tuple #[]) ∧ ∃ q, w' = w1.drewN q) :
    Calls Tryz.prog 60 #[.slice (some ⟨g, 0, none⟩) n cap, .func (.func 61) #[] #[.pointer (some ⟨pl, 0, none⟩)]] w fun e w' => e = .returned (.tuple #[]) ∧ ∃ q, w' = w1.drewN q := by
  have H := Lib.hid (stable_any g cap pl n hn h)
  clear h
  go_enter Tryz.func60, Tryz.ntmps60
  go_wp2_with fail
  refine H.out.mono ?_
  rintro e w' ⟨rfl, q, rfl⟩
  go_wp2_with fail
  go_end0
  exact ⟨rfl, q, rfl⟩
/-- what descending gives: a row of all indices, each at its place -/
def Desc (r : List Int) (w : World) (e : Ending) (w' : World) : Prop :=
  ∃ (g : Nat) (s : List Nat), e = .returned (.slice (some ⟨g, 0, none⟩) r.length r.length) ∧ IntsFull w' g (s.map fun x : Nat => (x : Int)) ∧ w.heap.size ≤ g ∧ Below w.heap.size w w' ∧ s.length = r.length ∧ ∀ k, k < r.length → s.getD k 0 < r.length ∧ Led.rk r (s.getD k 0) = k
theorem int_info : (Tryz.prog.info? 3).map (fun i => (i.zero, i.size, i.bytes)) = some (some (.int .i64 0), 1, 8) := by kernel_rfl
theorem sort_indices (r : List Int) (m : Nat) (hm : r.length = m + 1) (h19 : r.length ≤ 19) {W : World} (g cap pl gr gcap : Nat) (hF : IntsFull W g ((List.range r.length).map fun x : Nat => (x : Int)))
    (hp : W.cell? ⟨pl, 0, none⟩ = some (.slice (some ⟨gr, 0, none⟩) r.length gcap)) (hr : ∀ j, j < r.length → W.cell? ⟨gr, j, none⟩ = some (.int .i64 (r.getD j 0))) (hpg : pl ≠ g) (hgg : gr ≠ g) :
    Calls Tryz.prog 60 #[.slice (some ⟨g, 0, none⟩) r.length cap, .func (.func 61) #[] #[.pointer (some ⟨pl, 0, none⟩)]] W fun e w' => e = .returned (.tuple #[]) ∧ ∃ q, w' = (putRow (fun x : Fin (m + 1) => Value.int .i64 (x.val : Int)) W g 0 (insertionSort (fun x y : Fin (m + 1) => decide (r.getD y 0 < r.getD x 0)) (idxs m) 0 (m + 1))).drewN q := by
  have hH : Holds (fun x : Fin (m + 1) => Value.int .i64 (x.val : Int)) W g 0 (idxs m) := by
    intro j hj
    rw [idxs_size] at hj
    refine ⟨?_, by rw [Nat.zero_add]; exact hF.frozen j⟩
    rw [Nat.zero_add, hF.cell j (by simp; omega)]
    have e := idxs_get j hj
    have hjr : j < r.length := by omega
    show some (Value.int .i64 _) = some (Value.int .i64 (((idxs m)[j]!).val : Int))
    rw [e]
    simp [hjr]
  have hc : CmpReads Tryz.prog 61 #[.pointer (some ⟨pl, 0, none⟩)] (fun x : Fin (m + 1) => Value.int .i64 (x.val : Int)) (fun x y => cmpI (r.getD y 0) (r.getD x 0)) g 0 (idxs m).size W := by
    intro mm os dk hdk x y
    have cc : ∀ a v, a.block ≠ g → W.cell? a = some v → (sortWorld (fun x : Fin (m + 1) => Value.int .i64 (x.val : Int)) W g 0 mm dk os).cell? a = some v := by
      intro a v hne ha
      unfold sortWorld
      have hl := block_lt_of_cell ha
      rw [cell?_grow _ _ _ (by rw [size_putRow]; exact hl), cell?_putRow_other _ _ _ _ _ _ (.inl hne)]
      exact ha
    exact closure_any r _ pl gr gcap (by unfold maxLen; omega) (cc _ _ hpg hp) (fun j hj => cc _ _ hgg (hr j hj)) x y (by omega) (by omega)
  have h := Any.insertionSortCmpFunc_one Tryz.insL (fun x : Fin (m + 1) => Value.int .i64 (x.val : Int)) (fun _ => rfl) (fun x y => cmpI (r.getD y 0) (r.getD x 0)) 61 #[.pointer (some ⟨pl, 0, none⟩)] g 0 cap 0 (m + 1) (idxs m) W
    (enters_of Tryz.func61 (by kernel_rfl) rfl) hc hH (by omega) (by rw [idxs_size]; omega) (by rw [idxs_size]; omega)
  rw [idxs_size] at h
  have e : ltOf (fun x y : Fin (m + 1) => cmpI (r.getD y 0) (r.getD x 0)) = fun x y : Fin (m + 1) => decide (r.getD y 0 < r.getD x 0) := by
    funext x y
    exact ltOf_cmp (fun x : Fin (m + 1) => r.getD x 0) x y
  rw [e] at h
  rw [hm]
  exact sortStable_any g cap pl (m + 1) (by omega) h
set_option maxHeartbeats 2000000 in
set_option maxRecDepth 100000 in
theorem desc_any (r : List Int) (w : World) (gr gcap : Nat) (h0 : 0 < r.length) (h19 : r.length ≤ 19) (hr : ∀ j, j < r.length → w.cell? ⟨gr, j, none⟩ = some (.int .i64 (r.getD j 0))) :
    Calls Tryz.prog 47 #[.slice (some ⟨gr, 0, none⟩) r.length gcap] w (Desc r w) := by
  obtain ⟨m, hm⟩ : ∃ m, r.length = m + 1 := ⟨r.length - 1, by omega⟩
  have hl := block_lt_of_cell (hr 0 h0)
  have HR := Lib.hid hr
  have HM := Lib.hid hm
  have HL := Lib.hid hl
  have H19 := Lib.hid h19
  obtain ⟨n, hn⟩ : ∃ n, r.length = n := ⟨_, rfl⟩
  obtain ⟨i0, hi, hz0, hz1, hz2⟩ := info_parts int_info
  have hN := Lib.hid hn
  have n19 : n ≤ 19 := by omega
  have cb : (w.alloc (.cells #[.slice (some ⟨gr, 0, none⟩) n gcap] 55)).cell? ⟨w.heap.size, 0, none⟩ = some (.slice (some ⟨gr, 0, none⟩) n gcap) := (cell_of_row _ _ 0 _ _ _ (heap_alloc_new w _)).trans rfl
  have BA : Hid (Below w.heap.size w (w.alloc (.cells #[.slice (some ⟨gr, 0, none⟩) n gcap] 55))) := (Below.refl _ _).alloc (Nat.le_refl _) _
  have SZ : Hid ((w.alloc (.cells #[.slice (some ⟨gr, 0, none⟩) n gcap] 55)).heap.size = w.heap.size + 1) := by show _ = _; simp
  rw [hn]
  clear hr hm hl h19 hn h0
  go_enter Tryz.func47, Tryz.ntmps47
  go_wp2_with (at_make; refine wpList_make_full _ rfl _ _ 55 rfl (w.heap.size + 1) 3 i0 (.int .i64 0) 1 Tryz.underlying55 hi hz0 hz1 .i64 .i64 _ _ n rfl rfl rfl rfl (by rw [hz2]; omega) (by unfold maxLen; omega) (by simp) ?_)
  generalize w.alloc (.cells #[.slice (some ⟨gr, 0, none⟩) n gcap] 55) = W0 at *
  rw [← SZ.out]
  intro w1 hown hgrow
  have F1 := Lib.hid (IntsFull.made (by rw [Nat.mul_one]; exact hown))
  have B1 : Hid (Below W0.heap.size W0 w1) := (Below.refl _ _).grown hgrow (Nat.le_refl _) (fun j hj => by cases hj)
  clear hown hgrow hi hz0 hz1 hz2
  obtain ⟨g, hg⟩ : ∃ g, W0.heap.size = g := ⟨_, rfl⟩
  have G := Lib.hid hg
  rw [hg] at F1 B1 ⊢
  clear hg
  go_wp2_with fail
  go_loopw [10] (fun i wr => ∃ k : Nat, k ≤ n ∧ i = .int .i64 k ∧ IntsFull wr g ((List.range n).map fun x : Nat => if x < k then (x : Int) else 0) ∧ Below g W0 wr) (fun i _ => n - (intOf i).toNat)
  case atStart =>
    refine ⟨0, Nat.zero_le _, rfl, ?_, B1.out⟩
    have : ((List.range n).map fun x : Nat => if x < 0 then (x : Int) else 0) = List.replicate n 0 := by
      apply List.ext_getElem
      · simp
      · intro i h1 h2; simp
    rw [this]
    exact F1.out
  case round =>
    obtain ⟨k, hk, rfl, hF, hB⟩ := hrel
    have FK := Lib.hid hF
    have BK := Lib.hid hB
    clear hF hB F1 B1
    by_cases hlt : k < n
    · have d1 : decide ((k : Int) < (n : Int)) = true := by simp; omega
      have c1 := FK.out.cell k (by simp; omega)
      have f1 := FK.out.frozen k
      have e1 : (((List.range n).map fun x : Nat => if x < k then (x : Int) else 0)).getD k 0 = 0 := by simp [hlt]
      rw [e1] at c1
      clear e1
      go_wp2_with fail
      go_roundw
      case rel =>
        refine ⟨k + 1, by omega, by go_num, ?_, ?_⟩
        · have := FK.out.set k (k : Int)
          have e : ((List.range n).map fun x : Nat => if x < k then (x : Int) else 0).set k k = (List.range n).map fun x : Nat => if x < k + 1 then (x : Int) else 0 := by
            apply List.ext_getElem
            · simp
            · intro i h1 h2
              rw [List.getElem_set]
              by_cases e : k = i
              · subst e; simp
              · simp only [if_neg e, List.getElem_map, List.getElem_range]
                by_cases h3 : i < k
                · rw [if_pos h3, if_pos (by omega)]
                · rw [if_neg h3, if_neg (by omega)]
          rw [e] at this
          exact this
        · exact BK.out.setCell (Nat.le_refl _) _
      case measure => simp [intOf]; omega
    · obtain rfl : k = n := by omega
      have FK2 : IntsFull wr g ((List.range r.length).map fun x : Nat => (x : Int)) := by
        rw [hN.out]
        have e : ((List.range k).map fun x : Nat => if x < k then (x : Int) else 0) = (List.range k).map fun x : Nat => (x : Int) := by
          apply List.map_congr_left
          intro x hx
          rw [if_pos (List.mem_range.1 hx)]
        rw [← e]
        exact FK.out
      have gw : g = w.heap.size + 1 := by rw [← G.out]; exact SZ.out
      have ck : wr.cell? ⟨w.heap.size, 0, none⟩ = some (.slice (some ⟨gr, 0, none⟩) r.length gcap) := by
        rw [hN.out, BK.out.cell (p := ⟨w.heap.size, 0, none⟩) (by show w.heap.size < g; omega)]
        exact cb
      have rk' : ∀ j, j < r.length → wr.cell? ⟨gr, j, none⟩ = some (.int .i64 (r.getD j 0)) := by
        intro j hj
        have h1 := HL.out
        rw [BK.out.cell (p := ⟨gr, j, none⟩) (by show gr < g; omega), BA.out.cell (p := ⟨gr, j, none⟩) h1]
        exact HR.out j hj
      have SI := sort_indices r m HM.out H19.out g k w.heap.size gr gcap FK2 ck rk' (by omega) (by have := HL.out; omega)
      rw [hN.out] at SI
      have SI := Lib.hid SI
      have FK3 := Lib.hid FK2
      have GW := Lib.hid gw
      clear FK2 ck rk' gw
      go_wp2_with fail
      refine SI.out.mono ?_
      rintro e w' ⟨rfl, q, rfl⟩
      have hs := Lib.hid (idxs_sorted r HM.out (fun x y : Fin (m + 1) => decide (r.getD y 0 < r.getD x 0)) (fun _ _ => rfl))
      have F4 := Lib.hid (full_putRow (fun x : Fin (m + 1) => (x.val : Int)) FK3.out (insertionSort (fun x y : Fin (m + 1) => decide (r.getD y 0 < r.getD x 0)) (idxs m) 0 (m + 1)) (by rw [hs.out.1]; simp [HM.out]) q)
      have B4 := Lib.hid (below_putRow (fun x : Fin (m + 1) => Value.int .i64 (x.val : Int)) (BA.out.trans (BK.out.mono (by rw [GW.out]; omega))) (show w.heap.size ≤ g by rw [GW.out]; omega) (insertionSort (fun x y : Fin (m + 1) => decide (r.getD y 0 < r.getD x 0)) (idxs m) 0 (m + 1)) q)
      generalize (putRow (fun x : Fin (m + 1) => Value.int .i64 (x.val : Int)) wr g 0 (insertionSort (fun x y : Fin (m + 1) => decide (r.getD y 0 < r.getD x 0)) (idxs m) 0 (m + 1))).drewN q = W5 at *
      go_wp2_with fail
      go_ret
      refine ⟨g, (insertionSort (fun x y : Fin (m + 1) => decide (r.getD y 0 < r.getD x 0)) (idxs m) 0 (m + 1)).toList.map Fin.val, by rw [hN.out]; rfl, ?_, by rw [GW.out]; omega, B4.out, by rw [List.length_map, Array.length_toList, hs.out.1, HM.out], ?_⟩
      · have := F4.out
        rw [List.map_map]
        exact this
      · intro j hj
        have hj' : j < m + 1 := by have := HM.out; omega
        have h2 := hs.out.2.1 j hj'
        have e : ((insertionSort (fun x y : Fin (m + 1) => decide (r.getD y 0 < r.getD x 0)) (idxs m) 0 (m + 1)).toList.map Fin.val).getD j 0 = (insertionSort (fun x y : Fin (m + 1) => decide (r.getD y 0 < r.getD x 0)) (idxs m) 0 (m + 1))[j]!.val := by
          rw [getElem!_pos _ j (by rw [hs.out.1]; exact hj')]
          have hjs : j < (insertionSort (fun x y : Fin (m + 1) => decide (r.getD y 0 < r.getD x 0)) (idxs m) 0 (m + 1)).size := by rw [hs.out.1]; exact hj'
          rw [List.getD_eq_getElem?_getD, List.getElem?_map, Array.getElem?_toList, Array.getElem?_eq_getElem hjs]
          rfl
        rw [e]
        exact ⟨by rw [HM.out]; exact Fin.isLt _, h2⟩
end Go.Proofs.YtfligfompdcddaaGreatDoor
