/- The contract of Copy. -/
import Derived.Test.YtfligfompdcddaaGreatDoorLedThing
import Derived.Test.YtfligfompdcddaaGreatDoorCloneShelf
import Derived.Deep.RegionHeld3
namespace Go.Proofs.YtfligfompdcddaaGreatDoor
open Go.RowKit Go.Sort Go.Maps
set_option linter.unusedVariables false
theorem own_slice {w : World} {B : Nat} {e : TypeId} {size : Nat} {v : Value} {n : Nat} {xs : List Value} (h : w.ownsRow B e size v n xs) : ∃ ao cap, v = .slice ao n cap := by
  rcases h.2 with ⟨rfl, h0⟩ | ⟨g, cap, cur, rfl, _⟩
  · exact ⟨none, 0, by rw [h0]⟩
  · exact ⟨_, cap, rfl⟩
/-- a thing that a call has made -/
def Fresh (T : Thing) (w w' : World) : Prop := Below w.heap.size w w' ∧ ∃ G, T.On w' G ∧ ∀ k, G k → w.heap.size ≤ k
theorem Has.fresh {P T : Thing} {w0 w w' : World} (h : Has P w0 w) (hf : Fresh T w w') : Has (P.both T) w0 w' := by
  obtain ⟨hb, G, h1, h2⟩ := hf
  exact h.new hb h1 h2
theorem clone_map {w : World} (b : Nat) (hb : ∃ n f, MapAt w b n f) :
    Calls Tryz.prog 42 #[.map (some b)] w fun e w' => e = .returned (.map (some w.heap.size)) ∧ (∀ n f, MapAt w b n f → MapAt w' w.heap.size n f) ∧ Below w.heap.size w w' := by
  obtain ⟨n, f, D, ⟨es, clock, hc, _⟩, _⟩ := hb
  refine (AnyW.maps_Clone Tryz.cloneL b es clock w hc).mono ?_
  rintro e w' ⟨rfl, rfl⟩
  refine ⟨rfl, fun n f h => ?_, (Below.refl _ w).alloc (Nat.le_refl _) _⟩
  obtain ⟨D, ⟨es', clock', hc', h1⟩, h2⟩ := h
  rw [hc] at hc'
  injection hc' with hc'
  injection hc' with e1 e2
  subst e1 e2
  exact ⟨D, ⟨es, clock, heap_alloc_new w _, h1⟩, h2⟩
theorem clone_none (w : World) : Calls Tryz.prog 42 #[.map none] w fun e w' => e = .returned (.map none) ∧ w' = w :=
  AnyW.maps_Clone_nil Tryz.cloneL w
def Copied (L : List Pst) (c : Nat) (w : World) (e : Ending) (w' : World) : Prop := ∃ p, e = .returned (.pointer (some ⟨p, 0, none⟩)) ∧ Fresh (LedT p L c) w w'
set_option maxHeartbeats 4000000 in
set_option maxRecDepth 100000 in
theorem copy_on {p : Nat} {L : List Pst} {c : Nat} {w0 w : World} (h : Has (LedT p L c) w0 w) :
    Calls Tryz.prog 22 #[.pointer (some ⟨p, 0, none⟩)] w (Copied L c w) := by
  obtain ⟨F, ⟨vs, vk, vb, hA, _⟩, _⟩ := h
  have x0 : w.cell? ⟨p, 0, none⟩ = some vs := (cell_of_row _ _ 0 _ _ _ hA.cells).trans rfl
  have x1 : w.cell? ⟨p, 1, none⟩ = some vk := (cell_of_row _ _ 1 _ _ _ hA.cells).trans rfl
  have x2 : w.cell? ⟨p, 2, none⟩ = some vb := (cell_of_row _ _ 2 _ _ _ hA.cells).trans rfl
  have pl : p < w.heap.size := hA.foot_lt p (.inl rfl)
  have KS := Lib.hid (fun (W : World) (hb : Below w.heap.size w W) => (⟨(hb.cell (p := ⟨p, 0, none⟩) pl).trans x0, (hb.cell (p := ⟨p, 1, none⟩) pl).trans x1, (hb.cell (p := ⟨p, 2, none⟩) pl).trans x2⟩ : W.cell? ⟨p, 0, none⟩ = some vs ∧ W.cell? ⟨p, 1, none⟩ = some vk ∧ W.cell? ⟨p, 2, none⟩ = some vb))
  have C0 := Lib.hid (fun (W : World) (hb : Below w.heap.size w W) => clone_any (rows_below hA.row hb) (rowP_one L) hA.ok.2.1)
  have HA := Lib.hid hA
  have OK := Lib.hid hA.ok
  rcases hA.maps with ⟨rfl, rfl, hL⟩ | ⟨bk, bb, f, rfl, rfl, hne, m1, m2, hf⟩
  · have HL := Lib.hid hL
    clear hA hL
    go_enter Tryz.func22, Tryz.ntmps22
    go_wp2_with fail
    go_region_held3 (fun w' => w'.cell? ⟨p, 0, none⟩ = some vs ∧ w'.cell? ⟨p, 1, none⟩ = some (.map none) ∧ w'.cell? ⟨p, 2, none⟩ = some (.map none)) (go_keep)
      (first
        | ((with_reducible refine (clone_none _).mono ?_); rintro e w' ⟨rfl, rfl⟩)
        | ((with_reducible refine (C0.out _ ((Below.refl _ _).drew)).mono ?_); (rintro e w1 ⟨v', rfl, r1, bw1⟩); have bw := Lib.hid (below_join ((Below.refl w.heap.size w).drew) bw1); (obtain ⟨k0, k1, k2⟩ := KS.out _ bw.out); have R1 := Lib.hid r1; (obtain ⟨ao, cap, rfl⟩ := own_slice r1); clear r1 bw1))
    have b3 := (bw.out).alloc bw.out.size (.cells #[.slice ao L.length cap, .map none, .map none] 51)
    have r3 := rows_below R1.out ((Below.refl _ _).alloc (Nat.le_refl _) (.cells #[.slice ao L.length cap, .map none, .map none] 51))
    have l3 : LedAt (w'.alloc (.cells #[.slice ao L.length cap, .map none, .map none] 51)) w'.heap.size (.slice ao L.length cap) (.map none) (.map none) L c :=
      ⟨heap_alloc_new _ _, ownsRow_base_a r3 (Nat.zero_le _), OK.out, .inl ⟨rfl, rfl, HL.out⟩⟩
    have DONE : Hid (Copied L c w (.returned (.pointer (some ⟨w'.heap.size, 0, none⟩))) (w'.alloc (.cells #[.slice ao L.length cap, .map none, .map none] 51))) := by
      refine ⟨_, rfl, b3, _, ⟨_, _, _, l3, rfl⟩, ?_⟩
      rintro k (rfl | hk | hk | hk)
      · exact bw.out.size
      · exact (rows_lt R1.out k (by cases ao with | none => cases hk | some a => exact hk)).1
      · cases hk
      · cases hk
    clear b3 r3 l3
    go_wp2_with fail
    go_ret
    exact DONE.out
  · have MK := Lib.hid (fun (W : World) (hb : Below w.heap.size w W) => m1.below hb)
    have MB := Lib.hid (fun (W : World) (hb : Below w.heap.size w W) => m2.below hb)
    have HF := Lib.hid hf
    have NE := Lib.hid hne
    clear hA m1 m2 hf hne
    go_enter Tryz.func22, Tryz.ntmps22
    go_wp2_with fail
    go_region_held3 (fun w' => w'.cell? ⟨p, 0, none⟩ = some vs ∧ w'.cell? ⟨p, 1, none⟩ = some (.map (some bk)) ∧ w'.cell? ⟨p, 2, none⟩ = some (.map (some bb))) (go_keep)
      (first
        | ((with_reducible refine (clone_map bb ⟨_, _, MB.out _ bw2.out⟩).mono ?_); (rintro e w3 ⟨rfl, m3, b3⟩); have bw3 := Lib.hid (below_join bw2.out b3); (obtain ⟨k6, k7, k8⟩ := KS.out _ bw3.out); have M3 := Lib.hid m3; have BB3 := Lib.hid b3; clear m3 b3)
        | ((with_reducible refine (clone_map bk ⟨_, _, MK.out _ bw.out⟩).mono ?_); (rintro e w2 ⟨rfl, m2, b2⟩); have bw2 := Lib.hid (below_join bw.out b2); (obtain ⟨k3, k4, k5⟩ := KS.out _ bw2.out); have M2 := Lib.hid m2; have BB2 := Lib.hid b2; clear m2 b2)
        | ((with_reducible refine (C0.out _ ((Below.refl _ _).drew)).mono ?_); (rintro e w1 ⟨v', rfl, r1, bw1⟩); have bw := Lib.hid (below_join ((Below.refl w.heap.size w).drew) bw1); (obtain ⟨k0, k1, k2⟩ := KS.out _ bw.out); have R1 := Lib.hid r1; (obtain ⟨ao, cap, rfl⟩ := own_slice r1); clear r1 bw1))
    generalize hfin : w3.alloc (.cells #[.slice ao L.length cap, .map (some w1.heap.size), .map (some w2.heap.size)] 51) = W4 at *
    have bl : Below w3.heap.size w3 W4 := by rw [← hfin]; exact (Below.refl _ _).alloc (Nat.le_refl _) _
    have hn : W4.heap[w3.heap.size]? = some (.cells #[.slice ao L.length cap, .map (some w1.heap.size), .map (some w2.heap.size)] 51 (0, 0)) := by rw [← hfin]; exact heap_alloc_new _ _
    have m1' := ((M2.out _ _ (MK.out _ bw.out)).below BB3.out).below bl
    have m2' := (M3.out _ _ (MB.out _ bw2.out)).below bl
    have r3 := rows_below (rows_below (rows_below R1.out BB2.out) BB3.out) bl
    have s1 : w1.heap.size < w2.heap.size := (M2.out _ _ (MK.out _ bw.out)).lt
    have l3 : LedAt W4 w3.heap.size (.slice ao L.length cap) (.map (some w1.heap.size)) (.map (some w2.heap.size)) L c :=
      ⟨hn, ownsRow_base_a r3 (Nat.zero_le _), OK.out, .inr ⟨_, _, f, rfl, rfl, by omega, m1', m2', HF.out⟩⟩
    have DONE : Hid (Copied L c w (.returned (.pointer (some ⟨w3.heap.size, 0, none⟩))) W4) := by
      refine ⟨_, rfl, below_join bw3.out bl, _, ⟨_, _, _, l3, rfl⟩, ?_⟩
      rintro k (rfl | hk | hk | hk)
      · exact bw3.out.size
      · exact (rows_lt R1.out k (by cases ao with | none => cases hk | some a => exact hk)).1
      · injection hk with hk; subst hk; exact bw.out.size
      · injection hk with hk; subst hk; exact bw2.out.size
    clear bl hn m1' m2' r3 s1 l3 hfin
    go_wp2_with fail
    go_ret
    exact DONE.out
end Go.Proofs.YtfligfompdcddaaGreatDoor
