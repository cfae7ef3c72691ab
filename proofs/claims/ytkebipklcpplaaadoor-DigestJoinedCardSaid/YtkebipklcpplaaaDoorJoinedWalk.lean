/- The walk of the law DigestJoined. -/
import Derived.Test.YtkebipklcpplaaaDoorLengthsWalk
import Derived.Deep.RegionHeld3
namespace Go.Proofs.YtkebipklcpplaaaDoor
open Go.RowKit
set_option linter.unusedVariables false

theorem tabs_held {W : World} {A B C D : Prop} (h : A ∧ B ∧ C ∧ Hid (Tabs W) ∧ D) : Tabs W := h.2.2.2.1.out
theorem joined_below {W V : World} {A B C D : Prop} (h : A ∧ B ∧ C ∧ D ∧ Hid (Below V.heap.size V W)) : Below V.heap.size V W := h.2.2.2.2.out
theorem joined_keep {W w1 w : World} {b : Nat} {p q : Value} (h : W.cell? ⟨b, 0, none⟩ = some p ∧ W.cell? ⟨b, 1, none⟩ = some q ∧ b < W.heap.size ∧ Hid (Tabs W) ∧ Hid (Below w.heap.size w W)) (hb : Below W.heap.size W w1) :
    w1.cell? ⟨b, 0, none⟩ = some p ∧ w1.cell? ⟨b, 1, none⟩ = some q ∧ b < w1.heap.size ∧ Hid (Tabs w1) ∧ Hid (Below w.heap.size w w1) :=
  ⟨(hb.cell (p := ⟨b, 0, none⟩) h.2.2.1).trans h.1, (hb.cell (p := ⟨b, 1, none⟩) h.2.2.1).trans h.2.1, Nat.lt_of_lt_of_le h.2.2.1 hb.size, Lib.hid (h.2.2.2.1.out.below hb), Lib.hid (below_join h.2.2.2.2.out hb)⟩
set_option maxHeartbeats 2000000 in
set_option maxRecDepth 100000 in
theorem walk_DigestJoined (s : ByteArray) (at_ : Int) (hs : s.size ≤ maxLen) (hm : (Lit.int .i64 at_).wf = true) (w : World) (hT : Tabs w) :
    Calls Tryd.prog 8 #[.string s, .int .i64 at_] w fun e w' => e = .returned (.bool true) ∧ Below w.heap.size w w' := by
  have hn1 : -9223372036854775808 ≤ at_ ∧ at_ ≤ 9223372036854775807 := by simpa [Lit.wf, IntKind.min, IntKind.max, IntKind.signed, IntKind.bits] using hm
  clear hm
  unfold maxLen at hs
  have HT := Lib.hid hT
  clear hT
  go_enter Tryd.func8, Tryd.ntmps8
  go_wp2_with fail
  refine (sanity3_any _ HT.out).mono ?_
  rintro e w1 ⟨rfl, hb1⟩
  have HT1 := Lib.hid (HT.out.below hb1)
  go_wp2_with fail
  have hx : (s.extract 0 (min (s.size : Int) 300).toNat).size ≤ 300 := by simp; omega
  have hxs : min (min (s.size : Int) 300).toNat s.size = (s.extract 0 (min (s.size : Int) 300).toNat).size := by simp
  rw [hxs]
  clear hxs
  generalize s.extract 0 (min (s.size : Int) 300).toNat = x at *
  refine (mod_any _ _ _ (by omega) (by omega) (by omega) (by omega)).mono ?_
  rintro e w' ⟨rfl, rfl⟩
  obtain ⟨k, hk⟩ := Int.eq_ofNat_of_zero_le (show 0 ≤ at_ % ((x.size : Int) + 1) from Int.emod_nonneg _ (by omega))
  have hk2 : k ≤ x.size := by
    have := Int.emod_lt_of_pos at_ (show 0 < (x.size : Int) + 1 by omega)
    omega
  rw [hk]
  clear hk
  have q1 : (k : Int) ≤ (x.size : Int) := by omega
  go_wp2_with fail
  have hk3 : (k : Int).toNat = k := by omega
  go_region
  have HT2 : Hid (Tabs ((w1.alloc (Obj.cells #[Value.string (x.extract 0 k), Value.string (x.extract k x.size)] 34)).drew)) := HT1.out.below ((Below.refl _ _).alloc (Nat.le_refl _) _).drew
  have hb2 : Below w1.heap.size w1 ((w1.alloc (Obj.cells #[Value.string (x.extract 0 k), Value.string (x.extract k x.size)] 34)).drew) := ((Below.refl _ _).alloc (Nat.le_refl _) _).drew
  have hrow : ((w1.alloc (Obj.cells #[Value.string (x.extract 0 k), Value.string (x.extract k x.size)] 34)).drew).heap[w1.heap.size]? = some (.cells #[Value.string (x.extract 0 k), Value.string (x.extract k x.size)] 34 (0, 0)) := heap_alloc_new _ _
  have c0 : ((w1.alloc (Obj.cells #[Value.string (x.extract 0 k), Value.string (x.extract k x.size)] 34)).drew).cell? ⟨w1.heap.size, 0, none⟩ = some (.string (x.extract 0 k)) := by rw [cell_of_row _ _ _ _ _ _ hrow]; rfl
  have c1 : ((w1.alloc (Obj.cells #[Value.string (x.extract 0 k), Value.string (x.extract k x.size)] 34)).drew).cell? ⟨w1.heap.size, 1, none⟩ = some (.string (x.extract k x.size)) := by rw [cell_of_row _ _ _ _ _ _ hrow]; rfl
  have hsz : w1.heap.size < ((w1.alloc (Obj.cells #[Value.string (x.extract 0 k), Value.string (x.extract k x.size)] 34)).drew).heap.size := by simp
  clear hrow
  generalize (w1.alloc (Obj.cells #[Value.string (x.extract 0 k), Value.string (x.extract k x.size)] 34)).drew = W2 at *
  have happ : x.extract 0 k ++ x.extract k x.size = x := by
    rw [ByteArray.extract_append_extract]; simp [hk2]
  have hq : (x.extract k x.size).size ≤ 400 := by simp; omega
  have hp : (x.extract 0 k).size ≤ 400 := by simp; omega
  generalize x.extract 0 k = p at *
  generalize x.extract k x.size = q at *
  have hpq : ¬ (9223372036854775807 < p.size + q.size) := by omega
  have hpq2 : ¬ (p.size + q.size > 9223372036854775807) := by omega
  obtain ⟨h, eh, lh⟩ := some_sum x
  have EH := Lib.hid eh
  have heq := fun W => hash_eql h h lh lh W
  clear eh lh
  obtain ⟨g, eg, lg⟩ := some_sum q
  have EG := Lib.hid eg
  have geq := fun W => hash_eql g g lg lg W
  clear eg lg
  have HB2 := Lib.hid (below_join hb1 hb2)
  have tabs0 := HT2.out.below (Below.refl W2.heap.size W2).drew
  clear hb1 hb2 HT1 HT hs hn1 hk2 q1 hk3
  go_wp2_with fail
  go_region_held3 (fun w' => w'.cell? ⟨w1.heap.size, 0, none⟩ = some (.string p) ∧ w'.cell? ⟨w1.heap.size, 1, none⟩ = some (.string q) ∧ w1.heap.size < w'.heap.size ∧ Hid (Tabs w') ∧ Hid (Below w.heap.size w w')) (first | exact ⟨c0, c1, hsz, Lib.hid (HT2.out.below (Below.refl _ _).drew), Lib.hid HB2.out.drew⟩ | exact joined_keep (by assumption) (by assumption))
    (first | (go_at_call 16; (with_reducible refine (sum_is x h _ (by omega) (by first | exact tabs0 | assumption | exact tabs_held (by assumption)) EH.out).mono ?_); rintro e w' ⟨rfl, hbx⟩) | (go_at_call 16; (with_reducible refine (sum_is q g _ (by omega) (by first | exact tabs0 | assumption | exact tabs_held (by assumption)) EG.out).mono ?_); rintro e w' ⟨rfl, hbx⟩) | (go_at_call 17; (with_reducible refine (rsum_is x h _ (by omega) EH.out).mono ?_); rintro e w' ⟨rfl, hbx⟩) | (go_at_call 17; (with_reducible refine (rsum_is q g _ (by omega) EG.out).mono ?_); rintro e w' ⟨rfl, hbx⟩))
  go_wp2_with fail
  go_ret
  exact ⟨by first | rfl | exact ret_bool (by simp), joined_below (by assumption)⟩
end Go.Proofs.YtkebipklcpplaaaDoor
