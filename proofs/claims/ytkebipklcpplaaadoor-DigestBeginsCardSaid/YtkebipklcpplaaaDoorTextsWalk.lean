/- The walk of the law DigestTexts. -/
import Derived.Test.YtkebipklcpplaaaDoorChainsWalk
import Derived.Test.YtkebipklcpplaaaDoorHashLoad
import Derived.Test.YtkebipklcpplaaaDoorQuiet
namespace Go.Proofs.YtkebipklcpplaaaDoor
open Go.RowKit Go.Sort
set_option linter.unusedVariables false

theorem text_beq (a b : List UInt8) (ha : a.length = 32) (hb : b.length = 32) : ((⟨(Sha.text a).toArray⟩ : ByteArray).toList == (⟨(Sha.text b).toArray⟩ : ByteArray).toList) = (a == b) := by
  rw [ByteArray.toList_eq, ByteArray.toList_eq]
  show (Sha.text a == Sha.text b) = _
  by_cases e : a = b
  · subst e; simp
  · rw [beq_eq_false_iff_ne.2 e, beq_eq_false_iff_ne.2 (fun h => e (text_inj a b (by omega) h))]
/-- hashes lie in memory: loaded as a whole in every world of the class -/
theorem hash_load {w : World} {b : Nat} {l : List UInt8} {t : TypeId} {fr : Nat × Nat} (hl : l.length = 32) (hb : w.heap[b]? = some (.cells (hashArr l) t fr)) :
    ∀ w', (∃ p : Regrown, w' = grow (redrawn w p.d) p.os) → (loadVar 24 ⟨b, 0, none⟩).run Tryd.prog w' = .ok (.agg (hashArr l)) w' :=
  load_regrown hb Tryd.underlying24 rfl (by rw [show (hashArr l).size = 32 by simp [hashArr, hl]]; kernel_rfl)
/-- a hash stored into a new variable -/
theorem store_hash {ops : Array Oper} {rest : List Oper} {o : Oper} {a : Act} {w : World} {Q : Exit → Act → World → Prop} {l : List UInt8} (hl : l.length = 32) {old : Array Value} (hold : old.size = 32) (x y : Operand) (hgd : o.guard = none) (hdst : o.dst = none) (ho : o.op = .store 24 x y)
    (hx : a.eval x = .pointer (some ⟨w.heap.size, 0, none⟩)) (hy : a.eval y = .agg (hashArr l))
    (h : wpList Tryd.prog ops Q rest a (w.alloc (.cells (hashArr l) 24))) : wpList Tryd.prog ops Q (o :: rest) a (w.alloc (.cells old 24)) :=
  wpList_store_new hgd 24 x y ho (hashArr l) hx hy 24 old (hash_info l hl) (by rw [hold, hashArr_size, hl]) (hashArr_one l) (by rw [hdst]; exact h)
theorem heap_below {W w1 : World} {b : Nat} {o : Obj} (h : W.heap[b]? = some o) (hb : Below W.heap.size W w1) : w1.heap[b]? = some o := by
  rcases Nat.lt_or_ge b W.heap.size with hl | hl
  · rw [hb.block b hl]; exact h
  · rw [Array.getElem?_eq_none hl] at h; cases h

set_option maxHeartbeats 2000000 in
set_option maxRecDepth 100000 in
theorem walk_DigestTexts' (a b : List UInt8) (ha : a.length = 32) (hb : b.length = 32) (w : World) (hT : Tabs w) :
    Calls Tryd.prog 6 #[.agg (hashArr a), .agg (hashArr b)] w fun e w' => e = .returned (.bool true) ∧ Below w.heap.size w w' := by
  have HT := Lib.hid hT
  clear hT
  go_enter Tryd.func6, Tryd.ntmps6
  go_wp2_with fail
  have HT0 : Hid (Tabs ((w.alloc (.cells (hashArr a) 24)).alloc (.cells (hashArr b) 24))) := HT.out.below (((Below.refl _ _).alloc (Nat.le_refl _) _).alloc (by simp) _)
  have hbl0 : Below w.heap.size w ((w.alloc (.cells (hashArr a) 24)).alloc (.cells (hashArr b) 24)) := ((Below.refl _ _).alloc (Nat.le_refl _) _).alloc (by simp) _
  have ba0 := heap_alloc2_old w (.cells (hashArr a) 24) (.cells (hashArr b) 24)
  have bb0 := heap_alloc2_new w (.cells (hashArr a) 24) (.cells (hashArr b) 24)
  generalize (w.alloc (.cells (hashArr a) 24)).alloc (.cells (hashArr b) 24) = W0 at *
  refine (sanity3_any _ HT0.out).mono ?_
  rintro e w1 ⟨rfl, hb1⟩
  have LA := Lib.hid (hash_load ha (heap_below ba0 hb1))
  have LB := Lib.hid (hash_load hb (heap_below bb0 hb1))
  have HB := Lib.hid (hbl0.trans (hb1.mono hbl0.size))
  clear ba0 bb0 HT0 HT hbl0 hb1
  have cmp := text_beq a b ha hb
  have heq : ∀ W, (binOp .eql 24 (.agg (hashArr a)) (.agg (hashArr b))).run Tryd.prog W = .ok (.bool (a == b)) W := fun W => hash_eql a b ha hb W
  obtain ⟨c, ec⟩ : ∃ c, (a == b) = c := ⟨_, rfl⟩
  rw [ec] at cmp heq
  clear ec
  obtain ⟨ta, eta⟩ : ∃ t : ByteArray, (⟨(Sha.text a).toArray⟩ : ByteArray) = t := ⟨_, rfl⟩
  obtain ⟨tb, etb⟩ : ∃ t : ByteArray, (⟨(Sha.text b).toArray⟩ : ByteArray) = t := ⟨_, rfl⟩
  rw [eta, etb] at cmp
  have l64 : ((ta.size : Int) == 64) = true := by
    have : ta.size = 64 := by rw [← eta]; show (Sha.text a).toArray.size = 64; simp [text_length, ha]
    simp [this]
  have ca : ∀ W, Calls Tryd.prog 20 #[.agg (hashArr a)] W fun e w' => e = .returned (.string ta) ∧ Below W.heap.size W w' := fun W => by rw [← eta]; exact text_any a ha W
  have cb : ∀ W, Calls Tryd.prog 20 #[.agg (hashArr b)] W fun e w' => e = .returned (.string tb) ∧ Below W.heap.size W w' := fun W => by rw [← etb]; exact text_any b hb W
  have ra : ∀ W, Calls Tryd.prog 21 #[.agg (hashArr a)] W fun e w' => e = .returned (.string ta) ∧ Below W.heap.size W w' := fun W => by rw [← eta]; exact rtext_any a ha W
  have CA := Lib.hid ca
  have CB := Lib.hid cb
  have RA := Lib.hid ra
  clear ca cb ra eta etb ha hb
  go_wp2_with fail
  refine wp_region_quiet_below (by kernel_rfl) (by kernel_rfl) ?_
  cases c
  all_goals
    repeat (first | (refine quiet_load_row (by rfl) _ _ rfl _ _ rfl _ LA.out ?_; simp only [Act.put, List.setIfInBounds_toArray, List.set_cons_zero, List.set_cons_succ]) | (refine quiet_load_row (by rfl) _ _ rfl _ _ rfl _ LB.out ?_; simp only [Act.put, List.setIfInBounds_toArray, List.set_cons_zero, List.set_cons_succ]) | go_big_quiet_step ((first | with_reducible exact Calls.regrown_of (CA.out _) | with_reducible exact Calls.regrown_of (CB.out _) | with_reducible exact Calls.regrown_of (RA.out _))))
    refine wpQuiet_nil ?_
    intro _ hw'
    obtain ⟨⟨dq, osq⟩, hw''⟩ := hw'
    subst hw''
    go_wp2_with fail
    go_ret
    exact ⟨by first | rfl | exact ret_bool (by simp), HB.out.trans ((below_regrown w1 dq osq).mono HB.out.size)⟩
theorem walk_DigestTexts (x : List Int) (lx : x.length = 32) (y : List Int) (ly : y.length = 32) (wx : ∀ z ∈ x, (Lit.int .u8 z).wf = true) (wy : ∀ z ∈ y, (Lit.int .u8 z).wf = true) (w : World) (hT : Tabs w) :
    Calls Tryd.prog 6 #[.agg (x.map (Value.int .u8)).toArray, .agg (y.map (Value.int .u8)).toArray] w fun e w' => e = .returned (.bool true) ∧ Below w.heap.size w w' := by
  obtain ⟨a, ha, ea⟩ := hash_of_ints x wx
  obtain ⟨b, hb, eb⟩ := hash_of_ints y wy
  rw [ea, eb]
  exact walk_DigestTexts' a b (by omega) (by omega) w hT
end Go.Proofs.YtkebipklcpplaaaDoor
