/- The contract of the reference's Clash. -/
import Derived.Test.YtjedhmoehepbnaaDoorTreeOk
import Derived.Test.YtjedhmoehepbnaaDoorTreeRefRoot
import Derived.Test.YtjedhmoehepbnaaDoorSanity12
namespace Go.Proofs.YtjedhmoehepbnaaDoor
open Go.RowKit Go.Sort
set_option linter.unusedVariables false
/-- no two of the strings up to here are different and have one hash -/
def NoneTill (ss : List ByteArray) (i j : Nat) : Prop := ss.getD i ByteArray.empty = ss.getD j ByteArray.empty ∨ Sha.sum (ss.getD i ByteArray.empty).data.toList ≠ Sha.sum (ss.getD j ByteArray.empty).data.toList
def NoClash (ss : List ByteArray) : Prop := ∀ i, i < ss.length → ∀ j, j < i → NoneTill ss i j
theorem strs_sl' {W : World} {v : Value} {l : List ByteArray} (h : IsStrs W v l) : ∃ a c, v = .slice a l.length c := by
  obtain ⟨_, ⟨rfl, a, c, rfl⟩ | ⟨b, o, c, rfl, _⟩⟩ := h
  · exact ⟨_, _, rfl⟩
  · exact ⟨_, _, rfl⟩
theorem list_neq (x y : ByteArray) (h : x ≠ y) : (x.toList == y.toList) = false := by
  rw [ByteArray.toList_eq, ByteArray.toList_eq]
  refine beq_eq_false_iff_ne.2 (fun e => h ?_)
  cases x; cases y
  simp at e
  rw [ByteArray.mk.injEq]
  exact e
set_option maxHeartbeats 4000000 in
set_option maxRecDepth 100000 in
theorem clash_any (ss : List ByteArray) (v : Value) (w : World) (hv : IsStrs w v ss) (hn : ss.length ≤ 100000) :
    Calls Tryd.prog 27 #[v] w fun e w' => ∃ b, e = .returned (.bool b) ∧ (NoClash ss ∨ b = true) ∧ Below w.heap.size w w' := by
  obtain ⟨av, cv, rfl⟩ := strs_sl' hv
  obtain ⟨n, en⟩ : ∃ n, ss.length = n := ⟨_, rfl⟩
  rw [en] at hv hn ⊢
  have EN := Lib.hid en
  have HV := Lib.hid hv
  clear hv en
  go_enter Tryd.func27, Tryd.ntmps27
  go_wp2_with fail
  go_loopw [3] (fun x wr => ∃ a : Nat, a ≤ n ∧ x = .int .i64 a ∧ Below w.heap.size w wr ∧ Hid (∀ i, i < a → ∀ j, j < i → NoneTill ss i j)) (fun x _ => n - (intOf x).toNat)
  case atStart => exact ⟨0, by omega, rfl, Below.refl _ _, fun i hi => by omega⟩
  case round =>
    obtain ⟨a, ha, rfl, hbw, hno⟩ := hrel
    by_cases han : a < n
    · have hda : decide ((a : Int) < (n : Int)) = true := by simp; omega
      have HB := Lib.hid hbw
      clear hbw
      go_wp2_with fail
      go_loopw [4] (fun x wr => ∃ b : Nat, b ≤ a ∧ x = .int .i64 b ∧ Below w.heap.size w wr ∧ Hid (∀ j, j < b → NoneTill ss a j)) (fun x _ => a - (intOf x).toNat)
      case atStart => exact ⟨0, by omega, rfl, HB.out, fun j hj => by omega⟩
      case round =>
        obtain ⟨b, hb, rfl, hbw2, hno2⟩ := hrel
        clear HB
        by_cases hba : b < a
        · have hdb : decide ((b : Int) < (a : Int)) = true := by simp; omega
          have r1 : (0 : Int) ≤ (a : Int) := by omega
          have r2 : (a : Int) < (n : Int) := by omega
          have r3 : (a : Int).toNat = a := by omega
          have t1 : (0 : Int) ≤ (b : Int) := by omega
          have t2 : (b : Int) < (n : Int) := by omega
          have t3 : (b : Int).toNat = b := by omega
          have w1 : IntKind.i64.wrap ((b : Int) + 1) = (b : Int) + 1 := IntWalk.i64_in _ (by omega)
          obtain ⟨hsh, ⟨e, _⟩ | ⟨b', o, c', e, _, _, _, sa⟩⟩ := HV.out.below hbw2
          · have := EN.out; rw [e] at this; simp at this; omega
          injection e with e1 e2 e3
          subst e1 e3
          have s1 := sa a (by rw [EN.out]; exact han)
          have s2 := sa b (by rw [EN.out]; omega)
          have zs1 := hsh.getD a
          have zs2 := hsh.getD b
          obtain ⟨x, ex⟩ : ∃ x, ss.getD a ByteArray.empty = x := ⟨_, rfl⟩
          obtain ⟨y, ey⟩ : ∃ y, ss.getD b ByteArray.empty = y := ⟨_, rfl⟩
          rw [ex] at s1 zs1
          rw [ey] at s2 zs2
          have EX := Lib.hid ex
          have EY := Lib.hid ey
          have p1 : ∀ d os, (grow (redrawn wr d) os).cell? ⟨b', o + a, none⟩ = some (.string x) := fun d os => ((below_regrown wr d os).cell (p := ⟨b', o + a, none⟩) (block_lt_of_cell s1)).trans s1
          have p2 : ∀ d os, (grow (redrawn wr d) os).cell? ⟨b', o + b, none⟩ = some (.string y) := fun d os => ((below_regrown wr d os).cell (p := ⟨b', o + b, none⟩) (block_lt_of_cell s2)).trans s2
          have HBW := Lib.hid hbw2
          have CX := Lib.hid (fun (W : World) => rsum_any x W (by omega))
          have CY := Lib.hid (fun (W : World) => rsum_any y W (by omega))
          have heq := fun W => hash_eql (Sha.sum x.data.toList) (Sha.sum y.data.toList) (Sha.sum_length _) (Sha.sum_length _) W
          obtain ⟨hx, ehx⟩ : ∃ h, Sha.sum x.data.toList = h := ⟨_, rfl⟩
          obtain ⟨hy, ehy⟩ : ∃ h, Sha.sum y.data.toList = h := ⟨_, rfl⟩
          rw [ehx] at CX
          rw [ehy] at CY
          rw [ehx, ehy] at heq
          have EHX := Lib.hid ehx
          have EHY := Lib.hid ehy
          clear sa hsh e2 hbw2 zs1 zs2 ex ey ehx ehy
          by_cases hxy : x = y
          · subst hxy
            go_wp2_with fail
            refine wp_region_quiet_below (by kernel_rfl) (by kernel_rfl) ?_
            repeat (go_big_quiet_step (fail))
            refine wpQuiet_nil ?_
            intro _ hw'
            obtain ⟨⟨dq, osq⟩, hw''⟩ := hw'
            subst hw''
            have hq2 := below_regrown wr dq osq
            have BR := Lib.hid (below_join HBW.out hq2)
            clear hq2
            generalize grow (redrawn wr dq) osq = WQ at *
            go_wp2_with fail
            go_roundw
            case rel => exact ⟨b + 1, by omega, by go_num, BR.out, fun j hj => by
              by_cases hjb : j = b
              · subst hjb; exact .inl (EX.out.trans EY.out.symm)
              · exact hno2.out j (by omega)⟩
            case measure => simp [intOf]; omega
          · have hq := list_neq x y hxy
            by_cases hh : hx = hy
            · subst hh
              have hqq : (hx == hx) = true := by simp
              rw [hqq] at heq
              clear hqq
              go_wp2_with fail
              refine wp_region_quiet_below (by kernel_rfl) (by kernel_rfl) ?_
              repeat (go_big_quiet_step ((first | with_reducible exact Calls.regrown_of (CX.out _) | with_reducible exact Calls.regrown_of (CY.out _))))
              refine wpQuiet_nil ?_
              intro _ hw'
              obtain ⟨⟨dq, osq⟩, hw''⟩ := hw'
              subst hw''
              have hq2 := below_regrown wr dq osq
              have BR := Lib.hid (below_join HBW.out hq2)
              clear hq2
              generalize grow (redrawn wr dq) osq = WQ at *
              go_wp2_with fail
              go_ret
              exact ⟨_, rfl, .inr rfl, BR.out⟩
            · have hqq : (hx == hy) = false := by simpa using hh
              rw [hqq] at heq
              have HH := Lib.hid hh
              clear hqq hh
              go_wp2_with fail
              refine wp_region_quiet_below (by kernel_rfl) (by kernel_rfl) ?_
              repeat (go_big_quiet_step ((first | with_reducible exact Calls.regrown_of (CX.out _) | with_reducible exact Calls.regrown_of (CY.out _))))
              refine wpQuiet_nil ?_
              intro _ hw'
              obtain ⟨⟨dq, osq⟩, hw''⟩ := hw'
              subst hw''
              have hq2 := below_regrown wr dq osq
              have BR := Lib.hid (below_join HBW.out hq2)
              clear hq2
              generalize grow (redrawn wr dq) osq = WQ at *
              go_wp2_with fail
              go_roundw
              case rel => exact ⟨b + 1, by omega, by go_num, BR.out, fun j hj => by
                by_cases hjb : j = b
                · subst hjb
                  refine .inr ?_
                  rw [EX.out, EY.out, EHX.out, EHY.out]
                  exact HH.out
                · exact hno2.out j (by omega)⟩
              case measure => simp [intOf]; omega
        · obtain rfl : b = a := by omega
          have hdb : decide ((b : Int) < (b : Int)) = false := by simp
          have w1 : IntKind.i64.wrap ((b : Int) + 1) = (b : Int) + 1 := IntWalk.i64_in _ (by omega)
          have HBW := Lib.hid hbw2
          clear hbw2
          go_wp2_with fail
          go_roundw
          case rel => exact ⟨b + 1, by omega, by go_num, HBW.out, fun i hi j hj => by
            by_cases hib : i = b
            · subst hib; exact hno2.out j hj
            · exact hno.out i (by omega) j hj⟩
          case measure => simp [intOf]; omega
    · obtain rfl : a = n := by omega
      have hda : decide ((a : Int) < (a : Int)) = false := by simp
      have HBW := Lib.hid hbw
      clear hbw
      go_wp2_with fail
      go_ret
      exact ⟨_, rfl, .inl (fun i hi j hj => hno.out i (by rw [← EN.out]; exact hi) j hj), HBW.out⟩
end Go.Proofs.YtjedhmoehepbnaaDoor
