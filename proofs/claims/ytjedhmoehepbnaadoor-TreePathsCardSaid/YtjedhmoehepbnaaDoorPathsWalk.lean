/- The walk of the law TreePaths. -/
import Derived.Test.YtjedhmoehepbnaaDoorSanity12
import Derived.Test.YtjedhmoehepbnaaDoorTreeRefPath
import Derived.Test.YtjedhmoehepbnaaDoorTreeFits
namespace Go.Proofs.YtjedhmoehepbnaaDoor
open Go.RowKit Go.Sort
set_option linter.unusedVariables false
/-- paths are those of the reference -/
theorem paths_same (f : Nat) (l : List ByteArray) (v : Value) (i : Int) (w : World) (hf : l.length ≤ 2 ^ f) (hf63 : f ≤ 63) (hv : IsStrs w v l) (hT : Tabs w) :
    ∃ hs ok, (∀ W, Below w.heap.size w W → Calls Tryd.prog 28 #[v, .int .i64 i] W (GivesB hs ok W)) ∧ (∀ W, Below w.heap.size w W → Calls Tryd.prog 23 #[v, .int .i64 i] W (GivesB hs ok W)) := by
  by_cases h : i < 0 ∨ (l.length : Int) ≤ i
  · exact ⟨[], false, fun W g => path_no l v i W (hv.below g) h, fun W g => rpath_no l v i W (hv.below g) h⟩
  · obtain ⟨j, rfl⟩ : ∃ j : Nat, i = (j : Int) := ⟨i.toNat, by omega⟩
    exact ⟨_, true, fun W g => path_yes f l v j _ W hf hf63 (hv.below g) (by omega) (hT.below g) rfl, fun W g => rpath_yes f l v j _ W hf hf63 (hv.below g) (by omega) rfl⟩
theorem strs_slice {W : World} {v : Value} {l : List ByteArray} (h : IsStrs W v l) : ∃ a c, v = .slice a l.length c := by
  obtain ⟨_, ⟨rfl, a, c, rfl⟩ | ⟨b, o, c, rfl, _⟩⟩ := h
  · exact ⟨_, _, rfl⟩
  · exact ⟨_, _, rfl⟩
theorem hs_slice {W : World} {v : Value} {l : List Tree.H} (h : IsHs W v l) : ∃ a c, v = .slice a l.length c := by
  obtain ⟨_, ⟨rfl, a, c, rfl, _⟩ | ⟨b, o, c, rfl, _⟩⟩ := h
  · exact ⟨_, _, rfl⟩
  · exact ⟨_, _, rfl⟩
set_option maxHeartbeats 2000000 in
set_option maxRecDepth 100000 in
theorem paths_at (ao : Option Addr) (n c : Nat) (xs : List UInt8) (i : Int) (w : World) (hx : BytesIn w ao n c xs) (hT : Tabs w) :
    Calls Tryd.prog 5 #[.slice ao n c, .int .i64 i] w fun e w' => e = .returned (.bool true) ∧ Below w.heap.size w w' := by
  obtain ⟨m, em⟩ : ∃ m, min n 20 = m := ⟨_, rfl⟩
  have hm : m ≤ 20 := by omega
  obtain ⟨l, el⟩ : ∃ l, Tree.words xs m = l := ⟨_, rfl⟩
  have ll : l.length = m := by rw [← el]; exact words_length xs m
  have ls : Short l := by rw [← el]; exact words_short xs m
  have CS := Lib.hid (fun (W : World) (g : Below w.heap.size w W) => rstrings_any ao n c xs W (hx.below g))
  rw [em, el] at CS
  have HT := Lib.hid hT
  have LL := Lib.hid ll
  have LS := Lib.hid ls
  clear hx hT el ll ls em
  go_enter Tryd.func5, Tryd.ntmps5
  go_wp2_with fail
  refine (sanity12_any _ HT.out).mono ?_
  rintro e w1 ⟨rfl, hb1⟩
  go_wp2_with fail
  refine (CS.out _ hb1).mono ?_
  rintro e w2 ⟨v, rfl, hown, hb2⟩
  have hb12 := below_join hb1 hb2
  have hv := hown.is LS.out
  obtain ⟨av, cv, ev⟩ := strs_slice hv
  rw [LL.out] at ev
  subst ev
  obtain ⟨hs, ok, cp, cr⟩ := paths_same 5 l (.slice av m cv) i w2 (by rw [LL.out]; show m ≤ 32; omega) (by omega) hv (HT.out.below hb12)
  have CP := Lib.hid cp
  have CR := Lib.hid cr
  have HV := Lib.hid hv
  have HB := Lib.hid hb12
  clear cp cr hown hb1 hb2 hb12 CS hv
  go_wp2_with fail
  refine (CP.out _ (Below.refl _ _)).mono ?_
  rintro e w3 ⟨vp, rfl, hown3, hb3⟩
  go_wp2_with fail
  refine (CR.out _ hb3).mono ?_
  rintro e w4 ⟨vq, rfl, hown4, hb4⟩
  have CE := Lib.hid (same_any vp vq hs hs w4 (hown3.is.below hb4) hown4.is)
  rw [show (hs == hs) = true by simp] at CE
  have HB4 := Lib.hid (below_join HB.out (below_join hb3 hb4))
  have HB24 := Lib.hid (below_join hb3 hb4)
  have HVV := Lib.hid (HV.out.below HB24.out)
  clear hown3 hown4 hb3 hb4 CP CR
  go_wp2_with fail
  refine CE.out.mono ?_
  rintro e w5 ⟨rfl, hb5⟩
  have HB5 := Lib.hid (below_join HB4.out hb5)
  have HV5 := Lib.hid (HVV.out.below hb5)
  clear hb5 HB4 HB24 HVV HB HV CE
  go_wp2_with fail
  go_loopw [11, 12, 13, 40] (fun _ _ _ i wr => ∃ k : Nat, k ≤ m ∧ i = .int .i64 k ∧ Below w.heap.size w wr ∧ IsStrs wr (.slice av m cv) l) (fun _ _ _ i _ => m - (intOf i).toNat)
  case atStart => exact ⟨0, by omega, rfl, HB5.out, HV5.out⟩
  case round =>
    obtain ⟨k, hk, rfl, hbw, hvw⟩ := hrel
    have HBW := Lib.hid hbw
    have HVW := Lib.hid hvw
    clear HB5 HV5
    by_cases hlt : k < m
    · have hkl : k < l.length := by rw [LL.out]; exact hlt
      have h32 : l.length ≤ 2 ^ 5 := by rw [LL.out]; show m ≤ 32; omega
      obtain ⟨hsh, ⟨e, _⟩ | ⟨b', o, c', e, _, _, _, sa⟩⟩ := hvw
      · have := LL.out; rw [e] at this; simp at this; omega
      injection e with e1 e2 e3
      subst e1 e3
      have hs1 := sa k hkl
      have hz := hsh.getD k
      obtain ⟨ps, eps⟩ : ∃ ps, Tree.path 5 l k = ps := ⟨_, rfl⟩
      obtain ⟨h, eh⟩ : ∃ h, Tree.root 5 l = h := ⟨_, rfl⟩
      have lh : h.length = 32 := by rw [← eh]; exact Tree.root_length _ _
      have hfit := Tree.path_fits 5 l k hkl h32
      rw [eps, eh, LL.out] at hfit
      have hTw := HT.out.below hbw
      have CP := Lib.hid (path_yes 5 l _ k ps wr h32 (by omega) HVW.out hkl hTw eps)
      have HFIT := Lib.hid hfit
      have HTW := Lib.hid hTw
      have H32 := Lib.hid h32
      have EH := Lib.hid eh
      have LH := Lib.hid lh
      generalize l.getD k ByteArray.empty = s at *
      have HZ := Lib.hid hz
      have hs1 := hs1
      have q1 : (0 : Int) ≤ (k : Int) := by omega
      have q2 : (k : Int) < (m : Int) := by omega
      have q3 : (k : Int).toNat = k := by omega
      have HS := Lib.hid hs1
      clear sa hsh e2 hTw hbw hz hfit eps eh lh hs1 hkl h32
      go_wp2_with fail
      refine CP.out.mono ?_
      rintro e w2 ⟨vp, rfl, hown, hb2⟩
      have CH := Lib.hid (fun (W : World) (g : Below w2.heap.size w2 W) => head_any 5 l _ m _ h W LL.out H32.out (HVW.out.below (below_join hb2 g)) EH.out)
      have hih := hown.is
      obtain ⟨pa, pc, rfl⟩ := hs_slice hih
      have CF := Lib.hid (fun (W : World) (g : Below w2.heap.size w2 W) => fits_any m k h s (.slice pa ps.length pc) true W LH.out (fun W' g' => check_yes 5 m k h _ s pa ps.length pc ps W' true (hih.below (below_join g g')) rfl (HTW.out.below (below_join hb2 (below_join g g'))) (by have := HZ.out; omega) LH.out rfl hlt (by have := H32.out; rw [LL.out] at this; exact this) (by omega) HFIT.out))
      have hs2 : w2.cell? ⟨b', o + k, none⟩ = some (.string s) := (hb2.cell (p := ⟨b', o + k, none⟩) (block_lt_of_cell HS.out)).trans HS.out
      have hs3 : ∀ d os, (grow (redrawn w2 d) os).cell? ⟨b', o + k, none⟩ = some (.string s) := fun d os => ((below_regrown w2 d os).cell (p := ⟨b', o + k, none⟩) (block_lt_of_cell hs2)).trans hs2
      have HB2 := Lib.hid hb2
      clear hown hih CP HS hb2
      go_wp2_with fail
      refine wp_region_quiet_below (by kernel_rfl) (by kernel_rfl) ?_
      repeat (go_big_quiet_step ((first | with_reducible exact Calls.regrown_of (CH.out _ (below_regrown _ _ _)) | with_reducible exact Calls.regrown_of (CF.out _ (below_regrown _ _ _)))))
      refine wpQuiet_nil ?_
      intro _ hw'
      obtain ⟨⟨dq, osq⟩, hw''⟩ := hw'
      subst hw''
      have hq := below_regrown w2 dq osq
      have HBQ := Lib.hid (below_join HB2.out hq)
      clear hq
      generalize grow (redrawn w2 dq) osq = W1 at *
      go_wp2_with fail
      go_roundw
      case rel => exact ⟨k + 1, by omega, by go_num, below_join HBW.out HBQ.out, HVW.out.below HBQ.out⟩
      case measure => simp [intOf]; omega
    · obtain rfl : k = m := by omega
      have hdn : decide ((k : Int) < (k : Int)) = false := by simp
      clear hbw hvw
      go_wp2_with fail
      go_ret
      exact ⟨rfl, HBW.out⟩
end Go.Proofs.YtjedhmoehepbnaaDoor
