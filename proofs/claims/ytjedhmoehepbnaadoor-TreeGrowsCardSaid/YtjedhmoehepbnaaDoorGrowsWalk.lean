/- The walk of the law TreeGrows. -/
import Derived.Test.YtjedhmoehepbnaaDoorGrowsKit
namespace Go.Proofs.YtjedhmoehepbnaaDoor
open Go.RowKit Go.Sort
set_option linter.unusedVariables false
set_option maxHeartbeats 2000000 in
set_option maxRecDepth 100000 in
theorem grows_at (ao : Option Addr) (n c : Nat) (xs : List UInt8) (i : Int) (w : World) (hx : BytesIn w ao n c xs) (hT : Tabs w) :
    Calls Tryd.prog 8 #[.slice ao n c, .int .i64 i] w fun e w' => e = .returned (.bool true) ∧ Below w.heap.size w w' := by
  obtain ⟨m, em⟩ : ∃ m, min n 20 = m := ⟨_, rfl⟩
  have hm : m ≤ 20 := by omega
  obtain ⟨l, el⟩ : ∃ l, Tree.words xs m = l := ⟨_, rfl⟩
  have ll : l.length = m := by rw [← el]; exact words_length xs m
  have ls : Short l := by rw [← el]; exact words_short xs m
  have CS := Lib.hid (fun (W : World) (g : Below w.heap.size w W) => rstrings_any ao n c xs W (hx.below g))
  rw [em, el] at CS
  have HT := Lib.hid hT
  have LL := Lib.hid ll
  have LS := Lib.hid ls
  clear hx hT el ll ls em
  go_enter Tryd.func8, Tryd.ntmps8
  go_wp2_with fail
  refine (sanity12_any _ HT.out).mono ?_
  rintro e w1 ⟨rfl, hb1⟩
  go_wp2_with fail
  refine (CS.out _ hb1).mono ?_
  rintro e w2 ⟨v, rfl, hown, hb2⟩
  have hb12 := below_join hb1 hb2
  have hv := hown.is LS.out
  obtain ⟨av, cv, ev, hcv⟩ := strs_sl hv
  rw [LL.out] at ev hcv
  subst ev
  have h32 : l.length ≤ 2 ^ 5 := by rw [LL.out]; show m ≤ 32; omega
  obtain ⟨hs, ok, cp, cr⟩ := growths_same 5 l (.slice av m cv) i w2 h32 (by omega) hv (HT.out.below hb12)
  have CP := Lib.hid cp
  have CR := Lib.hid cr
  have HV := Lib.hid hv
  have HB := Lib.hid hb12
  have H32 := Lib.hid h32
  clear cp cr hown hb1 hb2 hb12 CS hv h32
  go_wp2_with fail
  refine (CP.out _ (Below.refl _ _)).mono ?_
  rintro e w3 ⟨vp, rfl, hown3, hb3⟩
  go_wp2_with fail
  refine (CR.out _ hb3).mono ?_
  rintro e w4 ⟨vq, rfl, hown4, hb4⟩
  have CE := Lib.hid (same_any vp vq hs hs w4 (hown3.is.below hb4) hown4.is)
  rw [show (hs == hs) = true by simp] at CE
  have HB4 := Lib.hid (below_join HB.out (below_join hb3 hb4))
  have HB24 := Lib.hid (below_join hb3 hb4)
  have HVV := Lib.hid (HV.out.below HB24.out)
  clear hown3 hown4 hb3 hb4 CP CR
  go_wp2_with fail
  refine CE.out.mono ?_
  rintro e w5 ⟨rfl, hb5⟩
  have HB5 := Lib.hid (below_join HB4.out hb5)
  have HV5 := Lib.hid (HVV.out.below hb5)
  clear hb5 HB4 HB24 HVV HB HV CE
  go_wp2_with fail
  go_loopw [11, 12, 13] (fun i _ _ wr => ∃ k : Nat, k ≤ m + 1 ∧ i = .int .i64 k ∧ Below w.heap.size w wr ∧ IsStrs wr (.slice av m cv) l) (fun i _ _ _ => m + 1 - (intOf i).toNat)
  case atStart => exact ⟨0, by omega, rfl, HB5.out, HV5.out⟩
  case round =>
    obtain ⟨k, hk, rfl, hbw, hvw⟩ := hrel
    have HBW := Lib.hid hbw
    have HVW := Lib.hid hvw
    clear HB5 HV5
    by_cases hlt : k ≤ m
    · have hkl : k ≤ l.length := by rw [LL.out]; exact hlt
      have hd1 : decide ((k : Int) ≤ (m : Int)) = true := by simp; omega
      obtain ⟨h1, eh1⟩ : ∃ h, Tree.root 5 (l.take k) = h := ⟨_, rfl⟩
      obtain ⟨h2, eh2⟩ : ∃ h, Tree.root 5 l = h := ⟨_, rfl⟩
      have lh1 : h1.length = 32 := by rw [← eh1]; exact Tree.root_length _ _
      have lh2 : h2.length = 32 := by rw [← eh2]; exact Tree.root_length _ _
      have hTw := HT.out.below hbw
      have CP := Lib.hid (growth0_any 5 l _ k wr H32.out (by omega) HVW.out hkl hTw)
      have hcut := cut_strs av m k cv (by by_cases h0 : 1 ≤ m <;> omega)
      have HTW := Lib.hid hTw
      have EH1 := Lib.hid eh1
      have EH2 := Lib.hid eh2
      have LH1 := Lib.hid lh1
      have LH2 := Lib.hid lh2
      clear hTw hbw hvw eh1 eh2 lh1 lh2 hkl
      go_wp2_with fail
      refine CP.out.mono ?_
      rintro e w2 ⟨vp, rfl, hown, hb2⟩
      have CH1 := Lib.hid (fun (W : World) (g : Below w2.heap.size w2 W) => head_any 5 (l.take k) av k cv h1 W (by rw [List.length_take, LL.out]; omega) (by rw [List.length_take]; have := H32.out; omega) ((HVW.out.below (below_join hb2 g)).cut LL.out hlt) EH1.out)
      have CH2 := Lib.hid (fun (W : World) (g : Below w2.heap.size w2 W) => head_any 5 l av m cv h2 W LL.out H32.out (HVW.out.below (below_join hb2 g)) EH2.out)
      have hih := hown.is
      have CF := Lib.hid (fun (W : World) (g : Below w2.heap.size w2 W) => grows_any k m h1 h2 vp true W LH1.out LH2.out (fun W' g' => grown_any 5 l k m h1 h2 vp W' H32.out LL.out (by omega) hlt EH1.out EH2.out (HTW.out.below (below_join hb2 (below_join g g'))) (hih.below (below_join g g'))))
      have HB2 := Lib.hid hb2
      clear hown hih CP hb2
      go_wp2_with fail
      refine (CH1.out _ (Below.refl _ _)).mono ?_
      rintro e w3 ⟨rfl, hb3⟩
      go_wp2_with fail
      refine (CH2.out _ hb3).mono ?_
      rintro e w4 ⟨rfl, hb4⟩
      have hb34 := below_join hb3 hb4
      go_wp2_with fail
      refine (CF.out _ hb34).mono ?_
      rintro e w5 ⟨rfl, hb5⟩
      have HBQ := Lib.hid (below_join HB2.out (below_join hb34 hb5))
      clear hb3 hb4 hb34 hb5
      go_wp2_with fail
      go_roundw
      case rel => exact ⟨k + 1, by omega, by go_num, below_join HBW.out HBQ.out, HVW.out.below HBQ.out⟩
      case measure => simp [intOf]; omega
    · have hdn : decide ((k : Int) ≤ (m : Int)) = false := by simp; omega
      clear hbw hvw
      go_wp2_with fail
      go_ret
      exact ⟨rfl, HBW.out⟩
end Go.Proofs.YtjedhmoehepbnaaDoor
