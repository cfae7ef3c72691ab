/- The law TreeBinds returns true for every argument, and leaves the arguments as they were; no condition. -/
import Derived.Test.YtjedhmoehepbnaaDoorRows
import Derived.Test.YtjedhmoehepbnaaDoorCards
import Derived.Test.YtjedhmoehepbnaaDoorTie
import Derived.Test.YtjedhmoehepbnaaDoorLaid
import Derived.Test.YtjedhmoehepbnaaDoorBindsWalk
import Derived.OpenShut
import Derived.ShutString
import Derived.SizedLaws
import Derived.Lib.SmallJoins
import Derived.Test.YtjedhmoehepbnaaDoorSlices
import Derived.Test.YtjedhmoehepbnaaDoorSliceBytes
namespace Go.Proofs.YtjedhmoehepbnaaDoor.treeBinds
open Go.ChangeShapes Go.WideShapes Go.ChangeAt Go.RowKit
open Go.ChangeMaps (open_string shut_string)
set_option linter.unusedVariables false

theorem laid_out : laidOutB Tryd.prog = true := by kernel_rfl
theorem params_read : ∀ t ∈ Tryd.f4.params.toList, Tryd.prog.readableRec t = true ∧ t < Tryd.prog.types.size := by
  intro t ht
  have h : (Tryd.f4.params.toList.all fun t => Tryd.prog.readableRec t && decide (t < Tryd.prog.types.size)) = true := by kernel_rfl
  have h2 := List.all_eq_true.1 h t ht
  rw [Bool.and_eq_true] at h2
  exact ⟨h2.1, of_decide_eq_true h2.2⟩

theorem cellsB0 : Tryd.prog.cellsOf 5 = 1 := by kernel_rfl

theorem lie_weight {H : Type} (l : List UInt8) (a b : Int) : l.length ∈ DataW.weights Tryd.prog 32 (.agg [.lit (.string l), .lit (.int .i64 a), .lit (.int .i64 b)] : DataW H) := by
  rw [DataW.weights, Tryd.underlying32]
  simp only [List.map_cons, List.map_nil, DataW.weightsEach, DataW.weights]
  exact List.mem_append_left _ (List.mem_singleton.2 rfl)
set_option maxRecDepth 100000 in
/-- what the walk gives -/
theorem contract (H : Type) (enc : TypeId × Value → H) (W : World) (base : Nat) (args : Array Value) (ds gs : List (DataW H)) (before : List MemPlace)
    (hval0 : ∀ (j : Nat) t v, Tryd.f4.params[j]? = some t → args[j]? = some v → Value.okWide Tryd.prog W .any base t v)
    (hW : DataW.Whole enc Tryd.prog Tryd.f4.params.toList Rows.treeBindsSpec.vars false W args.toList ds gs before) (hsz : (DataW.weightsEach Tryd.prog (Tryd.f4.params.toList ++ (OpenSpec.ofChange Rows.treeBindsSpec).bare.plain.varTypes Tryd.prog) (ds ++ gs)).all (· ≤ reachBytes) = true) (hL : laidMetH Tryd.prog Rows.treeBindsRow.laid W) :
    Calls Tryd.prog 4 args W fun e W' => ∃ v, e = .returned v ∧ Rows.treeBindsSpec.post enc Tryd.prog Tryd.f4 false true false false W args v W' := by
  have hval : ∀ (j : Nat) t v, Tryd.f4.params[j]? = some t → args[j]? = some v → Value.okWide Tryd.prog W .any base t v := hval0
  have hT : Tabs W := tabs_of (L := Rows.treeBindsRow.laid) (by simp [Rows.treeBindsRow]) (by simp [Rows.treeBindsRow]) hL
  have hW' := hW
  obtain ⟨p, q, hA0, hV, rfl, hfz, hnd⟩ := hW
  have hA : DataW.TrodAll enc Tryd.prog W 0 (fun _ => true) true Tryd.f4.params.toList args.toList ds p := hA0
  have hA1 := hA0
  have hsz1 := hsz
  rw [Tryd.params4] at hsz1
  rw [Tryd.params4] at hA hval
  obtain ⟨v0, vs0, d0, ds0, p0, q0, hargs, rfl, rfl, h0, r0⟩ := trodAll_cons hA
  obtain ⟨v1, vs1, d1, ds1, p1, q1, rfl, rfl, rfl, h1, r1⟩ := trodAll_cons r0
  obtain ⟨v2, vs2, d2, ds2, p2, q2, rfl, rfl, rfl, h2, r2⟩ := trodAll_cons r1
  obtain ⟨rfl, rfl, rfl⟩ := trodAll_nil r2
  obtain rfl : args = #[v0, v1, v2] := by cases args; simp_all
  obtain ⟨rfl, rfl⟩ := trodVars_none hV
  obtain ⟨a0, n0, c0, s0, rfl, w0⟩ := open_bytes Tryd.underlying30 Tryd.underlying5 cellsB0 (hval 0 30 v0 rfl rfl) h0
  obtain ⟨a1, rfl, rfl, rfl, w1⟩ := open_int Tryd.underlying5 (hval 1 5 v1 rfl rfl) h1
  obtain ⟨u0, u1, u2, y0, y1, y2, nf, rfl, rfl, _, k0, k1, k2⟩ := Go.Joins.open_agg3 Tryd.underlying32 (by kernel_rfl) (by kernel_rfl) (hval 2 32 v2 rfl rfl) h2
  obtain ⟨a2, e0, f0, _⟩ := DataW.trod_string Tryd.underlying9 k0
  obtain ⟨z0, e1, f1, _⟩ := DataW.trod_int Tryd.underlying3 k1
  obtain ⟨z1, e2, f2, _⟩ := DataW.trod_int Tryd.underlying3 k2
  injection e0 with e0
  injection e1 with e1
  injection e2 with e2
  subst e0 e1 e2 f0 f1 f2
  have z2 : a2.size ≤ 140737488351232 := by
    have hq := List.all_eq_true.1 hsz _ (DataW.weights_mem_each (j := 2) (t := 32) (by rw [Tryd.params4]; rfl) rfl a2.data.toList.length (lie_weight _ _ _))
    have hq2 : a2.data.toList.length ≤ reachBytes := of_decide_eq_true hq
    rw [Array.length_toList] at hq2
    exact hq2
  clear hA0 hval0
  simp only [List.append_nil] at hW' hA1
  refine (walk_TreeBinds a0 n0 c0 s0 w0 a1 w1 a2 z0 z1 z2 hT).mono fun e W' ⟨he, hg⟩ => ?_
  subst he
  exact ⟨_, rfl, post_kept laid_out params_read hW' hA1 (fun _ _ _ => (trodAll_cons_mk (shut_bool Tryd.underlying4 _) trodAll_mk0)) rfl (fun _ => rfl) hg⟩

theorem laid_met (os : Os) : laidMet Tryd.prog Rows.treeBindsRow.laid ((laidWorld os).forCall (fun _ _ => 0) ⟨#[], #[.slice none 0 0, .int .u8 0, .agg #[.string .empty, .int .i64 0, .int .i64 0]], []⟩).memory :=
  laidMet_of_run' 8 (by kernel_rfl) (by kernel_rfl)
theorem reads (os : Os) {H : Type} (enc : TypeId × Value → H) : ∃ places, DataW.whole enc Tryd.prog ((laidWorld os).forCall (fun _ _ => 0) ⟨#[], #[.slice none 0 0, .int .u8 0, .agg #[.string .empty, .int .i64 0, .int .i64 0]], []⟩).memory Tryd.f4.params.toList Rows.treeBindsSpec.vars false (#[.slice none 0 0, .int .u8 0, .agg #[.string .empty, .int .i64 0, .int .i64 0]] : Array Value).toList 8 = some ([.nil, .lit (.int .u8 0), .agg [.lit (.string []), .lit (.int .i64 0), .lit (.int .i64 0)]], [], places) :=
  ⟨[], by kernel_rfl⟩
set_option maxRecDepth 100000 in
theorem lifted (os : Os) (started : os.Started) (H : Type) (enc : TypeId × Value → H) (F : Stop.Interp) :
    ReturnsInHanded {} Tryd.checked os 4 .any ((OpenSpec.ofChange Rows.treeBindsSpec).preRow enc Tryd.prog Tryd.f4 Rows.treeBindsRow.domain false Rows.treeBindsRow.laid) (((OpenSpec.ofChange Rows.treeBindsSpec).at F).post enc Tryd.prog Tryd.f4 false true false false) := by
  obtain ⟨places, hx⟩ := reads os enc
  refine returnsInHanded_of_row (C := Tryd.checked) (s := OpenSpec.ofChange Rows.treeBindsSpec) own started (by kernel_rfl) Tryd.func4
    (witness_row_at (enc := enc) (C := Tryd.checked) false (laidWorld os) #[.slice none 0 0, .int .u8 0, .agg #[.string .empty, .int .i64 0, .int .i64 0]] rfl (by kernel_rfl) (by kernel_rfl) (by kernel_rfl)
      (OpenSpec.preRow_of_cond 8 hx (by kernel_rfl) (fun k hk => by cases hk) (by kernel_rfl) (laid_met os))) ?_
  intro W base args ds gs before hval hW _ _ hszR hL _ _
  exact contract H enc W base args ds gs before hval hW hszR hL
theorem said : Rows.TreeBindsSaid :=
  OpenClaim.holds_of_cond 4 Tryd.f4 rfl rfl rfl rfl rfl rfl rfl ⟨rfl, rfl, rfl, rfl, rfl⟩ rfl rfl rfl rfl rfl (by kernel_rfl) Tryd.func4 (by kernel_rfl)
    (of_decide_eq_true (by kernel_rfl)) (by unfold Func.isWrapper; first | (rw [if_pos (by decide +kernel)]; kernel_rfl) | (rw [if_neg (by decide +kernel)]; exact ⟨rfl, rfl⟩))
    (fun os started H enc _ F => by rw [OpenClaim.pre_eq_preRow]; exact lifted os started H enc F)
theorem plain (f : FuncId) (fn : Func) (hf : Tryd.pinned.checked.prog.funcNamed "sortes/sorteslaw12.TreeBinds" = some f) (hfn : Tryd.pinned.checked.prog.funcs[f]? = some fn) :
    false = Tryd.pinned.checked.prog.looks [] ∧ ∀ (j : Nat) t, fn.params[j]? = some t → Tryd.pinned.checked.prog.wantsStandIn t = false := by
  obtain rfl : f = 4 := Option.some.inj ((show Tryd.prog.funcNamed "sortes/sorteslaw12.TreeBinds" = some 4 by kernel_rfl).symm.trans hf) |>.symm
  obtain rfl : fn = Tryd.f4 := (Option.some.inj (Tryd.func4.symm.trans hfn)).symm
  refine ⟨by kernel_rfl, fun j t ht => ?_⟩
  rw [Tryd.params4] at ht
  have hmem := Array.mem_of_getElem? ht
  simp only [List.mem_toArray, List.mem_cons, List.mem_nil_iff, or_false] at hmem
  rcases hmem with rfl | rfl | rfl
  · exact (show Tryd.prog.wantsStandIn 30 = false by kernel_rfl)
  · exact (show Tryd.prog.wantsStandIn 5 = false by kernel_rfl)
  · exact (show Tryd.prog.wantsStandIn 32 = false by kernel_rfl)
/-- THE CARD -/
theorem card : Rows.TreeBindsCardSaid :=
  Claim7.holds_tied_plain_at .later [] _ _ _ _ said (fun _ h => by cases h) (by kernel_rfl) (fun _ h => by cases h) treeBinds_row_tie rfl ⟨rfl, rfl⟩ (by kernel_rfl) rfl plain (by kernel_rfl)
#print axioms card
end Go.Proofs.YtjedhmoehepbnaaDoor.treeBinds
