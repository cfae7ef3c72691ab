/- The walk of the law TreeChecks. -/
import Derived.Test.YtjedhmoehepbnaaDoorTreeBentF
namespace Go.Proofs.YtjedhmoehepbnaaDoor
open Go.RowKit Go.Sort
set_option linter.unusedVariables false
attribute [local go_sem ↓] wp_alloc_head wp_load_head
set_option maxHeartbeats 8000000 in
set_option maxRecDepth 100000 in
theorem checks_some (ao : Option Addr) (n0 c : Nat) (xs : List UInt8) (i z0 z1 z2 z3 : Int) (M : Nat) (w : World) (hx : BytesIn w ao n0 c xs) (hM : min n0 20 = M) (hM0 : 0 < M) (hT : Tabs w) :
    Calls Tryd.prog 6 #[.slice ao n0 c, .int .i64 i, .agg #[.int .i64 z0, .int .i64 z1, .int .i64 z2, .int .i64 z3]] w fun e w' => e = .returned (.bool true) ∧ Below w.heap.size w w' := by
  obtain ⟨l, el⟩ : ∃ l, Tree.words xs M = l := ⟨_, rfl⟩
  have hM20 : M ≤ 20 := by omega
  have ll : l.length = M := by rw [← el]; exact words_length xs M
  have ls : Short l := by rw [← el]; exact words_short xs M
  have CS := Lib.hid (fun (W : World) (g : Below w.heap.size w W) => rstrings_any ao n0 c xs W (hx.below g))
  rw [hM, el] at CS
  have HT := Lib.hid hT
  have LL := Lib.hid ll
  have LS := Lib.hid ls
  have b0 : Below w.heap.size w (w.alloc (.cells #[.int .i64 z0, .int .i64 z1, .int .i64 z2, .int .i64 z3] 51)) := (Below.refl _ _).alloc (Nat.le_refl _) _
  have Q0 := Lib.hid (heap_alloc_new w (.cells #[.int .i64 z0, .int .i64 z1, .int .i64 z2, .int .i64 z3] 51))
  have B0 := Lib.hid b0
  clear hx hT el ll ls hM b0
  obtain ⟨k, hk, ek, e1, e2⟩ := mod_idx i M hM0
  have z7 : ¬ (M = 0) := by omega
  have zd : ((M : Int) == 0) = false := by simp; omega
  have zp : decide ((0 : Int) < (M : Int)) = true := by simp; omega
  have zp2 : decide (0 < M) = true := by simp; omega
  have y1 : IntKind.i64.wrap (Int.tmod i (M : Int)) = Int.tmod i (M : Int) := IntWalk.i64_in _ (by omega)
  have y2 : IntKind.i64.wrap (Int.tmod i (M : Int) + (M : Int)) = Int.tmod i (M : Int) + (M : Int) := IntWalk.i64_in _ (by omega)
  have y4 : decide ((0 : Int) ≤ (k : Int)) = true := by simp
  have y5 : decide ((k : Int) < (M : Int)) = true := by simp; omega
  have y6 : (0 : Int) ≤ (k : Int) := by omega
  have y7 : (k : Int) < (M : Int) := by omega
  have y8 : (k : Int).toNat = k := by omega
  go_enter Tryd.func6, Tryd.ntmps6
  go_wp2_with fail
  generalize w.alloc (.cells #[.int .i64 z0, .int .i64 z1, .int .i64 z2, .int .i64 z3] 51) = W0 at *
  refine (sanity12_any _ (HT.out.below B0.out)).mono ?_
  rintro e W1 ⟨rfl, hb1⟩
  have B1 := Lib.hid (below_join B0.out hb1)
  have Q1 := Lib.hid (heap_below Q0.out hb1)
  clear hb1 Q0 B0
  go_wp2_with fail
  refine (CS.out _ B1.out).mono ?_
  rintro e W2 ⟨v, rfl, hown, hb2⟩
  have B2 := Lib.hid (below_join B1.out hb2)
  have Q2 := Lib.hid (heap_below Q1.out hb2)
  have hv := hown.is LS.out
  obtain ⟨av, cv, ev, hcv⟩ := strs_sl hv
  rw [LL.out] at ev hcv
  subst ev
  have h32 : l.length ≤ 2 ^ 5 := by rw [LL.out]; show M ≤ 32; omega
  obtain ⟨h, eh⟩ : ∃ h, Tree.root 5 l = h := ⟨_, rfl⟩
  have lh : h.length = 32 := by rw [← eh]; exact Tree.root_length _ _
  have LH := Lib.hid lh
  have CH := Lib.hid (head_any 5 l av M cv h W2 LL.out h32 hv eh)
  have HV := Lib.hid hv
  have H32 := Lib.hid h32
  clear hb2 hown hv h32 eh lh B1 Q1 CS hcv
  go_wp2_with fail
  refine CH.out.mono ?_
  rintro e W3 ⟨rfl, hb3⟩
  go_wp2_with ((with_reducible refine op_is ⟨none, .store 36 (.tmp 9) (.tmp 22), _, _, _, _⟩ ?_); refine store_head LH.out (.tmp 9) (.tmp 22) rfl rfl rfl rfl rfl ?_)
  have bw4 : Below W2.heap.size W2 (W3.alloc (.cells (headArr M h) 36)) := hb3.alloc hb3.size _
  have P9 := Lib.hid (heap_alloc_new W3 (.cells (headArr M h) 36))
  have B4 := Lib.hid (below_join B2.out bw4)
  have Q4 := Lib.hid (heap_below Q2.out bw4)
  have HV4 := Lib.hid (HV.out.below bw4)
  clear bw4 hb3 CH B2 Q2
  generalize W3.alloc (.cells (headArr M h) 36) = W4 at *
  have CP := Lib.hid (rpath_yes 5 l (.slice av M cv) k _ W4 H32.out (by omega) HV4.out (by rw [LL.out]; exact hk) rfl)
  refine CP.out.mono ?_
  rintro e W5 ⟨vp, rfl, own5, hb5⟩
  have hpl : (Tree.path 5 l k).length ≤ 1000 := by have := Tree.path_length 5 l k; omega
  generalize Tree.path 5 l k = hs at *
  obtain ⟨pa, pc, ev⟩ := hs_sl own5.is
  obtain ⟨pm, epm⟩ : ∃ x, hs.length = x := ⟨_, rfl⟩
  rw [epm] at ev hpl
  subst ev
  have EPM := Lib.hid epm
  have B5 := Lib.hid (below_join B4.out hb5)
  have Q5 := Lib.hid (heap_below Q4.out hb5)
  have P95 := Lib.hid (heap_below P9.out hb5)
  have OWN5 := Lib.hid own5
  have HPL := Lib.hid hpl
  obtain ⟨hsh, ⟨e, _⟩ | ⟨b', o', c', e, _, _, _, sa⟩⟩ := HV4.out.below hb5
  · have := LL.out; rw [e] at this; simp at this; omega
  injection e with e3 e4 e5
  subst e3 e5
  have hs1 := sa k (by rw [LL.out]; exact hk)
  have hz := hsh.getD k
  generalize l.getD k ByteArray.empty = leaf at *
  clear sa hsh e4
  have f1 := isHeadAt LH.out P95.out
  have f2 := rowOf_at P95.out
  obtain ⟨sz, esz⟩ : ∃ x, IntKind.i64.wrap ((M : Int) + z2) = x := ⟨_, rfl⟩
  have hszl : sz ≤ 9223372036854775807 := by rw [← esz]; exact wrap_le _
  have P13 := Lib.hid (heap_alloc_new W5 (.cells (headArr M h) 36))
  have g1 := head_int P13.out
  have g2 : (W5.alloc (.cells (headArr M h) 36)).frozen? ⟨W5.heap.size, 0, none⟩ = false := by have := P13.out; simp only [World.frozen?, this]; rfl
  have q2 : W5.cell? ⟨w.heap.size, 2, none⟩ = some (.int .i64 z2) := (cell_of_row _ _ 2 _ _ _ Q5.out).trans rfl
  have q2a : (W5.alloc (.cells (headArr M h) 36)).cell? ⟨w.heap.size, 2, none⟩ = some (.int .i64 z2) := (((Below.refl W5.heap.size W5).alloc (Nat.le_refl _) _).cell (p := ⟨w.heap.size, 2, none⟩) (block_lt_of_cell q2)).trans q2
  clear hb5 own5 CP HV HV4 q2 epm
  go_wp2_with ((with_reducible refine op_is ⟨none, .store 36 (.tmp 13) (.tmp 54), _, _, _, _⟩ ?_); refine store_head LH.out (.tmp 13) (.tmp 54) rfl rfl rfl rfl rfl ?_)
  rw [head_setSize]
  clear f1 f2 g1 g2 q2a esz P13
  obtain ⟨leafx, elx⟩ : ∃ x, leaf ++ (⟨#[120]⟩ : ByteArray) = x := ⟨_, rfl⟩
  have hzx : leafx.size ≤ 140737488354000 := by rw [← elx, ByteArray.size_append, show (⟨#[120]⟩ : ByteArray).size = 1 from rfl]; omega
  have hzl : leaf.size ≤ 140737488354000 := by omega
  rw [elx]
  have bx : Below W5.heap.size W5 ((W5.alloc (.cells (headArr sz h) 36)).alloc (.cells #[.string leaf, .string leafx] 9)) := ((Below.refl _ _).alloc (Nat.le_refl _) _).alloc (by simp) _
  have CK0 : Hid (ChkAt w z0 z1 z2 z3 W3.heap.size W5.heap.size (W5.heap.size + 1) M sz h leaf leafx W4.heap.size (.slice pa pm pc) hs ((W5.alloc (.cells (headArr sz h) 36)).alloc (.cells #[.string leaf, .string leafx] 9))) := ⟨below_join B5.out bx, heap_below Q5.out bx, heap_below P95.out bx, heap2_old W5 _ _, heap2_new W5 _ _, OWN5.out.below bx⟩
  have HZL := Lib.hid hzl
  have HZX := Lib.hid hzx
  have HSZ := Lib.hid hszl
  clear bx elx B5 Q5 P95 OWN5 Q4 P9 B4 hz hzl hzx hszl
  generalize (W5.alloc (.cells (headArr sz h) 36)).alloc (.cells #[.string leaf, .string leafx] 9) = W6 at *
  go_loopw [66] (fun v wr => ∃ a : Nat, a ≤ 2 ∧ v = .int .i64 a ∧ ChkAt w z0 z1 z2 z3 W3.heap.size W5.heap.size (W5.heap.size + 1) M sz h leaf leafx W4.heap.size (.slice pa pm pc) hs wr) (fun v _ => 2 - (intOf v).toNat)
  case atStart => exact ⟨0, by omega, rfl, CK0.out⟩
  case round =>
    obtain ⟨a, ha, rfl, hck⟩ := hrel
    clear CK0
    by_cases ha2 : a < 2
    · have hda : decide ((a : Int) < 2) = true := by simp; omega
      have r1 : (0 : Int) ≤ (a : Int) := by omega
      have r2 : (a : Int) < 2 := by omega
      have r3 : (a : Int).toNat = a := by omega
      obtain ⟨x, hzx, hcx⟩ : ∃ x : ByteArray, x.size ≤ 140737488354000 ∧ wr.cell? ⟨W5.heap.size + 1, a, none⟩ = some (.string x) := by
        have : a = 0 ∨ a = 1 := by omega
        rcases this with rfl | rfl
        · exact ⟨leaf, HZL.out, (cell_of_row _ _ 0 _ _ _ hck.s).trans rfl⟩
        · exact ⟨leafx, HZX.out, (cell_of_row _ _ 1 _ _ _ hck.s).trans rfl⟩
      have d0 : wr.cell? ⟨w.heap.size, 0, none⟩ = some (.int .i64 z0) := (cell_of_row _ _ 0 _ _ _ hck.q).trans rfl
      have d1 : wr.cell? ⟨w.heap.size, 1, none⟩ = some (.int .i64 z1) := (cell_of_row _ _ 1 _ _ _ hck.q).trans rfl
      have CB := Lib.hid (bent_any (.slice pa pm pc) hs z0 z1 W4.heap.size wr hck.own (by have := EPM.out; have := HPL.out; omega))
      have CK := Lib.hid hck
      have HZ := Lib.hid hzx
      clear hck hzx
      go_wp2_with fail
      refine CB.out.mono ?_
      rintro e w2 ⟨v2, hs2, rfl, own2, hl2, hb2⟩
      obtain ⟨qa, qc, ev2⟩ := hs_sl own2.is
      obtain ⟨qm, eqm⟩ : ∃ x, hs2.length = x := ⟨_, rfl⟩
      rw [eqm] at ev2
      subst ev2
      have EQM := Lib.hid eqm
      have bz : Below w2.heap.size w2 (w2.alloc (.cells #[.slice pa pm pc, .slice qa qm qc] 38)) := (Below.refl _ _).alloc (Nat.le_refl _) _
      have CK2 := Lib.hid (CK.out.step (below_join hb2 bz))
      have LB := Lib.hid (heap_alloc_new w2 (.cells #[.slice pa pm pc, .slice qa qm qc] 38))
      have I2 := Lib.hid (own2.is.below bz)
      clear bz CB d0 d1 hcx own2 hl2 eqm hb2
      go_wp2_with fail
      generalize w2.alloc (.cells #[.slice pa pm pc, .slice qa qm qc] 38) = W8 at *
      go_loopw [80] (fun v wr => ∃ b : Nat, b ≤ 2 ∧ v = .int .i64 b ∧ ChkAt w z0 z1 z2 z3 W3.heap.size W5.heap.size (W5.heap.size + 1) M sz h leaf leafx W4.heap.size (.slice pa pm pc) hs wr ∧ wr.heap[w2.heap.size]? = some (.cells #[.slice pa pm pc, .slice qa qm qc] 38 (0, 0)) ∧ IsHs wr (.slice qa qm qc) hs2) (fun v _ => 2 - (intOf v).toNat)
      case atStart => exact ⟨0, by omega, rfl, CK2.out, LB.out, I2.out⟩
      case round =>
        obtain ⟨b, hb, rfl, hck2, hlb, hi2⟩ := hrel
        clear CK2 LB I2 CK
        by_cases hb2 : b < 2
        · have hdb : decide ((b : Int) < 2) = true := by simp; omega
          have t1 : (0 : Int) ≤ (b : Int) := by omega
          have t2 : (b : Int) < 2 := by omega
          have t3 : (b : Int).toNat = b := by omega
          obtain ⟨ra, rm, rc, rh, hcr, hir, hlr⟩ : ∃ (ra : Option Addr) (rm rc : Nat) (rh : List Tree.H), wr.cell? ⟨w2.heap.size, b, none⟩ = some (.slice ra rm rc) ∧ IsHs wr (.slice ra rm rc) rh ∧ rh.length = rm := by
            have : b = 0 ∨ b = 1 := by omega
            rcases this with rfl | rfl
            · exact ⟨pa, pm, pc, hs, (cell_of_row _ _ 0 _ _ _ hlb).trans rfl, hck2.own.is, EPM.out⟩
            · exact ⟨qa, qm, qc, hs2, (cell_of_row _ _ 1 _ _ _ hlb).trans rfl, hi2, EQM.out⟩
          have hTq := HT.out.below hck2.below
          obtain ⟨b1, cf1, cF1⟩ := fits_agree M (k : Int) h x ra rm rc rh wr (by omega) hir hlr hTq HZ.out LH.out
          obtain ⟨b2, cf2, cF2⟩ := fits_agree sz (k : Int) h x ra rm rc rh wr HSZ.out hir hlr hTq HZ.out LH.out
          obtain ⟨n3, en3⟩ : ∃ x, IntKind.i64.wrap ((k : Int) + z3) = x := ⟨_, rfl⟩
          obtain ⟨b3, cf3, cF3⟩ := fits_agree M n3 h x ra rm rc rh wr (by omega) hir hlr hTq HZ.out LH.out
          have C1 := Lib.hid cf1
          have C2 := Lib.hid cF1
          have C3 := Lib.hid cf2
          have C4 := Lib.hid cF2
          have C5 := Lib.hid cf3
          have C6 := Lib.hid cF3
          have L9 := Lib.hid (head_load LH.out hck2.h9)
          have L13 := Lib.hid (head_load LH.out hck2.h13)
          have q3 : wr.cell? ⟨w.heap.size, 3, none⟩ = some (.int .i64 z3) := (cell_of_row _ _ 3 _ _ _ hck2.q).trans rfl
          have q3r : ∀ d os, (grow (redrawn wr d) os).cell? ⟨w.heap.size, 3, none⟩ = some (.int .i64 z3) := fun d os => ((below_regrown wr d os).cell (p := ⟨w.heap.size, 3, none⟩) (block_lt_of_cell q3)).trans q3
          have K2 := Lib.hid hck2
          have LB2 := Lib.hid hlb
          have I3 := Lib.hid hi2
          clear cf1 cF1 cf2 cF2 cf3 cF3 hck2 hlb hi2 hir hlr hTq
          go_wp2_with fail
          refine wp_region_quiet_below (by kernel_rfl) (by kernel_rfl) ?_
          repeat (first | (refine quiet_load_row (by rfl) _ (.tmp 9) rfl _ _ rfl _ L9.out ?_; simp only [Act.put, List.setIfInBounds_toArray, List.set_cons_zero, List.set_cons_succ]) | (refine quiet_load_row (by rfl) _ (.tmp 13) rfl _ _ rfl _ L13.out ?_; simp only [Act.put, List.setIfInBounds_toArray, List.set_cons_zero, List.set_cons_succ]) | go_big_quiet_step ((first | with_reducible exact Calls.regrown_of (C1.out _ (below_regrown _ _ _)) | with_reducible exact Calls.regrown_of (C2.out _ (below_regrown _ _ _)) | with_reducible exact Calls.regrown_of (C3.out _ (below_regrown _ _ _)) | with_reducible exact Calls.regrown_of (C4.out _ (below_regrown _ _ _)) | with_reducible exact Calls.regrown_of (C5.out _ (below_regrown _ _ _)) | with_reducible exact Calls.regrown_of (C6.out _ (below_regrown _ _ _)))))
          refine wpQuiet_nil ?_
          intro _ hw'
          obtain ⟨⟨dq, osq⟩, hw''⟩ := hw'
          subst hw''
          have hq2 := below_regrown wr dq osq
          have K3 := Lib.hid (K2.out.step hq2)
          have LB3 := Lib.hid (heap_below LB2.out hq2)
          have I4 := Lib.hid (I3.out.below hq2)
          clear hq2 C1 C2 C3 C4 C5 C6 L9 L13 q3 q3r
          generalize grow (redrawn wr dq) osq = WQ at *
          go_wp2_with fail
          go_roundw
          case rel => exact ⟨b + 1, by omega, by go_num, K3.out, LB3.out, I4.out⟩
          case measure => simp [intOf]; omega
        · obtain rfl : b = 2 := by omega
          have K2 := Lib.hid hck2
          clear hck2 hlb hi2
          go_wp2_with fail
          go_roundw
          case rel => exact ⟨a + 1, by omega, by go_num, K2.out⟩
          case measure => simp [intOf]; omega
    · obtain rfl : a = 2 := by omega
      have K2 := Lib.hid hck.below
      clear hck
      go_wp2_with fail
      go_ret
      exact ⟨rfl, K2.out⟩
set_option maxHeartbeats 8000000 in
set_option maxRecDepth 100000 in
theorem checks_neg (ao : Option Addr) (n0 c : Nat) (xs : List UInt8) (i z0 z1 z2 z3 : Int) (M : Nat) (w : World) (hx : BytesIn w ao n0 c xs) (hM : min n0 20 = M) (hM0 : M = 0 ∧ i < 0) (hT : Tabs w) :
    Calls Tryd.prog 6 #[.slice ao n0 c, .int .i64 i, .agg #[.int .i64 z0, .int .i64 z1, .int .i64 z2, .int .i64 z3]] w fun e w' => e = .returned (.bool true) ∧ Below w.heap.size w w' := by
  obtain ⟨l, el⟩ : ∃ l, Tree.words xs M = l := ⟨_, rfl⟩
  have hM20 : M ≤ 20 := by omega
  have ll : l.length = M := by rw [← el]; exact words_length xs M
  have ls : Short l := by rw [← el]; exact words_short xs M
  have CS := Lib.hid (fun (W : World) (g : Below w.heap.size w W) => rstrings_any ao n0 c xs W (hx.below g))
  rw [hM, el] at CS
  have HT := Lib.hid hT
  have LL := Lib.hid ll
  have LS := Lib.hid ls
  have b0 : Below w.heap.size w (w.alloc (.cells #[.int .i64 z0, .int .i64 z1, .int .i64 z2, .int .i64 z3] 51)) := (Below.refl _ _).alloc (Nat.le_refl _) _
  have Q0 := Lib.hid (heap_alloc_new w (.cells #[.int .i64 z0, .int .i64 z1, .int .i64 z2, .int .i64 z3] 51))
  have B0 := Lib.hid b0
  clear hx hT el ll ls hM b0
  have zp : decide ((0 : Int) < (M : Int)) = false := by simp; omega
  have zp2 : decide (0 < M) = false := by simp; omega
  have y4 : decide (0 ≤ i) = false := by simp; omega
  have HM0 := Lib.hid hM0
  clear hM0
  go_enter Tryd.func6, Tryd.ntmps6
  go_wp2_with fail
  generalize w.alloc (.cells #[.int .i64 z0, .int .i64 z1, .int .i64 z2, .int .i64 z3] 51) = W0 at *
  refine (sanity12_any _ (HT.out.below B0.out)).mono ?_
  rintro e W1 ⟨rfl, hb1⟩
  have B1 := Lib.hid (below_join B0.out hb1)
  have Q1 := Lib.hid (heap_below Q0.out hb1)
  clear hb1 Q0 B0
  go_wp2_with fail
  refine (CS.out _ B1.out).mono ?_
  rintro e W2 ⟨v, rfl, hown, hb2⟩
  have B2 := Lib.hid (below_join B1.out hb2)
  have Q2 := Lib.hid (heap_below Q1.out hb2)
  have hv := hown.is LS.out
  obtain ⟨av, cv, ev, hcv⟩ := strs_sl hv
  rw [LL.out] at ev hcv
  subst ev
  have h32 : l.length ≤ 2 ^ 5 := by rw [LL.out]; show M ≤ 32; omega
  obtain ⟨h, eh⟩ : ∃ h, Tree.root 5 l = h := ⟨_, rfl⟩
  have lh : h.length = 32 := by rw [← eh]; exact Tree.root_length _ _
  have LH := Lib.hid lh
  have CH := Lib.hid (head_any 5 l av M cv h W2 LL.out h32 hv eh)
  have HV := Lib.hid hv
  have H32 := Lib.hid h32
  clear hb2 hown hv h32 eh lh B1 Q1 CS hcv
  go_wp2_with fail
  refine CH.out.mono ?_
  rintro e W3 ⟨rfl, hb3⟩
  go_wp2_with ((with_reducible refine op_is ⟨none, .store 36 (.tmp 9) (.tmp 22), _, _, _, _⟩ ?_); refine store_head LH.out (.tmp 9) (.tmp 22) rfl rfl rfl rfl rfl ?_)
  have bw4 : Below W2.heap.size W2 (W3.alloc (.cells (headArr M h) 36)) := hb3.alloc hb3.size _
  have P9 := Lib.hid (heap_alloc_new W3 (.cells (headArr M h) 36))
  have B4 := Lib.hid (below_join B2.out bw4)
  have Q4 := Lib.hid (heap_below Q2.out bw4)
  have HV4 := Lib.hid (HV.out.below bw4)
  clear bw4 hb3 CH B2 Q2
  generalize W3.alloc (.cells (headArr M h) 36) = W4 at *
  have CP := Lib.hid (rpath_no l (.slice av M cv) i W4 HV4.out (by rw [LL.out]; have := HM0.out; omega))
  refine CP.out.mono ?_
  rintro e W5 ⟨vp, rfl, own5, hb5⟩
  have hpl : ([] : List Tree.H).length ≤ 1000 := by simp
  generalize ([] : List Tree.H) = hs at *
  obtain ⟨pa, pc, ev⟩ := hs_sl own5.is
  obtain ⟨pm, epm⟩ : ∃ x, hs.length = x := ⟨_, rfl⟩
  rw [epm] at ev hpl
  subst ev
  have EPM := Lib.hid epm
  have B5 := Lib.hid (below_join B4.out hb5)
  have Q5 := Lib.hid (heap_below Q4.out hb5)
  have P95 := Lib.hid (heap_below P9.out hb5)
  have OWN5 := Lib.hid own5
  have HPL := Lib.hid hpl
  have hz : (⟨#[]⟩ : ByteArray).size ≤ 140737488351232 := by decide
  have f1 := isHeadAt LH.out P95.out
  have f2 := rowOf_at P95.out
  obtain ⟨sz, esz⟩ : ∃ x, IntKind.i64.wrap ((M : Int) + z2) = x := ⟨_, rfl⟩
  have hszl : sz ≤ 9223372036854775807 := by rw [← esz]; exact wrap_le _
  have P13 := Lib.hid (heap_alloc_new W5 (.cells (headArr M h) 36))
  have g1 := head_int P13.out
  have g2 : (W5.alloc (.cells (headArr M h) 36)).frozen? ⟨W5.heap.size, 0, none⟩ = false := by have := P13.out; simp only [World.frozen?, this]; rfl
  have q2 : W5.cell? ⟨w.heap.size, 2, none⟩ = some (.int .i64 z2) := (cell_of_row _ _ 2 _ _ _ Q5.out).trans rfl
  have q2a : (W5.alloc (.cells (headArr M h) 36)).cell? ⟨w.heap.size, 2, none⟩ = some (.int .i64 z2) := (((Below.refl W5.heap.size W5).alloc (Nat.le_refl _) _).cell (p := ⟨w.heap.size, 2, none⟩) (block_lt_of_cell q2)).trans q2
  clear hb5 own5 CP HV HV4 q2 epm
  go_wp2_with ((with_reducible refine op_is ⟨none, .store 36 (.tmp 13) (.tmp 54), _, _, _, _⟩ ?_); refine store_head LH.out (.tmp 13) (.tmp 54) rfl rfl rfl rfl rfl ?_)
  rw [head_setSize]
  clear f1 f2 g1 g2 q2a esz P13
  generalize (⟨#[]⟩ : ByteArray) = leaf at *
  obtain ⟨leafx, elx⟩ : ∃ x, leaf ++ (⟨#[120]⟩ : ByteArray) = x := ⟨_, rfl⟩
  have hzx : leafx.size ≤ 140737488354000 := by rw [← elx, ByteArray.size_append, show (⟨#[120]⟩ : ByteArray).size = 1 from rfl]; omega
  have hzl : leaf.size ≤ 140737488354000 := by omega
  rw [elx]
  have bx : Below W5.heap.size W5 ((W5.alloc (.cells (headArr sz h) 36)).alloc (.cells #[.string leaf, .string leafx] 9)) := ((Below.refl _ _).alloc (Nat.le_refl _) _).alloc (by simp) _
  have CK0 : Hid (ChkAt w z0 z1 z2 z3 W3.heap.size W5.heap.size (W5.heap.size + 1) M sz h leaf leafx W4.heap.size (.slice pa pm pc) hs ((W5.alloc (.cells (headArr sz h) 36)).alloc (.cells #[.string leaf, .string leafx] 9))) := ⟨below_join B5.out bx, heap_below Q5.out bx, heap_below P95.out bx, heap2_old W5 _ _, heap2_new W5 _ _, OWN5.out.below bx⟩
  have HZL := Lib.hid hzl
  have HZX := Lib.hid hzx
  have HSZ := Lib.hid hszl
  clear bx elx B5 Q5 P95 OWN5 Q4 P9 B4 hz hzl hzx hszl
  generalize (W5.alloc (.cells (headArr sz h) 36)).alloc (.cells #[.string leaf, .string leafx] 9) = W6 at *
  go_loopw [66] (fun v wr => ∃ a : Nat, a ≤ 2 ∧ v = .int .i64 a ∧ ChkAt w z0 z1 z2 z3 W3.heap.size W5.heap.size (W5.heap.size + 1) M sz h leaf leafx W4.heap.size (.slice pa pm pc) hs wr) (fun v _ => 2 - (intOf v).toNat)
  case atStart => exact ⟨0, by omega, rfl, CK0.out⟩
  case round =>
    obtain ⟨a, ha, rfl, hck⟩ := hrel
    clear CK0
    by_cases ha2 : a < 2
    · have hda : decide ((a : Int) < 2) = true := by simp; omega
      have r1 : (0 : Int) ≤ (a : Int) := by omega
      have r2 : (a : Int) < 2 := by omega
      have r3 : (a : Int).toNat = a := by omega
      obtain ⟨x, hzx, hcx⟩ : ∃ x : ByteArray, x.size ≤ 140737488354000 ∧ wr.cell? ⟨W5.heap.size + 1, a, none⟩ = some (.string x) := by
        have : a = 0 ∨ a = 1 := by omega
        rcases this with rfl | rfl
        · exact ⟨leaf, HZL.out, (cell_of_row _ _ 0 _ _ _ hck.s).trans rfl⟩
        · exact ⟨leafx, HZX.out, (cell_of_row _ _ 1 _ _ _ hck.s).trans rfl⟩
      have d0 : wr.cell? ⟨w.heap.size, 0, none⟩ = some (.int .i64 z0) := (cell_of_row _ _ 0 _ _ _ hck.q).trans rfl
      have d1 : wr.cell? ⟨w.heap.size, 1, none⟩ = some (.int .i64 z1) := (cell_of_row _ _ 1 _ _ _ hck.q).trans rfl
      have CB := Lib.hid (bent_any (.slice pa pm pc) hs z0 z1 W4.heap.size wr hck.own (by have := EPM.out; have := HPL.out; omega))
      have CK := Lib.hid hck
      have HZ := Lib.hid hzx
      clear hck hzx
      go_wp2_with fail
      refine CB.out.mono ?_
      rintro e w2 ⟨v2, hs2, rfl, own2, hl2, hb2⟩
      obtain ⟨qa, qc, ev2⟩ := hs_sl own2.is
      obtain ⟨qm, eqm⟩ : ∃ x, hs2.length = x := ⟨_, rfl⟩
      rw [eqm] at ev2
      subst ev2
      have EQM := Lib.hid eqm
      have bz : Below w2.heap.size w2 (w2.alloc (.cells #[.slice pa pm pc, .slice qa qm qc] 38)) := (Below.refl _ _).alloc (Nat.le_refl _) _
      have CK2 := Lib.hid (CK.out.step (below_join hb2 bz))
      have LB := Lib.hid (heap_alloc_new w2 (.cells #[.slice pa pm pc, .slice qa qm qc] 38))
      have I2 := Lib.hid (own2.is.below bz)
      clear bz CB d0 d1 hcx own2 hl2 eqm hb2
      go_wp2_with fail
      generalize w2.alloc (.cells #[.slice pa pm pc, .slice qa qm qc] 38) = W8 at *
      go_loopw [80] (fun v wr => ∃ b : Nat, b ≤ 2 ∧ v = .int .i64 b ∧ ChkAt w z0 z1 z2 z3 W3.heap.size W5.heap.size (W5.heap.size + 1) M sz h leaf leafx W4.heap.size (.slice pa pm pc) hs wr ∧ wr.heap[w2.heap.size]? = some (.cells #[.slice pa pm pc, .slice qa qm qc] 38 (0, 0)) ∧ IsHs wr (.slice qa qm qc) hs2) (fun v _ => 2 - (intOf v).toNat)
      case atStart => exact ⟨0, by omega, rfl, CK2.out, LB.out, I2.out⟩
      case round =>
        obtain ⟨b, hb, rfl, hck2, hlb, hi2⟩ := hrel
        clear CK2 LB I2 CK
        by_cases hb2 : b < 2
        · have hdb : decide ((b : Int) < 2) = true := by simp; omega
          have t1 : (0 : Int) ≤ (b : Int) := by omega
          have t2 : (b : Int) < 2 := by omega
          have t3 : (b : Int).toNat = b := by omega
          obtain ⟨ra, rm, rc, rh, hcr, hir, hlr⟩ : ∃ (ra : Option Addr) (rm rc : Nat) (rh : List Tree.H), wr.cell? ⟨w2.heap.size, b, none⟩ = some (.slice ra rm rc) ∧ IsHs wr (.slice ra rm rc) rh ∧ rh.length = rm := by
            have : b = 0 ∨ b = 1 := by omega
            rcases this with rfl | rfl
            · exact ⟨pa, pm, pc, hs, (cell_of_row _ _ 0 _ _ _ hlb).trans rfl, hck2.own.is, EPM.out⟩
            · exact ⟨qa, qm, qc, hs2, (cell_of_row _ _ 1 _ _ _ hlb).trans rfl, hi2, EQM.out⟩
          have hTq := HT.out.below hck2.below
          obtain ⟨b1, cf1, cF1⟩ := fits_agree M i h x ra rm rc rh wr (by omega) hir hlr hTq HZ.out LH.out
          obtain ⟨b2, cf2, cF2⟩ := fits_agree sz i h x ra rm rc rh wr HSZ.out hir hlr hTq HZ.out LH.out
          obtain ⟨n3, en3⟩ : ∃ x, IntKind.i64.wrap (i + z3) = x := ⟨_, rfl⟩
          obtain ⟨b3, cf3, cF3⟩ := fits_agree M n3 h x ra rm rc rh wr (by omega) hir hlr hTq HZ.out LH.out
          have C1 := Lib.hid cf1
          have C2 := Lib.hid cF1
          have C3 := Lib.hid cf2
          have C4 := Lib.hid cF2
          have C5 := Lib.hid cf3
          have C6 := Lib.hid cF3
          have L9 := Lib.hid (head_load LH.out hck2.h9)
          have L13 := Lib.hid (head_load LH.out hck2.h13)
          have q3 : wr.cell? ⟨w.heap.size, 3, none⟩ = some (.int .i64 z3) := (cell_of_row _ _ 3 _ _ _ hck2.q).trans rfl
          have q3r : ∀ d os, (grow (redrawn wr d) os).cell? ⟨w.heap.size, 3, none⟩ = some (.int .i64 z3) := fun d os => ((below_regrown wr d os).cell (p := ⟨w.heap.size, 3, none⟩) (block_lt_of_cell q3)).trans q3
          have K2 := Lib.hid hck2
          have LB2 := Lib.hid hlb
          have I3 := Lib.hid hi2
          clear cf1 cF1 cf2 cF2 cf3 cF3 hck2 hlb hi2 hir hlr hTq
          go_wp2_with fail
          refine wp_region_quiet_below (by kernel_rfl) (by kernel_rfl) ?_
          repeat (first | (refine quiet_load_row (by rfl) _ (.tmp 9) rfl _ _ rfl _ L9.out ?_; simp only [Act.put, List.setIfInBounds_toArray, List.set_cons_zero, List.set_cons_succ]) | (refine quiet_load_row (by rfl) _ (.tmp 13) rfl _ _ rfl _ L13.out ?_; simp only [Act.put, List.setIfInBounds_toArray, List.set_cons_zero, List.set_cons_succ]) | go_big_quiet_step ((first | with_reducible exact Calls.regrown_of (C1.out _ (below_regrown _ _ _)) | with_reducible exact Calls.regrown_of (C2.out _ (below_regrown _ _ _)) | with_reducible exact Calls.regrown_of (C3.out _ (below_regrown _ _ _)) | with_reducible exact Calls.regrown_of (C4.out _ (below_regrown _ _ _)) | with_reducible exact Calls.regrown_of (C5.out _ (below_regrown _ _ _)) | with_reducible exact Calls.regrown_of (C6.out _ (below_regrown _ _ _)))))
          refine wpQuiet_nil ?_
          intro _ hw'
          obtain ⟨⟨dq, osq⟩, hw''⟩ := hw'
          subst hw''
          have hq2 := below_regrown wr dq osq
          have K3 := Lib.hid (K2.out.step hq2)
          have LB3 := Lib.hid (heap_below LB2.out hq2)
          have I4 := Lib.hid (I3.out.below hq2)
          clear hq2 C1 C2 C3 C4 C5 C6 L9 L13 q3 q3r
          generalize grow (redrawn wr dq) osq = WQ at *
          go_wp2_with fail
          go_roundw
          case rel => exact ⟨b + 1, by omega, by go_num, K3.out, LB3.out, I4.out⟩
          case measure => simp [intOf]; omega
        · obtain rfl : b = 2 := by omega
          have K2 := Lib.hid hck2
          clear hck2 hlb hi2
          go_wp2_with fail
          go_roundw
          case rel => exact ⟨a + 1, by omega, by go_num, K2.out⟩
          case measure => simp [intOf]; omega
    · obtain rfl : a = 2 := by omega
      have K2 := Lib.hid hck.below
      clear hck
      go_wp2_with fail
      go_ret
      exact ⟨rfl, K2.out⟩
set_option maxHeartbeats 8000000 in
set_option maxRecDepth 100000 in
theorem checks_none (ao : Option Addr) (n0 c : Nat) (xs : List UInt8) (i z0 z1 z2 z3 : Int) (M : Nat) (w : World) (hx : BytesIn w ao n0 c xs) (hM : min n0 20 = M) (hM0 : M = 0 ∧ 0 ≤ i) (hT : Tabs w) :
    Calls Tryd.prog 6 #[.slice ao n0 c, .int .i64 i, .agg #[.int .i64 z0, .int .i64 z1, .int .i64 z2, .int .i64 z3]] w fun e w' => e = .returned (.bool true) ∧ Below w.heap.size w w' := by
  obtain ⟨l, el⟩ : ∃ l, Tree.words xs M = l := ⟨_, rfl⟩
  have hM20 : M ≤ 20 := by omega
  have ll : l.length = M := by rw [← el]; exact words_length xs M
  have ls : Short l := by rw [← el]; exact words_short xs M
  have CS := Lib.hid (fun (W : World) (g : Below w.heap.size w W) => rstrings_any ao n0 c xs W (hx.below g))
  rw [hM, el] at CS
  have HT := Lib.hid hT
  have LL := Lib.hid ll
  have LS := Lib.hid ls
  have b0 : Below w.heap.size w (w.alloc (.cells #[.int .i64 z0, .int .i64 z1, .int .i64 z2, .int .i64 z3] 51)) := (Below.refl _ _).alloc (Nat.le_refl _) _
  have Q0 := Lib.hid (heap_alloc_new w (.cells #[.int .i64 z0, .int .i64 z1, .int .i64 z2, .int .i64 z3] 51))
  have B0 := Lib.hid b0
  clear hx hT el ll ls hM b0
  have zp : decide ((0 : Int) < (M : Int)) = false := by simp; omega
  have zp2 : decide (0 < M) = false := by simp; omega
  have y4 : decide (0 ≤ i) = true := by simp; omega
  have y5 : decide (i < (M : Int)) = false := by simp; omega
  have HM0 := Lib.hid hM0
  clear hM0
  go_enter Tryd.func6, Tryd.ntmps6
  go_wp2_with fail
  generalize w.alloc (.cells #[.int .i64 z0, .int .i64 z1, .int .i64 z2, .int .i64 z3] 51) = W0 at *
  refine (sanity12_any _ (HT.out.below B0.out)).mono ?_
  rintro e W1 ⟨rfl, hb1⟩
  have B1 := Lib.hid (below_join B0.out hb1)
  have Q1 := Lib.hid (heap_below Q0.out hb1)
  clear hb1 Q0 B0
  go_wp2_with fail
  refine (CS.out _ B1.out).mono ?_
  rintro e W2 ⟨v, rfl, hown, hb2⟩
  have B2 := Lib.hid (below_join B1.out hb2)
  have Q2 := Lib.hid (heap_below Q1.out hb2)
  have hv := hown.is LS.out
  obtain ⟨av, cv, ev, hcv⟩ := strs_sl hv
  rw [LL.out] at ev hcv
  subst ev
  have h32 : l.length ≤ 2 ^ 5 := by rw [LL.out]; show M ≤ 32; omega
  obtain ⟨h, eh⟩ : ∃ h, Tree.root 5 l = h := ⟨_, rfl⟩
  have lh : h.length = 32 := by rw [← eh]; exact Tree.root_length _ _
  have LH := Lib.hid lh
  have CH := Lib.hid (head_any 5 l av M cv h W2 LL.out h32 hv eh)
  have HV := Lib.hid hv
  have H32 := Lib.hid h32
  clear hb2 hown hv h32 eh lh B1 Q1 CS hcv
  go_wp2_with fail
  refine CH.out.mono ?_
  rintro e W3 ⟨rfl, hb3⟩
  go_wp2_with ((with_reducible refine op_is ⟨none, .store 36 (.tmp 9) (.tmp 22), _, _, _, _⟩ ?_); refine store_head LH.out (.tmp 9) (.tmp 22) rfl rfl rfl rfl rfl ?_)
  have bw4 : Below W2.heap.size W2 (W3.alloc (.cells (headArr M h) 36)) := hb3.alloc hb3.size _
  have P9 := Lib.hid (heap_alloc_new W3 (.cells (headArr M h) 36))
  have B4 := Lib.hid (below_join B2.out bw4)
  have Q4 := Lib.hid (heap_below Q2.out bw4)
  have HV4 := Lib.hid (HV.out.below bw4)
  clear bw4 hb3 CH B2 Q2
  generalize W3.alloc (.cells (headArr M h) 36) = W4 at *
  have CP := Lib.hid (rpath_no l (.slice av M cv) i W4 HV4.out (by rw [LL.out]; have := HM0.out; omega))
  refine CP.out.mono ?_
  rintro e W5 ⟨vp, rfl, own5, hb5⟩
  have hpl : ([] : List Tree.H).length ≤ 1000 := by simp
  generalize ([] : List Tree.H) = hs at *
  obtain ⟨pa, pc, ev⟩ := hs_sl own5.is
  obtain ⟨pm, epm⟩ : ∃ x, hs.length = x := ⟨_, rfl⟩
  rw [epm] at ev hpl
  subst ev
  have EPM := Lib.hid epm
  have B5 := Lib.hid (below_join B4.out hb5)
  have Q5 := Lib.hid (heap_below Q4.out hb5)
  have P95 := Lib.hid (heap_below P9.out hb5)
  have OWN5 := Lib.hid own5
  have HPL := Lib.hid hpl
  have hz : (⟨#[]⟩ : ByteArray).size ≤ 140737488351232 := by decide
  have f1 := isHeadAt LH.out P95.out
  have f2 := rowOf_at P95.out
  obtain ⟨sz, esz⟩ : ∃ x, IntKind.i64.wrap ((M : Int) + z2) = x := ⟨_, rfl⟩
  have hszl : sz ≤ 9223372036854775807 := by rw [← esz]; exact wrap_le _
  have P13 := Lib.hid (heap_alloc_new W5 (.cells (headArr M h) 36))
  have g1 := head_int P13.out
  have g2 : (W5.alloc (.cells (headArr M h) 36)).frozen? ⟨W5.heap.size, 0, none⟩ = false := by have := P13.out; simp only [World.frozen?, this]; rfl
  have q2 : W5.cell? ⟨w.heap.size, 2, none⟩ = some (.int .i64 z2) := (cell_of_row _ _ 2 _ _ _ Q5.out).trans rfl
  have q2a : (W5.alloc (.cells (headArr M h) 36)).cell? ⟨w.heap.size, 2, none⟩ = some (.int .i64 z2) := (((Below.refl W5.heap.size W5).alloc (Nat.le_refl _) _).cell (p := ⟨w.heap.size, 2, none⟩) (block_lt_of_cell q2)).trans q2
  clear hb5 own5 CP HV HV4 q2 epm
  go_wp2_with ((with_reducible refine op_is ⟨none, .store 36 (.tmp 13) (.tmp 54), _, _, _, _⟩ ?_); refine store_head LH.out (.tmp 13) (.tmp 54) rfl rfl rfl rfl rfl ?_)
  rw [head_setSize]
  clear f1 f2 g1 g2 q2a esz P13
  generalize (⟨#[]⟩ : ByteArray) = leaf at *
  obtain ⟨leafx, elx⟩ : ∃ x, leaf ++ (⟨#[120]⟩ : ByteArray) = x := ⟨_, rfl⟩
  have hzx : leafx.size ≤ 140737488354000 := by rw [← elx, ByteArray.size_append, show (⟨#[120]⟩ : ByteArray).size = 1 from rfl]; omega
  have hzl : leaf.size ≤ 140737488354000 := by omega
  rw [elx]
  have bx : Below W5.heap.size W5 ((W5.alloc (.cells (headArr sz h) 36)).alloc (.cells #[.string leaf, .string leafx] 9)) := ((Below.refl _ _).alloc (Nat.le_refl _) _).alloc (by simp) _
  have CK0 : Hid (ChkAt w z0 z1 z2 z3 W3.heap.size W5.heap.size (W5.heap.size + 1) M sz h leaf leafx W4.heap.size (.slice pa pm pc) hs ((W5.alloc (.cells (headArr sz h) 36)).alloc (.cells #[.string leaf, .string leafx] 9))) := ⟨below_join B5.out bx, heap_below Q5.out bx, heap_below P95.out bx, heap2_old W5 _ _, heap2_new W5 _ _, OWN5.out.below bx⟩
  have HZL := Lib.hid hzl
  have HZX := Lib.hid hzx
  have HSZ := Lib.hid hszl
  clear bx elx B5 Q5 P95 OWN5 Q4 P9 B4 hz hzl hzx hszl
  generalize (W5.alloc (.cells (headArr sz h) 36)).alloc (.cells #[.string leaf, .string leafx] 9) = W6 at *
  go_loopw [66] (fun v wr => ∃ a : Nat, a ≤ 2 ∧ v = .int .i64 a ∧ ChkAt w z0 z1 z2 z3 W3.heap.size W5.heap.size (W5.heap.size + 1) M sz h leaf leafx W4.heap.size (.slice pa pm pc) hs wr) (fun v _ => 2 - (intOf v).toNat)
  case atStart => exact ⟨0, by omega, rfl, CK0.out⟩
  case round =>
    obtain ⟨a, ha, rfl, hck⟩ := hrel
    clear CK0
    by_cases ha2 : a < 2
    · have hda : decide ((a : Int) < 2) = true := by simp; omega
      have r1 : (0 : Int) ≤ (a : Int) := by omega
      have r2 : (a : Int) < 2 := by omega
      have r3 : (a : Int).toNat = a := by omega
      obtain ⟨x, hzx, hcx⟩ : ∃ x : ByteArray, x.size ≤ 140737488354000 ∧ wr.cell? ⟨W5.heap.size + 1, a, none⟩ = some (.string x) := by
        have : a = 0 ∨ a = 1 := by omega
        rcases this with rfl | rfl
        · exact ⟨leaf, HZL.out, (cell_of_row _ _ 0 _ _ _ hck.s).trans rfl⟩
        · exact ⟨leafx, HZX.out, (cell_of_row _ _ 1 _ _ _ hck.s).trans rfl⟩
      have d0 : wr.cell? ⟨w.heap.size, 0, none⟩ = some (.int .i64 z0) := (cell_of_row _ _ 0 _ _ _ hck.q).trans rfl
      have d1 : wr.cell? ⟨w.heap.size, 1, none⟩ = some (.int .i64 z1) := (cell_of_row _ _ 1 _ _ _ hck.q).trans rfl
      have CB := Lib.hid (bent_any (.slice pa pm pc) hs z0 z1 W4.heap.size wr hck.own (by have := EPM.out; have := HPL.out; omega))
      have CK := Lib.hid hck
      have HZ := Lib.hid hzx
      clear hck hzx
      go_wp2_with fail
      refine CB.out.mono ?_
      rintro e w2 ⟨v2, hs2, rfl, own2, hl2, hb2⟩
      obtain ⟨qa, qc, ev2⟩ := hs_sl own2.is
      obtain ⟨qm, eqm⟩ : ∃ x, hs2.length = x := ⟨_, rfl⟩
      rw [eqm] at ev2
      subst ev2
      have EQM := Lib.hid eqm
      have bz : Below w2.heap.size w2 (w2.alloc (.cells #[.slice pa pm pc, .slice qa qm qc] 38)) := (Below.refl _ _).alloc (Nat.le_refl _) _
      have CK2 := Lib.hid (CK.out.step (below_join hb2 bz))
      have LB := Lib.hid (heap_alloc_new w2 (.cells #[.slice pa pm pc, .slice qa qm qc] 38))
      have I2 := Lib.hid (own2.is.below bz)
      clear bz CB d0 d1 hcx own2 hl2 eqm hb2
      go_wp2_with fail
      generalize w2.alloc (.cells #[.slice pa pm pc, .slice qa qm qc] 38) = W8 at *
      go_loopw [80] (fun v wr => ∃ b : Nat, b ≤ 2 ∧ v = .int .i64 b ∧ ChkAt w z0 z1 z2 z3 W3.heap.size W5.heap.size (W5.heap.size + 1) M sz h leaf leafx W4.heap.size (.slice pa pm pc) hs wr ∧ wr.heap[w2.heap.size]? = some (.cells #[.slice pa pm pc, .slice qa qm qc] 38 (0, 0)) ∧ IsHs wr (.slice qa qm qc) hs2) (fun v _ => 2 - (intOf v).toNat)
      case atStart => exact ⟨0, by omega, rfl, CK2.out, LB.out, I2.out⟩
      case round =>
        obtain ⟨b, hb, rfl, hck2, hlb, hi2⟩ := hrel
        clear CK2 LB I2 CK
        by_cases hb2 : b < 2
        · have hdb : decide ((b : Int) < 2) = true := by simp; omega
          have t1 : (0 : Int) ≤ (b : Int) := by omega
          have t2 : (b : Int) < 2 := by omega
          have t3 : (b : Int).toNat = b := by omega
          obtain ⟨ra, rm, rc, rh, hcr, hir, hlr⟩ : ∃ (ra : Option Addr) (rm rc : Nat) (rh : List Tree.H), wr.cell? ⟨w2.heap.size, b, none⟩ = some (.slice ra rm rc) ∧ IsHs wr (.slice ra rm rc) rh ∧ rh.length = rm := by
            have : b = 0 ∨ b = 1 := by omega
            rcases this with rfl | rfl
            · exact ⟨pa, pm, pc, hs, (cell_of_row _ _ 0 _ _ _ hlb).trans rfl, hck2.own.is, EPM.out⟩
            · exact ⟨qa, qm, qc, hs2, (cell_of_row _ _ 1 _ _ _ hlb).trans rfl, hi2, EQM.out⟩
          have hTq := HT.out.below hck2.below
          obtain ⟨b1, cf1, cF1⟩ := fits_agree M i h x ra rm rc rh wr (by omega) hir hlr hTq HZ.out LH.out
          obtain ⟨b2, cf2, cF2⟩ := fits_agree sz i h x ra rm rc rh wr HSZ.out hir hlr hTq HZ.out LH.out
          obtain ⟨n3, en3⟩ : ∃ x, IntKind.i64.wrap (i + z3) = x := ⟨_, rfl⟩
          obtain ⟨b3, cf3, cF3⟩ := fits_agree M n3 h x ra rm rc rh wr (by omega) hir hlr hTq HZ.out LH.out
          have C1 := Lib.hid cf1
          have C2 := Lib.hid cF1
          have C3 := Lib.hid cf2
          have C4 := Lib.hid cF2
          have C5 := Lib.hid cf3
          have C6 := Lib.hid cF3
          have L9 := Lib.hid (head_load LH.out hck2.h9)
          have L13 := Lib.hid (head_load LH.out hck2.h13)
          have q3 : wr.cell? ⟨w.heap.size, 3, none⟩ = some (.int .i64 z3) := (cell_of_row _ _ 3 _ _ _ hck2.q).trans rfl
          have q3r : ∀ d os, (grow (redrawn wr d) os).cell? ⟨w.heap.size, 3, none⟩ = some (.int .i64 z3) := fun d os => ((below_regrown wr d os).cell (p := ⟨w.heap.size, 3, none⟩) (block_lt_of_cell q3)).trans q3
          have K2 := Lib.hid hck2
          have LB2 := Lib.hid hlb
          have I3 := Lib.hid hi2
          clear cf1 cF1 cf2 cF2 cf3 cF3 hck2 hlb hi2 hir hlr hTq
          go_wp2_with fail
          refine wp_region_quiet_below (by kernel_rfl) (by kernel_rfl) ?_
          repeat (first | (refine quiet_load_row (by rfl) _ (.tmp 9) rfl _ _ rfl _ L9.out ?_; simp only [Act.put, List.setIfInBounds_toArray, List.set_cons_zero, List.set_cons_succ]) | (refine quiet_load_row (by rfl) _ (.tmp 13) rfl _ _ rfl _ L13.out ?_; simp only [Act.put, List.setIfInBounds_toArray, List.set_cons_zero, List.set_cons_succ]) | go_big_quiet_step ((first | with_reducible exact Calls.regrown_of (C1.out _ (below_regrown _ _ _)) | with_reducible exact Calls.regrown_of (C2.out _ (below_regrown _ _ _)) | with_reducible exact Calls.regrown_of (C3.out _ (below_regrown _ _ _)) | with_reducible exact Calls.regrown_of (C4.out _ (below_regrown _ _ _)) | with_reducible exact Calls.regrown_of (C5.out _ (below_regrown _ _ _)) | with_reducible exact Calls.regrown_of (C6.out _ (below_regrown _ _ _)))))
          refine wpQuiet_nil ?_
          intro _ hw'
          obtain ⟨⟨dq, osq⟩, hw''⟩ := hw'
          subst hw''
          have hq2 := below_regrown wr dq osq
          have K3 := Lib.hid (K2.out.step hq2)
          have LB3 := Lib.hid (heap_below LB2.out hq2)
          have I4 := Lib.hid (I3.out.below hq2)
          clear hq2 C1 C2 C3 C4 C5 C6 L9 L13 q3 q3r
          generalize grow (redrawn wr dq) osq = WQ at *
          go_wp2_with fail
          go_roundw
          case rel => exact ⟨b + 1, by omega, by go_num, K3.out, LB3.out, I4.out⟩
          case measure => simp [intOf]; omega
        · obtain rfl : b = 2 := by omega
          have K2 := Lib.hid hck2
          clear hck2 hlb hi2
          go_wp2_with fail
          go_roundw
          case rel => exact ⟨a + 1, by omega, by go_num, K2.out⟩
          case measure => simp [intOf]; omega
    · obtain rfl : a = 2 := by omega
      have K2 := Lib.hid hck.below
      clear hck
      go_wp2_with fail
      go_ret
      exact ⟨rfl, K2.out⟩
theorem walk_TreeChecks {w : World} (ao : Option Addr) (n0 c : Nat) (xs : List UInt8) (hx : BytesIn w ao n0 c xs) (i : Int) (zs : List Int) (hl : zs.length = 4) (hT : Tabs w) :
    Calls Tryd.prog 6 #[.slice ao n0 c, .int .i64 i, .agg (zs.map (Value.int .i64)).toArray] w fun e w' => e = .returned (.bool true) ∧ Below w.heap.size w w' := by
  match zs, hl with
  | [z0, z1, z2, z3], _ =>
    by_cases h0 : min n0 20 = 0
    · by_cases h1 : i < 0
      · exact checks_neg ao n0 c xs i z0 z1 z2 z3 _ w hx rfl ⟨h0, h1⟩ hT
      · exact checks_none ao n0 c xs i z0 z1 z2 z3 _ w hx rfl ⟨h0, by omega⟩ hT
    · exact checks_some ao n0 c xs i z0 z1 z2 z3 _ w hx rfl (by omega) hT
end Go.Proofs.YtjedhmoehepbnaaDoor
