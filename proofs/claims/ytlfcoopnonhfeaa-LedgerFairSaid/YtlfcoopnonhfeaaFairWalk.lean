/- The walk of the law LedgerFair. -/
import Derived.Test.YtlfcoopnonhfeaaSplitsWalk
namespace Go.Proofs.Ytlfcoopnonhfeaa
open Go.RowKit Go.Sort Go.WideShapes Go.ChangeShapes
set_option linter.unusedVariables false
def trimmed (zs : List Int) (k : Nat) : List Int := (zs.take k).map fun z => z % 1000001
theorem trimmed_length (zs : List Int) (k : Nat) (h : k ≤ zs.length) : (trimmed zs k).length = k := by unfold trimmed; rw [List.length_map, List.length_take]; omega
theorem trimmed_succ (zs : List Int) (k : Nat) (h : k < zs.length) : trimmed zs (k + 1) = trimmed zs k ++ [zs.getD k 0 % 1000001] := by
  unfold trimmed
  rw [List.take_succ_eq_append_getElem h, List.map_append]
  simp [h]
theorem trimmed_le (zs : List Int) (k : Nat) : ∀ w ∈ trimmed zs k, 0 ≤ w ∧ w ≤ 1000000 := by
  intro w hw
  obtain ⟨z, _, rfl⟩ := List.mem_map.1 hw
  have h1 := Int.emod_nonneg z (show (1000001 : Int) ≠ 0 by omega)
  have h2 := Int.emod_lt_of_pos z (show (0 : Int) < 1000001 by omega)
  omega
set_option maxHeartbeats 8000000 in
set_option maxRecDepth 100000 in
theorem walk_LedgerFair (am : Int) (ao : Option Addr) (n c : Nat) (zs : List Int) (W : World) (w0 : (Lit.int .u32 am).wf = true) (hA : ArgInts .u32 W ao n c zs) :
    Calls Try.prog 4 #[.int .u32 am, .slice ao n c] W fun e w' => e = .returned (.bool true) ∧ Below W.heap.size W w' := by
  have ham : 0 ≤ am ∧ am ≤ 4294967295 := by simpa [Lit.wf, IntKind.min, IntKind.max, IntKind.signed, IntKind.bits] using w0
  have am0 : 0 ≤ am := ham.1
  obtain ⟨hnc, hc, hzl, hzw, hnil, hcell⟩ := hA
  obtain ⟨m, hm⟩ : ∃ m, min n 12 = m := ⟨_, rfl⟩
  have hm12 : m ≤ 12 := by omega
  have hmn : m ≤ n := by omega
  have HZW := Lib.hid hzw
  have HZL := Lib.hid hzl
  have HCELL := Lib.hid hcell
  have HM := Lib.hid hm
  have a0 : 0 ≤ am % 1000000001 := Int.emod_nonneg _ (by omega)
  have a1 : am % 1000000001 ≤ 1000000000 := by have := Int.emod_lt_of_pos am (show (0 : Int) < 1000000001 by omega); omega
  obtain ⟨a, ha⟩ : ∃ a, am % 1000000001 = a := ⟨_, rfl⟩
  rw [ha] at a0 a1
  have AM := Lib.hid ha
  clear hzl hzw hcell hnil hm w0 ham ha
  go_enter Try.func4, Try.ntmps4
  go_wp2_with fail
  refine (sanity_any W).mono ?_
  rintro e w1 ⟨rfl, hb⟩
  have B1 := Lib.hid hb
  clear hb
  go_upto_block 0 with fail
  rw [AM.out]
  go_cut [7, 8] (fun v s wx => s = .int .i64 (trimmed zs m).sum ∧ wx.ownsRow W.heap.size 3 1 v (trimmed zs m).length ((trimmed zs m).map (Value.int .i64)) ∧ Below W.heap.size W wx)
  case first =>
    go_wp2_with fail
    go_loopw [7, 8, 9] (fun v s i wr => ∃ k : Nat, k ≤ m ∧ i = .int .i64 k ∧ s = .int .i64 (trimmed zs k).sum ∧ wr.ownsRow W.heap.size 3 1 v (trimmed zs k).length ((trimmed zs k).map (Value.int .i64)) ∧ Below W.heap.size W wr) (fun _ _ i _ => m - (intOf i).toNat)
    case atStart => exact ⟨0, Nat.zero_le _, rfl, by simp [trimmed], ⟨by simp, .inl ⟨rfl, by simp [trimmed]⟩⟩, B1.out⟩
    case round =>
      obtain ⟨k, hk, rfl, rfl, hO, hB⟩ := hrel
      have HO := Lib.hid hO
      have HB := Lib.hid hB
      clear hO hB B1
      by_cases hlt : k < m
      · have d1 : decide ((k : Int) < (n : Int)) = true := by simp; omega
        have d1' : decide (k < n) = true := by simp; omega
        have d2 : decide ((k : Int) < 12) = true := by simp; omega
        have d2' : decide (k < 12) = true := by simp; omega
        obtain ⟨b, off, rfl, hcl⟩ := HCELL.out (by omega)
        have ck := hcl k (by omega)
        have ckr : wr.cell? ⟨b, off + k, none⟩ = some (.int .u32 (zs.getD k 0)) := (HB.out.cell (p := ⟨b, off + k, none⟩) (block_lt_of_cell ck)).trans ck
        have hkl : k < zs.length := by rw [HZL.out]; omega
        have hmem : zs.getD k 0 ∈ zs := by
          have : zs.getD k 0 = zs[k] := by simp [hkl]
          rw [this]; exact List.getElem_mem hkl
        have hz : 0 ≤ zs.getD k 0 ∧ zs.getD k 0 ≤ 4294967295 := by simpa [Lit.wf, IntKind.min, IntKind.max, IntKind.signed, IntKind.bits] using HZW.out _ hmem
        have ET := Lib.hid (trimmed_succ zs k hkl)
        have LT := Lib.hid (trimmed_length zs k (Nat.le_of_lt hkl))
        have sb := Led.sum_le (trimmed_le zs k)
        rw [LT.out] at sb
        generalize zs.getD k 0 = z at *
        have z0 : 0 ≤ z := hz.1
        have r0 := Int.emod_nonneg z (show (1000001 : Int) ≠ 0 by omega)
        have r1 := Int.emod_lt_of_pos z (show (0 : Int) < 1000001 by omega)
        obtain ⟨y, hy⟩ : ∃ y, z % 1000001 = y := ⟨_, rfl⟩
        rw [hy] at r0 r1
        have EY := Lib.hid hy
        obtain ⟨ws, hws⟩ : ∃ ws, trimmed zs k = ws := ⟨_, rfl⟩
        rw [hws] at HO sb ⊢
        have EW := Lib.hid hws
        generalize hS : ws.sum = S at *
        have ES := Lib.hid hS
        have s0 : 0 ≤ S := sb.1
        have s1 : S ≤ 12000000 := by omega
        have ga := World.grownBy_alloc wr (.cells #[.int .i64 y] 3) none
        have OA := Lib.hid (owns_kept HO.out ga (fun b hb e => by cases e))
        have NA := Lib.hid (heap_alloc_new wr (.cells #[.int .i64 y] 3))
        have BA : Hid (Below W.heap.size W (wr.alloc (.cells #[.int .i64 y] 3))) := HB.out.alloc HB.out.size _
        have LW : Hid (ws.length = k) := by show _ = _; rw [← EW.out]; exact LT.out
        have JB : Hid (k ≤ 100000) := by show _ ≤ _; omega
        clear hcl ck hkl hmem hz sb ga hws hS HO LT
        go_upto_region 9 with (at_builtin; refine wpList_append_int rfl (.tmp 30) (.tmp 37) rfl W.heap.size u7 ws y wr.heap.size rfl rfl OA.out NA.out (by rw [LW.out]; exact JB.out) BA.out.size ?_; intro v2 w2 hown2 hg2 hv2)
        have b2 : Below W.heap.size W w2 := BA.out.grown hg2 BA.out.size (fun b e => (owns_lt OA.out b e).1)
        have B2 := Lib.hid b2
        have O2 := Lib.hid hown2
        obtain ⟨g1, cap1, hf1, _, hp1, _, _⟩ := IntsPart.of_owns hown2 (by simp)
        have el : (ws ++ [y]).length = k + 1 := by rw [List.length_append, LW.out]; rfl
        rw [el] at hf1
        have c2 := hp1.cell k (by rw [el]; omega)
        have ev : (ws ++ [y]).getD k 0 = y := by
          rw [List.getD_eq_getElem?_getD, List.getElem?_append_right (by rw [LW.out]; exact Nat.le_refl _), LW.out]
          simp
        rw [ev] at c2
        clear b2 hown2 hg2 hv2 hp1 el ev OA NA BA ckr
        subst hf1
        go_wp2_with fail
        go_roundw
        case rel =>
          refine ⟨k + 1, by omega, by go_num, ?_, ?_, B2.out⟩
          · rw [ET.out, EW.out, EY.out, List.sum_append, ES.out]; simp
          · rw [ET.out, EW.out, EY.out]; exact O2.out
        case measure => simp [intOf]; omega
      · obtain rfl : k = m := by omega
        by_cases hn : k < n
        · have d1 : decide ((k : Int) < (n : Int)) = true := by simp; omega
          have d1' : decide (k < n) = true := by simp; omega
          have e12 : k = 12 := by have := HM.out; omega
          have d2 : decide ((k : Int) < 12) = false := by simp; omega
          have d2' : decide (k < 12) = false := by simp; omega
          clear e12 hn
          go_wp2_with fail
          go_meet
          exact ⟨rfl, HO.out, HB.out⟩
        · have d1 : decide ((k : Int) < (n : Int)) = false := by simp; omega
          have d1' : decide (k < n) = false := by simp; omega
          clear hn
          go_wp2_with fail
          go_meet
          exact ⟨rfl, HO.out, HB.out⟩
  case rest =>
    obtain ⟨rfl, hO, hB⟩ := hcut
    have hml : m ≤ zs.length := by rw [HZL.out]; exact hmn
    have hl := trimmed_length zs m hml
    have hle := trimmed_le zs m
    obtain ⟨ws, hws⟩ : ∃ ws, trimmed zs m = ws := ⟨_, rfl⟩
    rw [hws] at hO hl hle ⊢
    have HO := Lib.hid hO
    have HB := Lib.hid hB
    have HL := Lib.hid hl
    have HLE := Lib.hid hle
    have sb := Led.sum_le hle
    rw [hl] at sb
    obtain ⟨S, hS⟩ : ∃ S, ws.sum = S := ⟨_, rfl⟩
    rw [hS] at sb ⊢
    have HS := Lib.hid hS
    have s0 : 0 ≤ S := sb.1
    have s1 : S ≤ 12000000 := by omega
    obtain ⟨ao8, cap8, hu7⟩ := (owns_at hO).slice
    rw [hl] at hu7
    subst hu7
    have OAT := Lib.hid (owns_at hO)
    clear hO hB hml hl hle hws sb hS
    have W19 : Hid (ws.length ≤ 19) := by show _ ≤ _; rw [HL.out]; omega
    by_cases hz : S = 0
    · subst hz
      have nf : Hid (¬ Led.Fit a ws) := fun h => h.sum HS.out
      go_wp2_with fail
      refine (split_any a ws wc _ OAT.out W19.out).mono ?_
      intro e w3 h3
      have hsn : Led.split a ws = none := by
        unfold Led.split
        rw [if_neg (fun h2 => nf.out ((Led.fit_iff a ws).1 h2))]
      unfold SplitOf at h3
      rw [hsn] at h3
      obtain ⟨rfl, hb3⟩ := h3
      have B3 : Hid (Below W.heap.size W w3) := HB.out.trans (hb3.mono HB.out.size)
      clear hb3 hsn
      go_wp2_with fail
      go_ret
      exact ⟨rfl, B3.out⟩
    · have z1 : (S == 0) = false := by simpa using hz
      have hF : Led.Fit a ws := ⟨a0, a1, by rw [HL.out]; omega, HLE.out, by rw [HS.out]; exact hz⟩
      have FIT := Lib.hid hF
      have hsp : Led.split a ws = some (Led.parts a ws) := by
        unfold Led.split
        rw [if_pos ((Led.fit_iff a ws).2 hF)]
      have SP := Lib.hid hsp
      have m0 : 0 < m := by have := hF.len_pos; rw [HL.out] at this; exact this
      have sp1 : 1 ≤ S := by omega
      clear hF hsp hz
      go_wp2_with fail
      refine (split_own SP.out OAT.out W19.out).mono ?_
      rintro e w3 ⟨g, rfl, h3, hb3⟩
      rw [Led.parts_length, HL.out]
      have F3 := Lib.hid h3
      have OA3 := Lib.hid (OAT.out.below hb3)
      have B3 : Hid (Below W.heap.size W w3) := HB.out.trans (hb3.mono HB.out.size)
      obtain ⟨g8, rfl, hc8⟩ := OA3.out.cell (by rw [HL.out]; exact m0)
      rw [HL.out] at hc8
      have C8 := Lib.hid hc8
      clear h3 hb3 OAT HB HO hc8
      have hmm : ((m : Int) != (m : Int)) = false := by simp
      have hmm2 : (m != m) = false := by simp
      go_wp2_with fail
      clear hmm hmm2
      go_loopw [12, 13] (fun tv iv wr => ∃ j : Nat, j ≤ m ∧ iv = .int .i64 j ∧ tv = .int .i64 ((Led.parts a ws).take j).sum ∧ Below w3.heap.size w3 wr) (fun _ iv _ => m - (intOf iv).toNat)
      case atStart => exact ⟨0, Nat.zero_le _, rfl, by simp, Below.refl _ _⟩
      case round =>
        obtain ⟨wo, rfl⟩ : ∃ wo : World, wo = wr := ⟨_, rfl⟩
        obtain ⟨j, hj, rfl, rfl, hB⟩ := hrel
        have HB := Lib.hid hB
        clear hB
        by_cases hlt : j < m
        · have hjp : j < (Led.parts a ws).length := by rw [Led.parts_length, HL.out]; exact hlt
          have hjw : j < ws.length := by rw [HL.out]; exact hlt
          have cl0 := F3.out.cell j hjp
          have cl : wo.cell? ⟨g, j, none⟩ = some (.int .i64 ((Led.parts a ws).getD j 0)) := (HB.out.cell (p := ⟨g, j, none⟩) (block_lt_of_cell cl0)).trans cl0
          have cw0 := C8.out j hlt
          have cw : wo.cell? ⟨g8, j, none⟩ = some (.int .i64 (ws.getD j 0)) := (HB.out.cell (p := ⟨g8, j, none⟩) (block_lt_of_cell cw0)).trans cw0
          rw [Led.parts_getD a ws hjw] at cl
          have pl := Led.part_le FIT.out (Led.left a ws).toNat j hjw
          have pc := Led.part_close FIT.out j hjw
          rw [HS.out] at pc
          have hm2 := FIT.out.mul (Led.mem_getD hjw)
          have tb := sum_map_bd ((Led.parts a ws).take j) (fun x => x) 1000000000000001 (fun x hx => by
            obtain ⟨y, hy1, hy2⟩ := List.mem_iff_getElem.1 (List.mem_of_mem_take hx)
            have h1 : y < ws.length := by rw [Led.parts_length] at hy1; exact hy1
            have h2 := Led.parts_getD a ws h1
            have h3 : (Led.parts a ws).getD y 0 = x := by
              rw [List.getD_eq_getElem?_getD, List.getElem?_eq_getElem hy1, hy2]; rfl
            rw [h3] at h2
            rw [h2]
            exact Led.part_le FIT.out _ y h1)
          rw [List.map_id', List.length_take] at tb
          have TS : Hid (((Led.parts a ws).take (j + 1)).sum = ((Led.parts a ws).take j).sum + Led.part a ws (Led.left a ws).toNat j) := by
            show _ = _
            rw [sum_take_succ _ _ hjp, Led.parts_getD a ws hjw]
          generalize hp : Led.part a ws (Led.left a ws).toNat j = p at *
          generalize hx : ws.getD j 0 = x at *
          generalize ((Led.parts a ws).take j).sum = t at *
          have HP := Lib.hid hp
          have HX := Lib.hid hx
          have p0 : 0 ≤ p := pl.1
          have p1 : p ≤ 1000000000000001 := pl.2
          have t0 : 0 ≤ t := tb.1
          have t1 : t ≤ 20000000000000000 := by have := tb.2; omega
          have q0 : 0 ≤ a * x := hm2.1
          have q1 : a * x ≤ 1000000000000000 := hm2.2
          have v0 : -12000000 ≤ p * S := by omega
          have v1 : p * S ≤ 1000000012000000 := by omega
          have kept : ∀ (a : Addr) (v : Value), wo.cell? a = some v → ∀ dd os, (grow (redrawn wo dd) os).cell? a = some v := fun a v ha dd os => ((below_regrown wo dd os).cell (block_lt_of_cell ha)).trans ha
          have X1 := kept _ _ cl
          have X2 := kept _ _ cw
          have j0 : (0 : Int) ≤ (j : Int) := by omega
          have j1 : (j : Int) < (m : Int) := by omega
          have j2 : (j : Int).toNat = j := by omega
          obtain ⟨ps, hps⟩ : ∃ y, p * S = y := ⟨_, rfl⟩
          obtain ⟨ax, hax⟩ : ∃ y, a * x = y := ⟨_, rfl⟩
          rw [hps, hax] at pc
          have W1 : Hid (wrap64 (wrap64 ps - wrap64 ax) = ps - ax) := by
            show _ = _
            rw [IntWalk.wrap64_in ps ⟨by omega, by omega⟩, IntWalk.wrap64_in ax ⟨by omega, by omega⟩, IntWalk.wrap64_in (ps - ax) ⟨by omega, by omega⟩]
          have b1 : decide (p < 0) = false := by simp; omega
          have b2 : decide (S ≤ ps - ax) = false := by simp; omega
          have b3 : decide (ps - ax ≤ -S) = false := by simp; omega
          have CL := Lib.hid cl
          clear cl0 cw0 pl hm2 tb kept hp hx hjp hjw
          clear pc
          go_upto_region 20 with fail
          clear v0 v1 q0 q1
          refine wp_region_quiet_below (by kernel_rfl) (by kernel_rfl) ?_
          repeat (go_big_quiet_step (fail))
          refine wpQuiet_nil ?_
          intro _ hw'
          obtain ⟨⟨dq, osq⟩, hw''⟩ := hw'
          subst hw''
          rw [W1.out]
          have B5 := Lib.hid (below_join HB.out (below_regrown wo dq osq))
          have cl5 := X1 dq osq
          clear X1 X2 HB
          obtain ⟨d, hd⟩ : ∃ d, ps - ax = d := ⟨_, rfl⟩
          rw [hd] at b2 b3 ⊢
          clear hd W1 hps hax
          show Exit.then _ _ _ _ (grow (redrawn wo dq) osq)
          generalize grow (redrawn wo dq) osq = W5 at *
          have sS : S ≤ 12000000 := s1
          go_wp2_with fail
          go_loopw [15] (fun kv wr => ∃ x' : Nat, x' ≤ j ∧ kv = .int .i64 x' ∧ Below w3.heap.size w3 wr) (fun kv _ => j - (intOf kv).toNat)
          case atStart => exact ⟨0, Nat.zero_le _, rfl, B5.out⟩
          case round =>
            obtain ⟨x', hxj, rfl, hB6⟩ := hrel
            have B6 := Lib.hid hB6
            clear hB6 cl5
            by_cases hlt2 : x' < j
            · have dk : decide ((x' : Int) < (j : Int)) = true := by simp; omega
              have hjp : j < (Led.parts a ws).length := by rw [Led.parts_length, HL.out]; exact hlt
              have hjw : j < ws.length := by rw [HL.out]; exact hlt
              have hxp : x' < (Led.parts a ws).length := by omega
              have hxw : x' < ws.length := by omega
              have f1 := F3.out.cell x' hxp
              have f2 := F3.out.cell j hjp
              have f3 := C8.out x' (by omega)
              have f4 := C8.out j hlt
              have M1 := Lib.hid (Led.part_mono FIT.out (i := j) (k := x') hjw hxw)
              have M2 := Lib.hid (Led.part_mono FIT.out (i := x') (k := j) hxw hjw)
              rw [Led.parts_getD a ws hxw] at f1
              rw [Led.parts_getD a ws hjw] at f2
              have kept : ∀ (a : Addr) (v : Value), w3.cell? a = some v → ∀ dd os, (grow (redrawn wr dd) os).cell? a = some v := fun a v ha dd os => ((below_regrown wr dd os).cell (Nat.lt_of_lt_of_le (block_lt_of_cell ha) B6.out.size)).trans ((B6.out.cell (block_lt_of_cell ha)).trans ha)
              have Y1 := kept _ _ f1
              have Y2 := kept _ _ f2
              have Y3 := kept _ _ f3
              have Y4 := kept _ _ f4
              generalize Led.part a ws (Led.left a ws).toNat x' = px at *
              generalize Led.part a ws (Led.left a ws).toNat j = pj at *
              generalize ws.getD x' 0 = wx at *
              generalize ws.getD j 0 = wj at *
              have k0 : (0 : Int) ≤ (x' : Int) := by omega
              have k1 : (x' : Int) < (m : Int) := by omega
              have k2 : (x' : Int).toNat = x' := by omega
              clear f1 f2 f3 f4 kept hjp hjw hxp hxw
              by_cases h1 : wx < wj
              · have e1 : decide (wx < wj) = true := by simpa using h1
                have mm := M1.out (.inl h1)
                have e2 : decide (pj < px) = false := by simp; omega
                have e3 : (wx == wj) = false := by simp; omega
                clear h1 mm
                go_wp2_with fail
                refine wp_region_quiet_below (by kernel_rfl) (by kernel_rfl) ?_
                repeat (go_big_quiet_step (fail))
                refine wpQuiet_nil ?_
                intro _ hw'
                obtain ⟨⟨dq, osq⟩, hw''⟩ := hw'
                subst hw''
                have B7 := Lib.hid (below_join B6.out (below_regrown wr dq osq))
                clear Y1 Y2 Y3 Y4
                go_wp2_with fail
                go_roundw
                case rel => exact ⟨x' + 1, by omega, by go_num, B7.out⟩
                case measure => simp [intOf]; omega
              · have e1 : decide (wx < wj) = false := by simp; omega
                by_cases h2 : wx = wj
                · have e3 : (wx == wj) = true := by simpa using h2
                  have mm := M2.out (.inr ⟨h2.symm, hlt2⟩)
                  have e4 : decide (px < pj) = false := by simp; omega
                  clear h1 h2 mm
                  go_wp2_with fail
                  refine wp_region_quiet_below (by kernel_rfl) (by kernel_rfl) ?_
                  repeat (go_big_quiet_step (fail))
                  refine wpQuiet_nil ?_
                  intro _ hw'
                  obtain ⟨⟨dq, osq⟩, hw''⟩ := hw'
                  subst hw''
                  have B7 := Lib.hid (below_join B6.out (below_regrown wr dq osq))
                  clear Y1 Y2 Y3 Y4
                  go_wp2_with fail
                  go_roundw
                  case rel => exact ⟨x' + 1, by omega, by go_num, B7.out⟩
                  case measure => simp [intOf]; omega
                · have e3 : (wx == wj) = false := by simpa using h2
                  clear h1 h2
                  go_wp2_with fail
                  refine wp_region_quiet_below (by kernel_rfl) (by kernel_rfl) ?_
                  repeat (go_big_quiet_step (fail))
                  refine wpQuiet_nil ?_
                  intro _ hw'
                  obtain ⟨⟨dq, osq⟩, hw''⟩ := hw'
                  subst hw''
                  have B7 := Lib.hid (below_join B6.out (below_regrown wr dq osq))
                  clear Y1 Y2 Y3 Y4
                  go_wp2_with fail
                  go_roundw
                  case rel => exact ⟨x' + 1, by omega, by go_num, B7.out⟩
                  case measure => simp [intOf]; omega
            · obtain rfl : x' = j := by omega
              have dk : decide ((x' : Int) < (x' : Int)) = false := by simp
              go_wp2_with fail
              go_roundw
              case rel => exact ⟨x' + 1, by omega, by go_num, by rw [TS.out], B6.out⟩
              case measure => simp [intOf]; omega
        · obtain rfl : j = m := by omega
          have et : ((Led.parts a ws).take j).sum = a := by
            rw [List.take_of_length_le (by rw [Led.parts_length, HL.out]; exact Nat.le_refl _), Led.parts_sum FIT.out]
          rw [et]
          have B9 : Hid (Below W.heap.size W wo) := B3.out.trans (HB.out.mono B3.out.size)
          have ea : (a == a) = true := by simp
          go_wp2_with fail
          go_ret
          exact ⟨rfl, B9.out⟩
end Go.Proofs.Ytlfcoopnonhfeaa
