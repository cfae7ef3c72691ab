/- The walk of the law LedgerConserves. -/
import Derived.Test.YtlfcoopnonhfeaaLedTwo
import Derived.Test.YtlfcoopnonhfeaaLedSan
import Derived.Test.YtlfcoopnonhfeaaBytes
import Derived.IntWalk
import Derived.Laws.Cover1
import Derived.WalkSpells
namespace Go.Proofs.Ytlfcoopnonhfeaa
open Go.RowKit Go.Sort Go.Maps
set_option linter.unusedVariables false
theorem cons_below {W w : World} {ao : Option Addr} {n c : Nat} {ns : List Num} (h : ArgNums W ao n c ns) (hb : Below W.heap.size W w) : ArgNums w ao n c ns := by
  obtain ⟨h1, h2, h3, h4⟩ := h
  refine ⟨h1, h2, h3, fun h0 => ?_⟩
  obtain ⟨b, off, rfl, hc⟩ := h4 h0
  refine ⟨b, off, rfl, fun i a hi j hj => ?_⟩
  have h5 := hc i a hi j hj
  obtain ⟨v, hv⟩ : ∃ v, a.arr[j]? = some v := ⟨a.arr[j]'(by simp [Num.arr]; omega), Array.getElem?_eq_getElem _⟩
  rw [hv] at h5 ⊢
  exact (hb.cell (p := ⟨b, off + i * 4 + j, none⟩) (block_lt_of_cell h5)).trans h5
theorem pst_sizes (a : Num) : (Led.pst a).key.size ≤ maxLen ∧ (Led.pst a).src.size ≤ maxLen ∧ (Led.pst a).dst.size ≤ maxLen := by
  have h1 := Led.ky_size a.key
  have h2 := Led.acc_size a.src
  have h3 := Led.acc_size a.dst
  unfold Led.pst maxLen
  simp only
  omega
theorem strs_cells {w : World} {B : Nat} {v : Value} {xs : List (List UInt8)} (h : w.ownsRow B 9 1 v xs.length (xs.map Go.Proofs.encStr)) : ∃ ao cap, v = .slice ao xs.length cap ∧ ∀ j x, xs[j]? = some x → ∃ g, ao = some ⟨g, 0, none⟩ ∧ w.cell? ⟨g, j, none⟩ = some (.string ⟨x.toArray⟩) := by
  rcases h.2 with ⟨rfl, h0⟩ | ⟨g, cap, cur, rfl, _⟩
  · exact ⟨none, 0, by rw [h0], fun j x hx => by have := (List.getElem?_eq_some_iff.1 hx).1; omega⟩
  · refine ⟨_, cap, rfl, fun j x hx => ⟨g, rfl, ?_⟩⟩
    have hk := (List.getElem?_eq_some_iff.1 hx).1
    rw [h.cellAt j (by omega), List.getElem?_map, hx]
    rfl
theorem strs_at {w : World} {g n cap B : Nat} {xs : List (List UInt8)} (h : w.ownsRow B 9 1 (.slice (some ⟨g, 0, none⟩) n cap) xs.length (xs.map Go.Proofs.encStr)) {j : Nat} {x : List UInt8} (hx : xs[j]? = some x) : w.cell? ⟨g, j, none⟩ = some (.string ⟨x.toArray⟩) := by
  obtain ⟨ao, cap2, e, hc⟩ := strs_cells h
  injection e with e1 e2 e3
  obtain ⟨g2, e4, h2⟩ := hc j x hx
  rw [← e1] at e4
  injection e4 with e4
  injection e4 with e4
  rw [e4]; exact h2
theorem less_of {x y : List UInt8} (h : x < y) : Op.bytesLess (⟨x.toArray⟩ : ByteArray).toList (⟨y.toArray⟩ : ByteArray).toList = true := by
  rw [ByteArray.toList_eq, ByteArray.toList_eq, bytesLess_eq]
  exact decide_eq_true h
theorem mint_cut {s : ByteArray} (h : Led.mint s = true) : 4 ≤ s.size ∧ (s.extract 0 4).toList = [109, 105, 110, 116] := by
  unfold Led.mint Lib.hasPrefix at h
  obtain ⟨t, ht⟩ := List.isPrefixOf_iff_prefix.1 h
  have hs : s.size = s.data.toList.length := by rw [Array.length_toList]; rfl
  refine ⟨by rw [hs, ← ht, List.length_append]; exact Nat.le_add_right 4 _, ?_⟩
  rw [ByteArray.toList_eq]
  rw [ByteArray.data_extract, Array.toList_extract, List.extract_eq_take_drop, List.drop_zero, ← ht]
  rfl
def potS : ByteArray := ⟨#[112, 111, 116]⟩
theorem pot_list : potS.toList = [112, 111, 116] := by rw [ByteArray.toList_eq]; rfl
theorem pot_eq {s : ByteArray} (h : s = potS) : (s.toList == [112, 111, 116]) = true := by rw [h, ← pot_list]; exact bytes_eq _
theorem pot_ne {s : ByteArray} (h : ¬ s = potS) : (s.toList == [112, 111, 116]) = false := by rw [← pot_list]; exact bytes_neq _ _ h
set_option maxHeartbeats 8000000 in
set_option maxRecDepth 100000 in
theorem walk_LedgerConserves (ao : Option Addr) (n c : Nat) (ns : List Num) (W : World) (h : ArgNums W ao n c ns) :
    Calls Try.prog 6 #[.slice ao n c] W fun e w' => e = .returned (.bool true) ∧ Below W.heap.size W w' := by
  have HA := Lib.hid h
  obtain ⟨ps, hps⟩ : ∃ ps, (ns.take 40).map Led.pst = ps := ⟨_, rfl⟩
  have hz : ∀ q ∈ ps, q.key.size ≤ maxLen ∧ q.src.size ≤ maxLen ∧ q.dst.size ≤ maxLen := by
    intro q hq
    rw [← hps] at hq
    obtain ⟨a, _, rfl⟩ := List.mem_map.1 hq
    exact pst_sizes a
  have hlen : ps.length ≤ 40 := by rw [← hps, List.length_map, List.length_take]; omega
  obtain ⟨m, hm⟩ : ∃ m, ps.length = m := ⟨_, rfl⟩
  rw [hm] at hlen
  have HM := Lib.hid hm
  have HZ := Lib.hid hz
  have HPS := Lib.hid hps
  clear h hz hps hm
  go_enter Try.func6, Try.ntmps6
  go_wp2_with fail
  refine (sanity_any W).mono ?_
  rintro e w1 ⟨rfl, hb⟩
  have B1 := Lib.hid hb
  clear hb
  go_wp2_with fail
  refine (new_own W w1 B1.out).mono ?_
  rintro e w2 ⟨rfl, h⟩
  have O2 := Lib.hid h
  have A2 := Lib.hid (cons_below HA.out (by obtain ⟨F, _, _, h3⟩ := h; exact h3))
  clear h
  generalize w1.heap.size = p at *
  go_wp2_with fail
  refine (postings_any A2.out 40 (by omega)).mono ?_
  rintro e w3 ⟨v, rfl, h1, h2⟩
  rw [HPS.out] at h1
  have O3 := Lib.hid (Own2.start O2.out h2 h1)
  clear h1 h2 O2 A2
  obtain ⟨ao', cap', hv, _⟩ := O3.out.cellsq
  subst hv
  rw [HM.out] at O3 ⊢
  go_wp2_with fail
  go_loopw [6] (fun i wr => ∃ (k : Nat) (L : List Pst), k ≤ m ∧ i = .int .i64 k ∧ L.length ≤ k ∧ Led.Fine L ∧ Own2 W.heap.size p L (2 * k) (.slice ao' m cap') ps W wr) (fun i _ => m - (intOf i).toNat)
  case atStart => exact ⟨0, [], Nat.zero_le _, rfl, Nat.le_refl _, Led.fine_nil, O3.out⟩
  case round =>
    obtain ⟨k, L, hk, rfl, hL, hF, hO⟩ := hrel
    have HO := Lib.hid hO
    have HF := Lib.hid hF
    clear hO hF
    by_cases hlt : k < m
    · obtain ⟨q, hq⟩ : ∃ q, ps[k]? = some q := ⟨ps[k]'(by rw [HM.out]; exact hlt), List.getElem?_eq_getElem _⟩
      have hzq := HZ.out q (List.mem_of_getElem? hq)
      obtain ⟨ao2, cap2, e1, hcq⟩ := HO.out.cellsq
      injection e1 with e1 _ e3
      subst e1 e3
      obtain ⟨g, rfl, cq⟩ := hcq k q hq
      have hpost := Led.fine_post HF.out HO.out.ok.1 q
      have hpl := Led.post_snd L q
      obtain ⟨code, L2, hpq⟩ : ∃ code L2, Led.post L q = (code, L2) := ⟨_, _, rfl⟩
      have PT := Lib.hid (post_two HO.out q code hpq (by omega) hzq)
      rw [hpq] at hpost hpl
      obtain ⟨qk, qs, qd, qn⟩ := q
      have g0 : wr.cell? ⟨g, k * 4, none⟩ = some (.string qk) := (cq 0 (by omega)).trans rfl
      have g1 : wr.cell? ⟨g, k * 4 + 1, none⟩ = some (.string qs) := (cq 1 (by omega)).trans rfl
      have g2 : wr.cell? ⟨g, k * 4 + 2, none⟩ = some (.string qd) := (cq 2 (by omega)).trans rfl
      have g3 : wr.cell? ⟨g, k * 4 + 3, none⟩ = some (.int .i64 qn) := (cq 3 (by omega)).trans rfl
      have hlen2 : L2.length ≤ k + 1 := by
        rcases hpl with h | h <;> (simp only at h; subst h)
        · omega
        · rw [List.length_append, List.length_singleton]; omega
      have FP := Lib.hid hpost
      clear cq hcq hq hpl hpost hpq hzq
      go_wp2_with fail
      refine PT.out.mono ?_
      rintro e w4 ⟨rfl, h4⟩
      have O4 := Lib.hid h4
      clear h4 PT g0 g1 g2 g3 HO
      go_wp2_with fail
      refine (accounts_two O4.out (by omega)).mono ?_
      rintro e w5 ⟨x5, xs, rfl, s1, s2, s3, s4, s5⟩
      have S1 := Lib.hid s1
      have S2 := Lib.hid s2
      have S4 := Lib.hid s4
      have O5 := Lib.hid (O4.out.below s5)
      have s6 : xs.length ≤ 82 := by omega
      obtain ⟨ao5, cap5, rfl, hcs⟩ := strs_cells s4
      have HCS := Lib.hid hcs
      have HL2 := Lib.hid (show L2.length ≤ 41 by omega)
      obtain ⟨l, hl⟩ : ∃ l, xs.length = l := ⟨_, rfl⟩
      have HXL := Lib.hid hl
      rw [hl] at s6 ⊢
      clear s1 s2 s4 s5 O4 s3 hcs hl
      go_wp2_with fail
      obtain ⟨wo, rfl⟩ : ∃ wo : World, wo = wr := ⟨_, rfl⟩
      go_loopw [7, 9] (fun s i wi => ∃ j : Nat, j ≤ l ∧ i = .int .i64 j ∧ s = .int .i64 ((xs.take j).map (Led.balU L2)).sum ∧ Below w5.heap.size w5 wi) (fun _ i _ => l - (intOf i).toNat)
      case atStart => exact ⟨0, Nat.zero_le _, rfl, rfl, Below.refl _ _⟩
      case round =>
        obtain ⟨j, hj, rfl, rfl, hb⟩ := hrel
        have HBI := Lib.hid hb
        clear hb
        by_cases hjl : j < l
        · obtain ⟨x, hx⟩ : ∃ x, xs[j]? = some x := ⟨xs[j]'(by rw [HXL.out]; exact hjl), List.getElem?_eq_getElem _⟩
          have htk : xs.take (j + 1) = xs.take j ++ [x] := by rw [List.take_add_one, hx]; rfl
          have hxm := (S2.out x).1 (List.mem_of_getElem? hx)
          have hxs := named_size O5.out.ok.1 hxm
          have hsum := Led.bals_le L2 O5.out.ok.1 41000000000 (by have := HL2.out; omega) (xs.take j)
          have hbal := Led.bal_le O5.out.ok.1 ⟨x.toArray⟩
          have hneg : Led.bal L2 ⟨x.toArray⟩ < 0 → Led.mint ⟨x.toArray⟩ = true := by
            intro h
            cases hmm : Led.mint ⟨x.toArray⟩ with
            | true => rfl
            | false => have h9 : 0 ≤ Led.bal L2 ⟨x.toArray⟩ := FP.out _ hmm; omega
          have hlt2 := HL2.out
          rw [List.length_take] at hsum
          obtain ⟨g5, rfl, cx⟩ := HCS.out j x hx
          have cx1 : wr.cell? ⟨g5, j, none⟩ = some (.string ⟨x.toArray⟩) := (HBI.out.cell (p := ⟨g5, j, none⟩) (block_lt_of_cell cx)).trans cx
          obtain ⟨s, hs⟩ : ∃ s, ((xs.take j).map (Led.balU L2)).sum = s := ⟨_, rfl⟩
          have hnext : ((xs.take (j + 1)).map (Led.balU L2)).sum = s + Led.bal L2 ⟨x.toArray⟩ := by
            rw [htk, List.map_append, List.sum_append, hs]; simp [Led.balU]
          rw [hs] at hsum ⊢
          obtain ⟨N, hN⟩ : ∃ N, Led.bal L2 ⟨x.toArray⟩ = N := ⟨_, rfl⟩
          have CB := Lib.hid (balance_two (O5.out.below HBI.out) ⟨x.toArray⟩ N hN (by simp only [ByteArray.size, List.size_toArray]; unfold maxLen; omega))
          rw [hN] at hbal hneg hnext
          have b1 : -4000000000000 ≤ s := by omega
          have b2 : s ≤ 4000000000000 := by omega
          have b3 : -41000000000 ≤ N := by omega
          have b4 : N ≤ 41000000000 := by omega
          have HNX := Lib.hid hnext
          have HNG := Lib.hid hneg
          have HXJ := Lib.hid hx
          obtain ⟨xb, hxb⟩ : ∃ xb : ByteArray, (⟨x.toArray⟩ : ByteArray) = xb := ⟨_, rfl⟩
          rw [hxb] at CB HNG cx1
          have HXB := Lib.hid hxb
          clear htk hxm hxs hsum hbal hneg hlt2 cx hs hnext hN hx hxb
          go_wp2_with fail
          refine CB.out.mono ?_
          rintro e w6 ⟨rfl, rfl⟩
          go_wp2_with fail
          clear CB
          by_cases hneg : N < 0
          · obtain ⟨m4, mc⟩ := mint_cut (HNG.out hneg)
            have dN : decide (N < 0) = true := decide_eq_true hneg
            have hmin : min (xb.size : Int) 4 = 4 := by omega
            have m5 : (4 : Int) ≤ (xb.size : Int) := by omega
            have m6 : (xb.extract 0 4).toList == [109, 105, 110, 116] := by rw [mc]; rfl
            clear hneg
            by_cases hj0 : j = 0
            · subst hj0
              go_region
              go_wp2_with fail
              refine ⟨⟨0 + 1, by omega, by go_num, by rw [HNX.out], HBI.out.drew⟩, by simp [intOf]; omega⟩
            · obtain ⟨i, hi⟩ : ∃ i, j - 1 = i := ⟨_, rfl⟩
              have hij : j = i + 1 := by omega
              obtain ⟨y, hy⟩ : ∃ y, xs[i]? = some y := ⟨xs[i]'(by rw [HXL.out]; omega), List.getElem?_eq_getElem _⟩
              have hless := less_of (Led.lt_pairs S1.out hy (by rw [← hij]; exact HXJ.out))
              obtain ⟨g6, e6, cy⟩ := HCS.out i y hy
              injection e6 with e6
              injection e6 with e6
              subst e6
              have cy1 : w6.cell? ⟨g5, i, none⟩ = some (.string ⟨y.toArray⟩) := (HBI.out.cell (p := ⟨g5, i, none⟩) (block_lt_of_cell cy)).trans cy
              rw [HXB.out] at hless
              obtain ⟨yb, hyb⟩ : ∃ yb : ByteArray, (⟨y.toArray⟩ : ByteArray) = yb := ⟨_, rfl⟩
              rw [hyb] at hless cy1
              have q1 : decide ((j : Int) > 0) = true := decide_eq_true (by omega)
              have q1b : decide ((0 : Int) < (j : Int)) = true := decide_eq_true (by omega)
              have q1c : decide (0 < j) = true := decide_eq_true (by omega)
              have q2 : (j : Int) - 1 = (i : Int) := by omega
              have q3 : IntKind.i64.wrap (i : Int) = (i : Int) := IntWalk.i64_in _ (by omega)
              have q4 : (i : Int) < (l : Int) := by omega
              have q5 : (0 : Int) ≤ (i : Int) := by omega
              have q6 : (i : Int).toNat = i := by omega
              have q7 : i < l := by omega
              have HIJ := Lib.hid hij
              clear hy hyb cy hi hij hj0
              have cxq : ∀ dd os, (grow (redrawn w6 dd) os).cell? ⟨g5, j, none⟩ = some (.string xb) := fun dd os => ((below_regrown w6 dd os).cell (p := ⟨g5, j, none⟩) (block_lt_of_cell cx1)).trans cx1
              have cyq : ∀ dd os, (grow (redrawn w6 dd) os).cell? ⟨g5, i, none⟩ = some (.string yb) := fun dd os => ((below_regrown w6 dd os).cell (p := ⟨g5, i, none⟩) (block_lt_of_cell cy1)).trans cy1
              have q8 : IntKind.i64.wrap ((j : Int) - 1) = (i : Int) := by rw [q2]; exact q3
              have q9 : wrap64 ((j : Int) - 1) = (i : Int) := by rw [q2]; exact IntWalk.wrap64_in _ (by omega)
              clear cx1 cy1
              refine wp_region_quiet_below (by kernel_rfl) (by kernel_rfl) ?_
              repeat (go_big_quiet_step (fail))
              refine wpQuiet_nil ?_
              intro _ hw'
              obtain ⟨⟨dq, osq⟩, hw''⟩ := hw'
              subst hw''
              have B9 := Lib.hid (below_join HBI.out (below_regrown w6 dq osq))
              go_wp2_with fail
              refine ⟨⟨j + 1, by omega, by go_num, by rw [HNX.out], B9.out⟩, by simp [intOf]; omega⟩
          · have dN : decide (N < 0) = false := decide_eq_false hneg
            clear hneg
            by_cases hj0 : j = 0
            · subst hj0
              go_region
              go_wp2_with fail
              refine ⟨⟨0 + 1, by omega, by go_num, by rw [HNX.out], HBI.out.drew⟩, by simp [intOf]; omega⟩
            · obtain ⟨i, hi⟩ : ∃ i, j - 1 = i := ⟨_, rfl⟩
              have hij : j = i + 1 := by omega
              obtain ⟨y, hy⟩ : ∃ y, xs[i]? = some y := ⟨xs[i]'(by rw [HXL.out]; omega), List.getElem?_eq_getElem _⟩
              have hless := less_of (Led.lt_pairs S1.out hy (by rw [← hij]; exact HXJ.out))
              obtain ⟨g6, e6, cy⟩ := HCS.out i y hy
              injection e6 with e6
              injection e6 with e6
              subst e6
              have cy1 : w6.cell? ⟨g5, i, none⟩ = some (.string ⟨y.toArray⟩) := (HBI.out.cell (p := ⟨g5, i, none⟩) (block_lt_of_cell cy)).trans cy
              rw [HXB.out] at hless
              obtain ⟨yb, hyb⟩ : ∃ yb : ByteArray, (⟨y.toArray⟩ : ByteArray) = yb := ⟨_, rfl⟩
              rw [hyb] at hless cy1
              have q1 : decide ((j : Int) > 0) = true := decide_eq_true (by omega)
              have q1b : decide ((0 : Int) < (j : Int)) = true := decide_eq_true (by omega)
              have q1c : decide (0 < j) = true := decide_eq_true (by omega)
              have q2 : (j : Int) - 1 = (i : Int) := by omega
              have q3 : IntKind.i64.wrap (i : Int) = (i : Int) := IntWalk.i64_in _ (by omega)
              have q4 : (i : Int) < (l : Int) := by omega
              have q5 : (0 : Int) ≤ (i : Int) := by omega
              have q6 : (i : Int).toNat = i := by omega
              have q7 : i < l := by omega
              have HIJ := Lib.hid hij
              clear hy hyb cy hi hij hj0
              have cxq : ∀ dd os, (grow (redrawn w6 dd) os).cell? ⟨g5, j, none⟩ = some (.string xb) := fun dd os => ((below_regrown w6 dd os).cell (p := ⟨g5, j, none⟩) (block_lt_of_cell cx1)).trans cx1
              have cyq : ∀ dd os, (grow (redrawn w6 dd) os).cell? ⟨g5, i, none⟩ = some (.string yb) := fun dd os => ((below_regrown w6 dd os).cell (p := ⟨g5, i, none⟩) (block_lt_of_cell cy1)).trans cy1
              have q8 : IntKind.i64.wrap ((j : Int) - 1) = (i : Int) := by rw [q2]; exact q3
              have q9 : wrap64 ((j : Int) - 1) = (i : Int) := by rw [q2]; exact IntWalk.wrap64_in _ (by omega)
              clear cx1 cy1
              refine wp_region_quiet_below (by kernel_rfl) (by kernel_rfl) ?_
              repeat (go_big_quiet_step (fail))
              refine wpQuiet_nil ?_
              intro _ hw'
              obtain ⟨⟨dq, osq⟩, hw''⟩ := hw'
              subst hw''
              have B9 := Lib.hid (below_join HBI.out (below_regrown w6 dq osq))
              go_wp2_with fail
              refine ⟨⟨j + 1, by omega, by go_num, by rw [HNX.out], B9.out⟩, by simp [intOf]; omega⟩
        · obtain rfl : j = l := by omega
          have hs0 : ((xs.take j).map (Led.balU L2)).sum = 0 := by
            rw [show xs.take j = xs by rw [← HXL.out]; exact List.take_length]
            exact Led.sum_zero (Led.nodup_of_lt S1.out) L2 (fun x hx => (S2.out x).2 hx)
          rw [hs0]
          have O6 := Lib.hid (O5.out.below HBI.out)
          have HLL := Lib.hid hlen2
          clear hs0 hlen2
          go_wp2_with fail
          simp only [HM.out]
          refine ⟨?_, by simp [intOf]; omega⟩
          repeat apply Exists.intro
          refine ⟨?rel, rfl⟩
          case rel => exact ⟨k + 1, L2, by omega, by go_num, HLL.out, FP.out, by rw [show 2 * (k + 1) = 2 * k + 2 by omega]; exact O6.out⟩
    · obtain rfl : k = m := by omega
      go_wp2_with fail
      refine (list_two HO.out).mono ?_
      rintro e w4 ⟨x4, rfl, h4⟩
      have O4 := Lib.hid h4
      obtain ⟨ao4, cap4, rfl, hcq⟩ := h4.cellsq
      have HCQ := Lib.hid hcq
      have hlp : 2 * k ≤ 80 := by omega
      obtain ⟨l, hl⟩ : ∃ l, L.length = l := ⟨_, rfl⟩
      have HLL := Lib.hid hl
      rw [hl] at hL ⊢
      clear h4 hcq hl HO
      go_wp2_with fail
      obtain ⟨wo, hwo⟩ : ∃ wo : World, wo = wr := ⟨_, rfl⟩
      clear hwo
      go_loopw [12, 13] (fun s i wi => ∃ j : Nat, j ≤ l ∧ i = .int .i64 j ∧ s = .int .i64 (Led.bal (L.take j) potS) ∧ wi = w4) (fun _ i _ => l - (intOf i).toNat)
      case atStart => exact ⟨0, Nat.zero_le _, rfl, rfl, rfl⟩
      case round =>
        obtain ⟨j, hj, rfl, rfl, rfl⟩ := hrel
        by_cases hjl : j < l
        · obtain ⟨q, hq⟩ : ∃ q, L[j]? = some q := ⟨L[j]'(by rw [HLL.out]; exact hjl), List.getElem?_eq_getElem _⟩
          have htk : L.take (j + 1) = L.take j ++ [q] := by rw [List.take_add_one, hq]; rfl
          have hnext : Led.bal (L.take (j + 1)) potS = Led.bal (L.take j) potS + Led.turn q potS := by rw [htk, Led.bal_snoc]
          have hb1 := Led.bal_le (L := L.take j) (fun p hp => O4.out.ok.1 p (List.mem_of_mem_take hp)) potS
          have hb2 := Led.right_amt (O4.out.ok.1 q (List.mem_of_getElem? hq))
          have hb3 : (L.take j).length ≤ 80 := by rw [List.length_take]; omega
          obtain ⟨g4, rfl, cq⟩ := HCQ.out j q hq
          obtain ⟨s, hs⟩ : ∃ s, Led.bal (L.take j) potS = s := ⟨_, rfl⟩
          rw [hs] at hnext hb1 ⊢
          obtain ⟨qk, qs, qd, qn⟩ := q
          have c1 : wr.cell? ⟨g4, j * 4 + 1, none⟩ = some (.string qs) := (cq 1 (by omega)).trans rfl
          have c2 : wr.cell? ⟨g4, j * 4 + 2, none⟩ = some (.string qd) := (cq 2 (by omega)).trans rfl
          have c3 : wr.cell? ⟨g4, j * 4 + 3, none⟩ = some (.int .i64 qn) := (cq 3 (by omega)).trans rfl
          simp only at hb2
          have b1 : -80000000000 ≤ s := by omega
          have b2 : s ≤ 80000000000 := by omega
          have b3 : 1 ≤ qn := hb2.1
          have b4 : qn ≤ 1000000000 := hb2.2
          have hturn : Led.turn ⟨qk, qs, qd, qn⟩ potS = (if qd = potS then qn else 0) - (if qs = potS then qn else 0) := rfl
          rw [hturn] at hnext
          have HNX := Lib.hid hnext
          clear htk hb1 hb2 hb3 cq hs hturn hnext hq
          by_cases e1 : qd = potS
          · have d1 := pot_eq e1
            by_cases e2 : qs = potS
            · have d2 := pot_eq e2
              have hn : Led.bal (L.take (j + 1)) potS = s + qn - qn := by rw [HNX.out, if_pos e1, if_pos e2]; omega
              have HN := Lib.hid hn
              clear hn e1 e2
              go_wp2_with fail
              refine ⟨⟨j + 1, by omega, by go_num, by rw [HN.out]; try (congr 1; omega), by first | trivial | rfl⟩, by simp [intOf]; omega⟩
            · have d2 := pot_ne e2
              have hn : Led.bal (L.take (j + 1)) potS = s + qn := by rw [HNX.out, if_pos e1, if_neg e2]; omega
              have HN := Lib.hid hn
              clear hn e1 e2
              go_wp2_with fail
              refine ⟨⟨j + 1, by omega, by go_num, by rw [HN.out]; try (congr 1; omega), by first | trivial | rfl⟩, by simp [intOf]; omega⟩
          · have d1 := pot_ne e1
            by_cases e2 : qs = potS
            · have d2 := pot_eq e2
              have hn : Led.bal (L.take (j + 1)) potS = s - qn := by rw [HNX.out, if_neg e1, if_pos e2]; omega
              have HN := Lib.hid hn
              clear hn e1 e2
              go_wp2_with fail
              refine ⟨⟨j + 1, by omega, by go_num, by rw [HN.out]; try (congr 1; omega), by first | trivial | rfl⟩, by simp [intOf]; omega⟩
            · have d2 := pot_ne e2
              have hn : Led.bal (L.take (j + 1)) potS = s := by rw [HNX.out, if_neg e1, if_neg e2]; omega
              have HN := Lib.hid hn
              clear hn e1 e2
              go_wp2_with fail
              refine ⟨⟨j + 1, by omega, by go_num, by rw [HN.out]; try (congr 1; omega), by first | trivial | rfl⟩, by simp [intOf]; omega⟩
        · obtain rfl : j = l := by omega
          rw [show L.take j = L by rw [← HLL.out]; exact List.take_length]
          have CB : Hid (Calls Try.prog 18 #[.pointer (some ⟨p, 0, none⟩), .string ⟨#[112, 111, 116]⟩] wr fun e w' => e = .returned (.int .i64 (Led.bal L potS)) ∧ w' = wr) := balance_two O4.out potS _ rfl (by unfold maxLen; exact Nat.le_of_ble_eq_true rfl)
          obtain ⟨s, hs⟩ : ∃ s, Led.bal L potS = s := ⟨_, rfl⟩
          rw [hs] at CB ⊢
          clear hs
          go_wp2_with fail
          refine CB.out.mono ?_
          rintro e w5 ⟨rfl, rfl⟩
          go_wp2_with fail
          go_ret
          exact ⟨rfl, O4.out.base⟩
end Go.Proofs.Ytlfcoopnonhfeaa
