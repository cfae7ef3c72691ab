/- The walk of the law LedgerCopies. -/
import Derived.Test.YtfligfompdcddaaGreatDoorAgainWalk
import Derived.Deep.Cut
import Derived.Deep.DeepCutAuto
namespace Go.Proofs.YtfligfompdcddaaGreatDoor
open Go.RowKit Go.Sort Go.Maps
set_option linter.unusedVariables false
/-- a row that the call has changed in one cell -/
theorem row_set {w : World} {g n cap : Nat} {e : TypeId} {size : Nat} {xs : List Value} (h : w.ownsRow 0 e size (.slice (some ⟨g, 0, none⟩) n cap) n xs) (i : Nat) (u : Value) :
    (w.setCell ⟨g, i, none⟩ u).ownsRow 0 e size (.slice (some ⟨g, 0, none⟩) n cap) n (xs.set i u) := by
  rcases h.2 with ⟨h1, _⟩ | ⟨g', cap', cur, h1, h2, h3, h4, h5, h6, h7⟩
  · cases h1
  · injection h1 with h1 _ hc
    injection h1 with h1
    injection h1 with h1
    subst h1 hc
    refine ⟨by rw [List.length_set]; exact h.1, .inr ⟨g, cap, _, rfl, h2, heap_setCell_same _ _ _ _ _ _ h3, h4, h5, by simpa using h6, ?_⟩⟩
    rw [Array.toList_setIfInBounds, List.take_set, h7]
theorem Has.set {P : Thing} {g n cap : Nat} {e : TypeId} {size : Nat} {xs : List Value} {w0 w : World} (h : Has (P.both (RowT e size (.slice (some ⟨g, 0, none⟩) n cap) n xs)) w0 w) (i : Nat) (u : Value) :
    Has (P.both (RowT e size (.slice (some ⟨g, 0, none⟩) n cap) n (xs.set i u))) w0 (w.setCell ⟨g, i, none⟩ u) := by
  obtain ⟨F, ⟨F1, F2, h1, h2, h3, h4⟩, h5, h6⟩ := h
  have t2 : Turned F2 w (w.setCell ⟨g, i, none⟩ u) := Turned.of_grown (grownBy_setCellP w g i u) (fun k hk => (h2.2 k).2 hk)
  have f2 : F2 g := (h2.2 g).2 rfl
  refine ⟨F, ⟨F1, F2, P.kept h1 t2 h3, ⟨row_set h2.1 i u, h2.2⟩, h3, h4⟩, h5, h6.trans (t2.below h6.size (fun k hk => h5 k ((h4 k).2 (.inr hk))))⟩
/-- what a row has in a cell, whatever stands there -/
theorem Has.cellOf {g n cap : Nat} {e : TypeId} {size : Nat} {xs : List Value} {w0 w : World} (h : Has (RowT e size (.slice (some ⟨g, 0, none⟩) n cap) n xs) w0 w) (i : Nat) (hi : i < n * size) : (∃ u, w.cell? ⟨g, i, none⟩ = some u) ∧ w.frozen? ⟨g, i, none⟩ = false := by
  have hr := Has.rowOf h
  rcases hr.2 with ⟨h1, _⟩ | ⟨g', cap', cur, h1, h2, h3, h4, h5, h6, h7⟩
  · cases h1
  · injection h1 with h1 _ hc
    injection h1 with h1
    injection h1 with h1
    subst h1 hc
    have : i < cur.size := by rw [h6]; exact Nat.lt_of_lt_of_le hi (Nat.mul_le_mul_right _ h4)
    exact ⟨⟨cur[i], by rw [cell_of_row _ _ _ _ _ _ h3, Array.getElem?_eq_getElem this]⟩, frozen_of_row _ _ _ _ _ h3⟩
theorem Has.drop {P Q R : Thing} {w0 w : World} (h : Has (P.both (Q.both R)) w0 w) : Has (P.both R) w0 w := by
  obtain ⟨F, ⟨F1, G, h1, ⟨F2, F3, h2, h3, d23, e⟩, d, eF⟩, h5, h6⟩ := h
  exact ⟨fun k => F1 k ∨ F3 k, ⟨F1, F3, h1, h3, fun k a b => d k a ((e k).2 (.inr b)), fun k => Iff.rfl⟩, fun k hk => h5 k ((eF k).2 (hk.imp id (fun b => (e k).2 (.inr b)))), h6⟩
theorem Has.turn {P Q R : Thing} {w0 w : World} (h : Has ((P.both Q).both R) w0 w) : Has (Q.both (R.both P)) w0 w := h.assoc.swap.assoc
theorem all_trip {p c n k : Nat} {L L' ps : List Pst} {v : Value} {code : Int} (hk : ps.length = k) (he : Led.all L ps = (n, code, L')) (hc : c + 4 * k ≤ 1000000000)
    (hz : ∀ q ∈ ps, q.key.size ≤ maxLen ∧ q.src.size ≤ maxLen ∧ q.dst.size ≤ maxLen) :
    Trip Tryz.prog ((LedT p L c).both (RowT 24 4 v k (rowP ps))) 20 #[.pointer (some ⟨p, 0, none⟩), v] fun e T => e = .returned (.tuple #[.int .i64 n, .int .i64 code]) ∧ T = (LedT p L' (c + 4 * k)).both (RowT 24 4 v k (rowP ps)) := by
  subst hk
  rintro w F ⟨F1, F2, h1, h2, h3, h4⟩
  have hv := psts_at h2.1
  refine (all_any (v := v) h1 hv (fun g hg => ?_) hc hz).mono ?_
  · have e : v.ownBlock = some g := (own_blk h2.1).trans hg
    exact ⟨fun f => h3 g f ((h2.2 g).2 e), (rows_lt h2.1 g e).2⟩
  · rintro e w' ⟨rfl, hst⟩
    rw [he] at *
    exact ⟨_, ⟨rfl, rfl⟩, Stp.left h2 h3 h4 (P' := LedT p L' (c + 4 * ps.length)) hst⟩
theorem acts_facts (ns : List Num) (k : Nat) : (∀ q ∈ (ns.take k).map Led.pst, q.key.size ≤ maxLen ∧ q.src.size ≤ maxLen ∧ q.dst.size ≤ maxLen) ∧ ((ns.take k).map Led.pst).length ≤ k := by
  refine ⟨fun q hq => ?_, by rw [List.length_map, List.length_take]; omega⟩
  obtain ⟨a, _, rfl⟩ := List.mem_map.1 hq
  exact num_sizes a
set_option maxHeartbeats 8000000 in
set_option maxRecDepth 100000 in
theorem walk_LedgerCopies (ao : Option Addr) (n c : Nat) (ns : List Num) (bo : Option Addr) (n2 c2 : Nat) (ns2 : List Num) (W : World) (h : ArgNums W ao n c ns) (h2 : ArgNums W bo n2 c2 ns2) (hT : Pow10 W) :
    Calls Tryz.prog 5 #[.slice ao n c, .slice bo n2 c2] W fun e w' => e = .returned (.bool true) ∧ Below W.heap.size W w' := by
  have HA := Lib.hid h
  have HA2 := Lib.hid h2
  have HT := Lib.hid hT
  obtain ⟨hz, hlen⟩ := acts_facts ns 20
  obtain ⟨hz2, hlen2⟩ := acts_facts ns2 20
  obtain ⟨ps, hps⟩ : ∃ ps, (ns.take 20).map Led.pst = ps := ⟨_, rfl⟩
  obtain ⟨qs2, hqs⟩ : ∃ qs2, (ns2.take 20).map Led.pst = qs2 := ⟨_, rfl⟩
  rw [hps] at hz hlen
  rw [hqs] at hz2 hlen2
  obtain ⟨m, hm⟩ : ∃ m, ps.length = m := ⟨_, rfl⟩
  obtain ⟨m2, hm2⟩ : ∃ m2, qs2.length = m2 := ⟨_, rfl⟩
  rw [hm] at hlen
  rw [hm2] at hlen2
  have HM := Lib.hid hm
  have HZ := Lib.hid hz
  have HPS := Lib.hid hps
  have HM2 := Lib.hid hm2
  have HZ2 := Lib.hid hz2
  have HQS := Lib.hid hqs
  clear h h2 hz hz2 hps hqs hm hm2 hT
  go_enter Tryz.func5, Tryz.ntmps5
  go_wp2_with fail
  refine (sanity_any W).mono ?_
  rintro e w1 ⟨rfl, hb⟩
  have B1 := Lib.hid hb
  clear hb
  go_wp2_with fail
  refine (new_trip W w1 Thing.nil (Has.nil B1.out)).mono ?_
  rintro e w2 ⟨p, rfl, h⟩
  have O2 := Lib.hid h.right
  have A2 := Lib.hid (nums_below HA.out h.base)
  clear h
  go_wp2_with fail
  refine (postings_any A2.out 20 (by omega)).mono ?_
  rintro e w3 ⟨v, rfl, h1, h2⟩
  rw [HPS.out] at h1
  have O3 := Lib.hid (O2.out.row h2 h1)
  clear h1 h2 O2 A2
  obtain ⟨ao', cap', hv, _⟩ := Has.psts rfl O3.out.right
  subst hv
  rw [HM.out] at O3 ⊢
  go_wp2_with fail
  go_loopw [8] (fun i wr => ∃ (k : Nat) (L : List Pst), k ≤ m ∧ i = .int .i64 k ∧ L.length ≤ k ∧ Led.Made L ∧ Has ((LedT p L (2 * k)).both (RowT 24 4 (.slice ao' m cap') m (rowP ps))) W wr) (fun i _ => m - (intOf i).toNat)
  case atStart => exact ⟨0, [], Nat.zero_le _, rfl, Nat.le_refl _, .nil, O3.out⟩
  case round =>
    obtain ⟨k, L, hk, rfl, hL, hM, hO⟩ := hrel
    have HO := Lib.hid hO
    have MD := Lib.hid hM
    clear hO hM
    by_cases hlt : k < m
    · obtain ⟨q, hq⟩ : ∃ q, ps[k]? = some q := ⟨ps[k]'(by rw [HM.out]; exact hlt), List.getElem?_eq_getElem _⟩
      have hzq := HZ.out q (List.mem_of_getElem? hq)
      obtain ⟨ao2, cap2, e1, hcq⟩ := Has.psts HM.out HO.out.right
      injection e1 with e1 _ e3
      subst e1 e3
      obtain ⟨g, rfl, cq⟩ := hcq k q hq
      have hpl := Led.post_snd L q
      have hmd := Led.Made.post MD.out q
      obtain ⟨code, L2, hpq⟩ : ∃ code L2, Led.post L q = (code, L2) := ⟨_, _, rfl⟩
      have PT := Lib.hid (post_on (P := LedT p L (2 * k)) HO.out q hpq (by omega) hzq)
      rw [hpq] at hpl hmd
      have MD2 := Lib.hid hmd
      have hlen2 : L2.length ≤ k + 1 := by
        rcases hpl with h | h <;> (simp only at h; subst h)
        · omega
        · rw [List.length_append, List.length_singleton]; omega
      obtain ⟨qk, qs, qd, qn⟩ := q
      have g0 : wr.cell? ⟨g, k * 4, none⟩ = some (.string qk) := (cq 0 (by omega)).trans rfl
      have g1 : wr.cell? ⟨g, k * 4 + 1, none⟩ = some (.string qs) := (cq 1 (by omega)).trans rfl
      have g2 : wr.cell? ⟨g, k * 4 + 2, none⟩ = some (.string qd) := (cq 2 (by omega)).trans rfl
      have g3 : wr.cell? ⟨g, k * 4 + 3, none⟩ = some (.int .i64 qn) := (cq 3 (by omega)).trans rfl
      have HL2 := Lib.hid hlen2
      clear cq hcq hq hpl hmd hpq hzq hlen2
      go_wp2_with fail
      refine PT.out.mono ?_
      rintro e w4 ⟨rfl, h4⟩
      have O4 := Lib.hid h4
      clear h4 PT g0 g1 g2 g3 HO
      go_wp2_with fail
      refine ⟨⟨k + 1, L2, by omega, by go_num, HL2.out, MD2.out, by rw [show 2 * (k + 1) = 2 * k + 2 by omega]; exact O4.out⟩, by simp [intOf]; omega⟩
    · obtain rfl : k = m := by omega
      have OL := Lib.hid HO.out.left
      have CE := Lib.hid (encode_on OL.out (by omega) (HT.out.below OL.out.base))
      clear HO
      go_wp2_with fail
      refine CE.out.mono ?_
      rintro e w4 ⟨rfl, b4⟩
      have O4 := Lib.hid (OL.out.below b4)
      clear b4 CE OL
      go_wp2_with fail
      refine (copy_on O4.out).mono ?_
      rintro e w5 ⟨p2, rfl, h5⟩
      have O5 := Lib.hid (O4.out.fresh h5)
      clear h5 O4
      obtain ⟨eb, heb⟩ : ∃ eb, bstr (Led.enc L) = eb := ⟨_, rfl⟩
      have HE := Lib.hid heb
      rw [heb]
      clear heb
      go_wp2_with fail
      refine (encode_on O5.out.right (by omega) (HT.out.below O5.out.base)).mono ?_
      rintro e w6 ⟨rfl, b6⟩
      have O6 := Lib.hid (O5.out.below b6)
      rw [HE.out]
      clear b6 O5
      go_wp2_with fail
      refine (list_on O6.out.right).mono ?_
      rintro e w7 ⟨v7, rfl, r7, b7⟩
      have O7 := Lib.hid (O6.out.below b7)
      have R7 := Lib.hid r7
      clear b7 O6 r7
      go_wp2_with fail
      refine (list_on O7.out.left).mono ?_
      rintro e w8 ⟨v8, rfl, r8, b8⟩
      have O8 := Lib.hid (O7.out.below b8)
      have CS := Lib.hid (same_any (rows_below R7.out b8) r8 (by omega))
      clear b8 O7 r8 R7
      go_wp2_with fail
      refine CS.out.mono ?_
      rintro e w9 ⟨rfl, b9⟩
      have O9 := Lib.hid (O8.out.below b9)
      have A9 := Lib.hid (nums_below HA2.out O9.out.base)
      clear b9 CS O8
      go_wp2_with fail
      refine (postings_any A9.out 20 (by omega)).mono ?_
      rintro e w10 ⟨v10, rfl, h1, h2⟩
      rw [HQS.out] at h1
      have O10 := Lib.hid (O9.out.row h2 h1).turn
      clear h1 h2 O9 A9
      obtain ⟨ao10, cap10, hv, _⟩ := Has.psts rfl O10.out.right.left
      subst hv
      rw [HM2.out] at O10 ⊢
      go_wp2_with fail
      have kb : k ≤ 20 := hlen
      go_loopw [12] (fun i wr => ∃ (j : Nat) (L2 : List Pst), j ≤ m2 ∧ i = .int .i64 j ∧ L2.length ≤ k + j ∧ Led.Made L2 ∧ Has ((LedT p2 L2 (2 * k + 2 * j)).both ((RowT 24 4 (.slice ao10 m2 cap10) m2 (rowP qs2)).both (LedT p L (2 * k)))) W wr) (fun i _ => m2 - (intOf i).toNat)
      case atStart => exact ⟨0, L, Nat.zero_le _, rfl, hL, MD.out, O10.out⟩
      case round =>
        obtain ⟨j, L2, hj, rfl, hL2, hM2, hO⟩ := hrel
        have HO := Lib.hid hO
        have MD2 := Lib.hid hM2
        clear hO hM2
        by_cases hlt : j < m2
        · obtain ⟨q, hq⟩ : ∃ q, qs2[j]? = some q := ⟨qs2[j]'(by rw [HM2.out]; exact hlt), List.getElem?_eq_getElem _⟩
          have hzq := HZ2.out q (List.mem_of_getElem? hq)
          obtain ⟨ao2, cap2, e1, hcq⟩ := Has.psts HM2.out HO.out.right.left
          injection e1 with e1 _ e3
          subst e1 e3
          obtain ⟨g, rfl, cq⟩ := hcq j q hq
          have hpl := Led.post_snd L2 q
          have hmd := Led.Made.post MD2.out q
          obtain ⟨code, L3, hpq⟩ : ∃ code L3, Led.post L2 q = (code, L3) := ⟨_, _, rfl⟩
          have PT := Lib.hid (post_on (P := LedT p2 L2 (2 * k + 2 * j)) HO.out q hpq (by omega) hzq)
          rw [hpq] at hpl hmd
          have MD3 := Lib.hid hmd
          have hlen3 : L3.length ≤ k + j + 1 := by
            rcases hpl with h | h <;> (simp only at h; subst h)
            · omega
            · rw [List.length_append, List.length_singleton]; omega
          obtain ⟨qk, qs, qd, qn⟩ := q
          have g0 : wr.cell? ⟨g, j * 4, none⟩ = some (.string qk) := (cq 0 (by omega)).trans rfl
          have g1 : wr.cell? ⟨g, j * 4 + 1, none⟩ = some (.string qs) := (cq 1 (by omega)).trans rfl
          have g2 : wr.cell? ⟨g, j * 4 + 2, none⟩ = some (.string qd) := (cq 2 (by omega)).trans rfl
          have g3 : wr.cell? ⟨g, j * 4 + 3, none⟩ = some (.int .i64 qn) := (cq 3 (by omega)).trans rfl
          have HL3 := Lib.hid hlen3
          clear cq hcq hq hpl hmd hpq hzq hlen3
          go_wp2_with fail
          refine PT.out.mono ?_
          rintro e w11 ⟨rfl, h4⟩
          have O11 := Lib.hid h4
          clear h4 PT g0 g1 g2 g3 HO
          go_wp2_with fail
          refine ⟨⟨j + 1, L3, by omega, by go_num, by have := HL3.out; omega, MD3.out, by rw [show 2 * k + 2 * (j + 1) = 2 * k + 2 * j + 2 by omega]; exact O11.out⟩, by simp [intOf]; omega⟩
        · obtain rfl : j = m2 := by omega
          have HX := Lib.hid HO.out.drop
          clear HO
          go_wp2_with fail
          refine (list_on HX.out.right).mono ?_
          rintro e w11 ⟨v11, rfl, r11, b11⟩
          have O11 := Lib.hid (HX.out.row b11 r11)
          clear b11 r11
          obtain ⟨ao11, cap11, hv, _⟩ := Has.psts rfl O11.out.right
          subst hv
          obtain ⟨l, hl⟩ : ∃ l, L.length = l := ⟨_, rfl⟩
          rw [hl] at O11 ⊢
          have LB : l ≤ 20 := by omega
          have HLL := Lib.hid hl
          clear HX hl
          go_wp2_with fail
          go_loopw [14] (fun i wr => ∃ (i' : Nat) (xs : List Value), i' ≤ l ∧ i = .int .i64 i' ∧ Has (((LedT p2 L2 (2 * k + 2 * j)).both (LedT p L (2 * k))).both (RowT 24 4 (.slice ao11 l cap11) l xs)) W wr) (fun i _ => l - (intOf i).toNat)
          case atStart => exact ⟨0, _, Nat.zero_le _, rfl, O11.out⟩
          case round =>
            obtain ⟨i, xs, hi, rfl, hO⟩ := hrel
            have HO := Lib.hid hO
            clear hO
            by_cases hil : i < l
            · obtain ⟨g, rfl⟩ : ∃ g, ao11 = some ⟨g, 0, none⟩ := by
                rcases (Has.rowOf HO.out.right).2 with ⟨_, h1⟩ | ⟨g', cap', cur, h1, _⟩
                · omega
                · injection h1 with h1
                  exact ⟨g', h1⟩
              obtain ⟨⟨u0, d0⟩, f0⟩ := Has.cellOf HO.out.right (i * 4) (by omega)
              obtain ⟨⟨u1, d1⟩, f1⟩ := Has.cellOf HO.out.right (i * 4 + 1) (by omega)
              obtain ⟨⟨u2, d2⟩, f2⟩ := Has.cellOf HO.out.right (i * 4 + 2) (by omega)
              obtain ⟨⟨u3, d3⟩, f3⟩ := Has.cellOf HO.out.right (i * 4 + 3) (by omega)
              have S4 := Lib.hid ((((HO.out.set (i * 4) (.string ⟨#[]⟩)).set (i * 4 + 1) (.string ⟨#[]⟩)).set (i * 4 + 2) (.string ⟨#[]⟩)).set (i * 4 + 3) (.int .i64 0))
              clear HO
              go_wp2_with fail
              refine ⟨⟨i + 1, _, by omega, by go_num, S4.out⟩, by simp [intOf]; omega⟩
            · obtain rfl : i = l := by omega
              have HX := Lib.hid HO.out.left
              clear HO
              go_wp2_with fail
              refine (accounts_on HX.out.right (by omega)).mono ?_
              rintro e w12 ⟨v12, rfl, r12, b12⟩
              have O12 := Lib.hid (HX.out.row b12 r12)
              clear b12 r12 HX
              obtain ⟨ao12, cap12, hv⟩ := own_slice (Has.rowOf O12.out.right)
              subst hv
              obtain ⟨l2, hl2⟩ : ∃ l2, (Led.names L).length = l2 := ⟨_, rfl⟩
              have lb2 : l2 ≤ 40 := by have := Led.names_length L; omega
              rw [hl2] at O12 ⊢
              clear hl2
              go_wp2_with fail
              go_loopw [16] (fun i wr => ∃ (i' : Nat) (xs : List Value), i' ≤ l2 ∧ i = .int .i64 i' ∧ Has (((LedT p2 L2 (2 * k + 2 * j)).both (LedT p L (2 * k))).both (RowT 9 1 (.slice ao12 l2 cap12) l2 xs)) W wr) (fun i _ => l2 - (intOf i).toNat)
              case atStart => exact ⟨0, _, Nat.zero_le _, rfl, O12.out⟩
              case round =>
                obtain ⟨i', xs', hi', rfl, hO⟩ := hrel
                have HO := Lib.hid hO
                clear hO
                by_cases hil : i' < l2
                · obtain ⟨g, rfl⟩ : ∃ g, ao12 = some ⟨g, 0, none⟩ := by
                    rcases (Has.rowOf HO.out.right).2 with ⟨_, h1⟩ | ⟨g', cap', cur, h1, _⟩
                    · omega
                    · injection h1 with h1
                      exact ⟨g', h1⟩
                  obtain ⟨⟨u0, d0⟩, f0⟩ := Has.cellOf HO.out.right i' (by omega)
                  have S4 := Lib.hid (HO.out.set i' (.string ⟨#[99, 104, 97, 110, 103, 101, 100]⟩))
                  clear HO
                  go_wp2_with fail
                  refine ⟨⟨i' + 1, _, by omega, by go_num, S4.out⟩, by simp [intOf]; omega⟩
                · obtain rfl : i' = l2 := by omega
                  have HX := Lib.hid HO.out.left
                  clear HO
                  go_wp2_with fail
                  refine (new_trip W wr _ HX.out).mono ?_
                  rintro e w13 ⟨p3, rfl, h13⟩
                  have O13 := Lib.hid h13
                  clear h13 HX
                  go_wp2_with fail
                  refine (list_on O13.out.left.left).mono ?_
                  rintro e w14 ⟨v14, rfl, r14, b14⟩
                  have O14 := Lib.hid (O13.out.row b14 r14).assoc
                  clear r14 b14 O13
                  have hl2c : L2.length ≤ 40 := by omega
                  obtain ⟨l3, hl3⟩ : ∃ l3, L2.length = l3 := ⟨_, rfl⟩
                  have HL3 := Lib.hid hl3
                  rw [hl3] at O14 hl2c
                  have AL : Hid (Led.all [] L2 = (l3, 0, L2)) := by
                    show _ = _
                    rw [Led.all_made MD2.out, hl3]
                  have OK2 := Lib.hid (LedT.ok O14.out.left.left)
                  have TR := Lib.hid ((Trip.right (Q := (LedT p2 L2 (2 * k + 2 * j)).both (LedT p L (2 * k))) (all_trip (p := p3) (c := 0) (v := v14) HL3.out AL.out (by omega) (fun q hq => right_small (OK2.out.1 q hq)))).call O14.out)
                  obtain ⟨ao14, cap14, hv⟩ := own_slice (Has.rowOf O14.out.right.right)
                  subst hv
                  clear hl3 AL O14
                  go_wp2_with fail
                  refine TR.out.mono ?_
                  rintro e w15 ⟨_, ⟨_, ⟨rfl, rfl⟩, rfl⟩, h15⟩
                  have O15 := Lib.hid h15
                  clear h15 TR
                  go_wp2_with fail
                  refine (encode_on O15.out.left.right (by omega) (HT.out.below O15.out.base)).mono ?_
                  rintro e w16 ⟨rfl, b16⟩
                  have O16 := Lib.hid (O15.out.below b16)
                  rw [HE.out]
                  clear b16 O15
                  go_wp2_with fail
                  refine (list_on O16.out.left.left).mono ?_
                  rintro e w17 ⟨v17, rfl, r17, b17⟩
                  have O17 := Lib.hid (O16.out.below b17)
                  obtain ⟨ao17, cap17, hv⟩ := own_slice r17
                  subst hv
                  rw [HL3.out]
                  clear b17 O16 r17
                  go_wp2_with fail
                  refine (encode_on O17.out.right.left (by rw [HL3.out]; omega) (HT.out.below O17.out.base)).mono ?_
                  rintro e w18 ⟨rfl, b18⟩
                  have O18 := Lib.hid (O17.out.below b18)
                  clear b18 O17
                  go_wp2_with fail
                  refine (encode_on O18.out.left.left (by rw [HL3.out]; omega) (HT.out.below O18.out.base)).mono ?_
                  rintro e w19 ⟨rfl, b19⟩
                  have B19 := Lib.hid (below_join O18.out.base b19)
                  clear b19 O18
                  go_wp2_with fail
                  go_ret
                  exact ⟨rfl, B19.out⟩
end Go.Proofs.YtfligfompdcddaaGreatDoor
