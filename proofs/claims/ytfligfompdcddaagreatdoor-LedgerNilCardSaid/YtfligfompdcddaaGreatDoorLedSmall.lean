/- Contracts of Ints and Mod; a ledger of the call's own. -/
import Derived.Test.YtfligfompdcddaaGreatDoorLedAll
import Derived.Test.YtfligfompdcddaaGreatDoorSplit
namespace Go.Proofs.YtfligfompdcddaaGreatDoor
open Go.RowKit Go.Sort Go.Maps
set_option linter.unusedVariables false
theorem IntsAt.slice {w : World} {v : Value} {xs : List Int} (h : IntsAt w v xs) : ∃ ao cap, v = .slice ao xs.length cap := by
  obtain ⟨ao, cap, e, _⟩ := h
  exact ⟨ao, cap, e⟩
theorem IntsAt.cell {w : World} {ao : Option Addr} {n cap : Nat} {xs : List Int} (h : IntsAt w (.slice ao n cap) xs) (h0 : 0 < xs.length) : ∃ g, ao = some ⟨g, 0, none⟩ ∧ ∀ j, j < xs.length → w.cell? ⟨g, j, none⟩ = some (.int .i64 (xs.getD j 0)) := by
  obtain ⟨ao', cap', e, h⟩ := h
  injection e with e1 e2 e3
  subst e1
  rcases h with h | h
  · rw [h] at h0; simp at h0
  · exact h
set_option maxHeartbeats 1000000 in
set_option maxRecDepth 100000 in
theorem ints_any (xs ys : List Int) (w : World) (v1 v2 : Value) (h1 : IntsAt w v1 xs) (h2 : IntsAt w v2 ys) (hl : xs.length ≤ maxLen) :
    Calls Tryz.prog 28 #[v1, v2] w fun e w' => e = .returned (.bool (decide (xs = ys))) ∧ Below w.heap.size w w' := by
  obtain ⟨a1, c1, rfl⟩ := h1.slice
  obtain ⟨a2, c2, rfl⟩ := h2.slice
  by_cases hn : xs.length = ys.length
  · obtain ⟨n, en⟩ : ∃ n, xs.length = n := ⟨_, rfl⟩
    have em : ys.length = n := by rw [← hn]; exact en
    have EN := Lib.hid en
    have EM := Lib.hid em
    have H1 := Lib.hid h1
    have H2 := Lib.hid h2
    have nb : n ≤ 9223372036854775807 := by rw [← en]; exact hl
    rw [en, em]
    clear h1 h2 hn en em hl
    go_enter Tryz.func28, Tryz.ntmps28
    go_wp2_with fail
    go_loopw [5] (fun i wr => ∃ k : Nat, k ≤ n ∧ i = .int .i64 k ∧ (∀ j, j < k → xs.getD j 0 = ys.getD j 0) ∧ Below w.heap.size w wr) (fun i _ => n - (intOf i).toNat)
    case atStart => exact ⟨0, Nat.zero_le _, rfl, fun j hj => by omega, Below.refl _ _⟩
    case round =>
      obtain ⟨k, hk, rfl, hall, hB⟩ := hrel
      have ALL := Lib.hid hall
      have HB := Lib.hid hB
      clear hall hB
      by_cases hlt : k < n
      · obtain ⟨g1, rfl, q1⟩ := H1.out.cell (by rw [EN.out]; omega)
        obtain ⟨g2, rfl, q2⟩ := H2.out.cell (by rw [EM.out]; omega)
        have b1 := q1 k (by rw [EN.out]; exact hlt)
        have b2 := q2 k (by rw [EM.out]; exact hlt)
        have b1' : wr.cell? ⟨g1, k, none⟩ = some (.int .i64 (xs.getD k 0)) := (HB.out.cell (p := ⟨g1, k, none⟩) (block_lt_of_cell b1)).trans b1
        have b2' : wr.cell? ⟨g2, k, none⟩ = some (.int .i64 (ys.getD k 0)) := (HB.out.cell (p := ⟨g2, k, none⟩) (block_lt_of_cell b2)).trans b2
        have kept : ∀ (a : Addr) (v : Value), wr.cell? a = some v → ∀ dd os, (grow (redrawn wr dd) os).cell? a = some v := fun a v ha dd os => ((below_regrown wr dd os).cell (block_lt_of_cell ha)).trans ha
        have X1 := kept _ _ b1'
        have X2 := kept _ _ b2'
        generalize hx : xs.getD k 0 = x at *
        generalize hy : ys.getD k 0 = y at *
        have HX := Lib.hid hx
        have HY := Lib.hid hy
        have k0 : (0 : Int) ≤ (k : Int) := by omega
        have k1 : (k : Int) < (n : Int) := by omega
        have k2 : (k : Int).toNat = k := by omega
        clear q1 q2 b1 b2 b1' b2' kept hx hy
        by_cases hxy : x = y
        · have d1 : (x != y) = false := by simpa using hxy
          have HXY := Lib.hid hxy
          clear hxy
          go_wp2_with fail
          refine wp_region_quiet_below (by kernel_rfl) (by kernel_rfl) ?_
          repeat (go_big_quiet_step (fail))
          refine wpQuiet_nil ?_
          intro _ hw'
          obtain ⟨⟨dq, osq⟩, hw''⟩ := hw'
          subst hw''
          have B := Lib.hid (below_join HB.out (below_regrown wr dq osq))
          clear X1 X2
          go_wp2_with fail
          go_roundw
          case rel => exact ⟨k + 1, by omega, by go_num, fun j hj => by
            by_cases e : j = k
            · rw [e, HX.out, HY.out]; exact HXY.out
            · exact ALL.out j (by omega), B.out⟩
          case measure => simp [intOf]; omega
        · have d1 : (x != y) = true := by simpa using hxy
          have hne : Hid (decide (xs = ys) = false) := by
            show _ = _
            simp only [decide_eq_false_iff_not]
            intro e
            exact hxy (by rw [← HX.out, ← HY.out, e])
          clear hxy
          go_wp2_with fail
          refine wp_region_quiet_below (by kernel_rfl) (by kernel_rfl) ?_
          repeat (go_big_quiet_step (fail))
          refine wpQuiet_nil ?_
          intro _ hw'
          obtain ⟨⟨dq, osq⟩, hw''⟩ := hw'
          subst hw''
          have B := Lib.hid (below_join HB.out (below_regrown wr dq osq))
          clear X1 X2
          go_wp2_with fail
          go_ret
          exact ⟨by rw [hne.out]; rfl, B.out⟩
      · obtain rfl : k = n := by omega
        have heq : Hid (decide (xs = ys) = true) := by
          show _ = _
          simp only [decide_eq_true_eq]
          exact list_ext_getD (by rw [EN.out, EM.out]) (fun j hj => ALL.out j (by rw [← EN.out]; exact hj))
        go_wp2_with fail
        go_ret
        exact ⟨by rw [heq.out]; rfl, HB.out⟩
  · have d1 : ((xs.length : Int) != (ys.length : Int)) = true := by
      have : ¬ (xs.length : Int) = (ys.length : Int) := by omega
      simpa using this
    have d2 : (xs.length != ys.length) = true := by simpa using hn
    have hne : Hid (decide (xs = ys) = false) := by
      show _ = _
      simp only [decide_eq_false_iff_not]
      intro e
      exact hn (by rw [e])
    clear h1 h2 hn
    go_enter Tryz.func28, Tryz.ntmps28
    go_wp2_with fail
    go_ret
    exact ⟨by rw [hne.out]; rfl, Below.refl _ _⟩
/-- a ledger that lies above block B, in a world that came of w0 -/
def Own (B p : Nat) (L : List Pst) (c : Nat) (w0 w : World) : Prop := ∃ F, LedIn w p L c F ∧ (∀ k, F k → B ≤ k) ∧ Below B w0 w
theorem Own.size {B p : Nat} {L : List Pst} {c : Nat} {w0 w : World} (h : Own B p L c w0 w) : B ≤ w.heap.size := by
  obtain ⟨F, h1, h2, h3⟩ := h
  have := h1.lt p h1.fp
  have := h2 p h1.fp
  omega
theorem Own.same {B p : Nat} {L : List Pst} {c : Nat} {w0 w : World} (h : Own B p L c w0 w) : Below B w0 w := let ⟨_, _, _, h3⟩ := h; h3
theorem Own.below {B p : Nat} {L : List Pst} {c : Nat} {w0 w w' : World} (h : Own B p L c w0 w) (hb : Below w.heap.size w w') : Own B p L c w0 w' := by
  have hs := h.size
  obtain ⟨F, h1, h2, h3⟩ := h
  exact ⟨F, h1.below hb, h2, h3.trans (hb.mono hs)⟩
theorem Own.then {B p : Nat} {L' : List Pst} {c' : Nat} {w0 w w' : World} {F : Nat → Prop} (h2 : ∀ k, F k → B ≤ k) (h3 : Below B w0 w) (hs : Step p L' c' F w w') (hB : B ≤ w.heap.size) : Own B p L' c' w0 w' := by
  obtain ⟨F', q1, q2, q3⟩ := hs
  exact ⟨F', q1, fun k hk => by rcases q3 k hk with g | g; exact h2 k g; omega, h3.trans (q2.below hB h2)⟩
theorem Own.ok {B p : Nat} {L : List Pst} {c : Nat} {w0 w : World} (h : Own B p L c w0 w) : Led.Ok L := by
  obtain ⟨F, ⟨vs, vk, vb, h1, _⟩, _⟩ := h
  exact h1.ok
theorem new_own (w0 w : World) (hb : Below w0.heap.size w0 w) : Calls Tryz.prog 8 #[] w fun e w' => e = .returned (.pointer (some ⟨w.heap.size, 0, none⟩)) ∧ Own w0.heap.size w.heap.size [] 0 w0 w' := by
  refine (new_any w).mono ?_
  rintro e w' ⟨rfl, h1, h2⟩
  refine ⟨rfl, _, ⟨_, _, _, h1, rfl⟩, ?_, hb.trans (h2.mono hb.size)⟩
  rintro k (rfl | hk | hk | hk)
  · exact hb.size
  · cases hk
  · cases hk
  · cases hk
theorem post_own {B p : Nat} {L L' : List Pst} {c : Nat} {w0 w : World} (h : Own B p L c w0 w) (q : Pst) (n : Int) (hp : Led.post L q = (n, L')) (hc : c ≤ 1000000000) (hz : q.key.size ≤ maxLen ∧ q.src.size ≤ maxLen ∧ q.dst.size ≤ maxLen) :
    Calls Tryz.prog 11 #[.pointer (some ⟨p, 0, none⟩), .agg q.arr] w fun e w' => e = .returned (.int .i64 n) ∧ Own B p L' (c + 2) w0 w' := by
  have hs := h.size
  obtain ⟨F, ⟨vs, vk, vb, h1, rfl⟩, h2, h3⟩ := h
  refine (post_at h1 q hc hz).mono ?_
  rintro e w' ⟨F', rfl, q1, q2, q3⟩
  rw [hp] at *
  exact ⟨rfl, Own.then h2 h3 ⟨F', q1, q2, q3⟩ hs⟩
theorem balance_own {B p : Nat} {L : List Pst} {c : Nat} {w0 w : World} (h : Own B p L c w0 w) (a : ByteArray) (n : Int) (hn : Led.bal L a = n) (ha : a.size ≤ maxLen) :
    Calls Tryz.prog 13 #[.pointer (some ⟨p, 0, none⟩), .string a] w fun e w' => e = .returned (.int .i64 n) ∧ w = w' := by
  obtain ⟨F, ⟨vs, vk, vb, h1, rfl⟩, h2, h3⟩ := h
  refine (balance_any h1 a ha).mono ?_
  rintro e w' ⟨rfl, rfl⟩
  rw [hn]
  exact ⟨rfl, rfl⟩
theorem paid_own {B p : Nat} {L : List Pst} {c : Nat} {w0 w : World} (h : Own B p L c w0 w) (a : ByteArray) (ha : a.size ≤ maxLen) :
    Calls Tryz.prog 15 #[.pointer (some ⟨p, 0, none⟩), .string a] w fun e w' => e = .returned (.bool (keysF L a).isSome) ∧ w = w' := by
  obtain ⟨F, ⟨vs, vk, vb, h1, rfl⟩, h2, h3⟩ := h
  refine (paid_any h1 a ha).mono ?_
  rintro e w' ⟨rfl, rfl⟩
  exact ⟨rfl, rfl⟩
theorem lpost_own {B p : Nat} {L : List Pst} {c : Nat} {w0 w : World} (h : Own B p L c w0 w) (k s d : ByteArray) (n : Int) :
    Calls Tryz.prog 26 #[.string k, .string s, .string d, .int .i64 n] w fun e w' => e = .returned (.agg #[.string k, .string s, .string d, .int .i64 n]) ∧ Own B p L c w0 w' := by
  refine (lpost_any k s d n w).mono ?_
  rintro e w' ⟨rfl, hb⟩
  exact ⟨rfl, h.below hb⟩
theorem all_own {B p : Nat} {L L' : List Pst} {c n : Nat} {code : Int} {w0 w w1 : World} {v : Value} (h : Own B p L c w0 w) (hb : Below w.heap.size w w1) (ps : List Pst) (he : Led.all L ps = (n, code, L')) (hv : PstsAt w1 v ps) (hg : ∀ g, blkOf v = some g → w.heap.size ≤ g ∧ g < w1.heap.size)
    (hc : c + 4 * ps.length ≤ 1000000000) (hz : ∀ q ∈ ps, q.key.size ≤ maxLen ∧ q.src.size ≤ maxLen ∧ q.dst.size ≤ maxLen) :
    Calls Tryz.prog 20 #[.pointer (some ⟨p, 0, none⟩), v] w1 fun e w' => e = .returned (.tuple #[.int .i64 n, .int .i64 code]) ∧ Own B p L' (c + 4 * ps.length) w0 w' := by
  have hs := h.size
  obtain ⟨F, h1, h2, h3⟩ := h
  refine (all_any (h1.below hb) hv (fun g e => ⟨fun f => by have := h1.lt g f; have := (hg g e).1; omega, (hg g e).2⟩) hc hz).mono ?_
  rintro e w' ⟨rfl, hst⟩
  rw [he] at *
  exact ⟨rfl, Own.then h2 (h3.trans (hb.mono hs)) hst (Nat.le_trans hs hb.size)⟩
theorem split_own {a : Int} {ws ps : List Int} {w : World} {v : Value} (hs : Led.split a ws = some ps) (hv : IntsAt w v ws) (hn : ws.length ≤ 19) :
    Calls Tryz.prog 27 #[.int .i64 a, v] w fun e w' => ∃ g, e = .returned (.tuple #[.slice (some ⟨g, 0, none⟩) ps.length ps.length, .bool true]) ∧ IntsFull w' g ps ∧ Below w.heap.size w w' := by
  refine (split_any a ws w v hv hn).mono ?_
  intro e w' h
  unfold SplitOf at h
  rw [hs] at h
  obtain ⟨g, h1, h2, _, h3⟩ := h
  exact ⟨g, h1, h2, h3⟩
end Go.Proofs.YtfligfompdcddaaGreatDoor
