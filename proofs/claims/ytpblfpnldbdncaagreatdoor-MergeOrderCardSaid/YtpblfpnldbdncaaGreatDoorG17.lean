/- slices.IndexFunc with the tests of Evidence. Written by gen_idx.py. The contract of merge's Evidence. A merge, a row, a block as things beside each other; the methods of a merge as steps of them. -/
import Derived.Test.YtpblfpnldbdncaaGreatDoorG16
import Derived.Test.YtpblfpnldbdncaaGreatDoorG02
import Derived.Test.YtpblfpnldbdncaaGreatDoorG14
namespace Go.Proofs.YtpblfpnldbdncaaGreatDoor
open Go.RowKit Go.Sort Go.Maps
open Sg (Rc)
open Mg (Mst Jd)
set_option linter.unusedVariables false
set_option maxRecDepth 100000
/-- the place of the first for which a test is true, or -1 -/
def idxOf (f : Jd → Bool) (J : List Jd) : Int := match J.findIdx? f with
  | some i => (i : Int)
  | none => -1
theorem idx_none {f : Jd → Bool} {J : List Jd} (h : ∀ x ∈ J, f x = false) : idxOf f J = -1 := by
  unfold idxOf
  rw [List.findIdx?_eq_none_iff.2 h]
theorem idx_at {f : Jd → Bool} {J : List Jd} {i : Nat} {x : Jd} (h : ∀ y ∈ J.take i, f y = false) (hx : J[i]? = some x) (hf : f x = true) : idxOf f J = (i : Int) := by
  have e : J.findIdx? f = some i := by
    rw [List.findIdx?_eq_some_iff_getElem]
    obtain ⟨hi, e⟩ := List.getElem?_eq_some_iff.1 hx
    refine ⟨hi, by rw [e]; exact hf, fun j hj => ?_⟩
    have := h J[j] (List.mem_take_iff_getElem.2 ⟨j, by omega, rfl⟩)
    simp [this]
  unfold idxOf
  rw [e]
theorem jd_cells {w : World} {b : Nat} {j : Jd} {t : TypeId} {fr : Nat × Nat} (hj : JdOk j) (h : w.heap[b]? = some (.cells (jdArr j) t fr)) : w.cell? ⟨b, 135, none⟩ = some (.bool j.back) ∧ w.cell? ⟨b, 3, none⟩ = some (.int .i64 j.rc.seen) := by
  have hr := jd_range h
  have h1 := hr 135 _ (jd_get hj).2.1
  have h2 := (jd_rcAt hr).seen
  rw [Nat.zero_add] at h1 h2
  exact ⟨h1, h2⟩
set_option maxHeartbeats 1000000 in
theorem tback_any (j : Jd) (hj : JdOk j) (w : World) :
    Calls Tryz.prog 47 #[.agg (jdArr j)] w fun e w' => e = .returned (.bool j.back) ∧ Below w.heap.size w w' := by
  have hb0 : Below w.heap.size w (w.alloc (.cells (jdArr j) 107)) := (Below.refl _ _).alloc (Nat.le_refl _) _
  obtain ⟨x1, x2⟩ := jd_cells hj (heap_alloc_new w (.cells (jdArr j) 107))
  have HB0 := Lib.hid hb0
  clear hb0 x2
  go_enter Tryz.func47, Tryz.ntmps47
  go_wp2_with fail
  go_ret
  exact ⟨rfl, HB0.out⟩
set_option maxHeartbeats 1000000 in
theorem tseen_any (j : Jd) (hj : JdOk j) (s : Int) (w : World) (b : Nat) (h3 : w.cell? ⟨b, 3, none⟩ = some (.int .i64 s)) :
    Calls Tryz.prog 48 #[.agg (jdArr j), .pointer (some ⟨b, 0, none⟩)] w fun e w' => e = .returned (.bool (decide (s < j.rc.seen))) ∧ Below w.heap.size w w' := by
  have hb0 : Below w.heap.size w (w.alloc (.cells (jdArr j) 107)) := (Below.refl _ _).alloc (Nat.le_refl _) _
  obtain ⟨x1, x2⟩ := jd_cells hj (heap_alloc_new w (.cells (jdArr j) 107))
  have y3 := (hb0.cell (p := ⟨b, 3, none⟩) (block_lt_of_cell h3)).trans h3
  have HB0 := Lib.hid hb0
  clear hb0 x1 h3
  go_enter Tryz.func48, Tryz.ntmps48
  go_wp2_with fail
  go_ret
  exact ⟨rfl, HB0.out⟩

set_option maxHeartbeats 4000000 in
theorem index_back {w : World} {v : Value} {J : List Jd} (hA : LiesR jdK w v J) (hn : J.length ≤ 10000) :
    Calls Tryz.prog 46 #[v, .func (.func 47) #[] #[]] w fun e w' => e = .returned (.int .i64 (idxOf (fun j : Jd => j.back) J)) ∧ Below w.heap.size w w' := by
  obtain ⟨N, hN⟩ : ∃ N, J.length = N := ⟨_, rfl⟩
  obtain ⟨ao, cap, hv⟩ : ∃ ao cap, v = .slice ao N cap := by
    obtain ⟨ao, cap, h | h⟩ := hA.slice hN
    · exact ⟨ao, cap, h.1⟩
    · exact ⟨ao, cap, h.1⟩
  subst hv
  have HN := Lib.hid hN
  have HA := Lib.hid hA
  have N3 : N ≤ 10000 := by omega
  obtain ⟨tt, htt⟩ : ∃ tt, (fun j : Jd => j.back) = tt := ⟨_, rfl⟩
  rw [htt]
  have HTT := Lib.hid htt

  clear hN hA hn htt 
  go_enter Tryz.func46, Tryz.ntmps46
  go_wp2_with fail
  go_loopw [5, 8] (fun _ v8 wx => ∃ i : Nat, i ≤ N ∧ v8 = .int .i64 i ∧ (∀ x ∈ J.take i, tt x = false) ∧ Below w.heap.size w wx) (fun _ v8 _ => N - (intOf v8).toNat)
  case atStart => exact ⟨0, Nat.zero_le _, rfl, by simp, Below.refl _ _⟩
  case round =>
    obtain ⟨i, hi, rfl, hall, hb⟩ := hrel
    have HALL := Lib.hid hall
    have HB := Lib.hid hb
    clear hall hb
    by_cases hlt : i < N
    · have di : decide ((i : Int) < (N : Int)) = true := by simpa using hlt
      obtain ⟨x, hx⟩ : ∃ x, J[i]? = some x := ⟨J[i]'(by rw [HN.out]; exact hlt), List.getElem?_eq_getElem _⟩
      have htake : J.take (i + 1) = J.take i ++ [x] := by rw [List.take_add_one, hx]; rfl
      have HTK := Lib.hid htake
      have HX := Lib.hid hx
      obtain ⟨g, o, cap', e1, cl, gl, rg, xok⟩ := (HA.out.below HB.out).at hx
      injection e1 with e1 e2 e3
      subst e1 e3
      clear e2
      have XOK : Hid (JdOk x) := xok
      have RC : Hid (wr.rangeAt g (o + i * 137) (jdList x)) := rg
      have CT : Hid (Calls Tryz.prog 47 (#[.agg (jdArr x)] ++ #[]) wr fun e w' => e = .returned (.bool (tt x)) ∧ Below wr.heap.size wr w') := by
        rw [← HTT.out]
        exact tback_any x XOK.out wr
      clear hx htake rg gl cl xok
      obtain ⟨bt, hbt⟩ : ∃ bt, tt x = bt := ⟨_, rfl⟩
      rw [hbt] at CT
      have HBT := Lib.hid hbt
      clear hbt
      go_wp2_with (refine wpList_load_j rfl (.tmp 14) rfl g (o + i * 137) rfl XOK.out RC.out ?_)
      refine CT.out.mono ?_
      rintro e w7 ⟨rfl, hb7⟩
      have HB7 := Lib.hid (HB.out.trans (hb7.mono HB.out.size))
      clear hb7
      cases bt
      · go_wp2_with fail
        refine ⟨⟨i + 1, hlt, rfl, fun y hy => ?_, HB7.out⟩, by simp [intOf]; omega⟩
        rw [HTK.out, List.mem_append] at hy
        rcases hy with hy | hy
        · exact HALL.out y hy
        · simp only [List.mem_cons, List.not_mem_nil, or_false] at hy
          subst hy
          exact HBT.out
      · have FIN : Hid (idxOf tt J = (i : Int)) := idx_at HALL.out HX.out HBT.out
        go_wp2_with fail
        go_ret
        exact ⟨by rw [FIN.out]; rfl, HB7.out⟩
    · have ei : i = N := by omega
      have ET := Lib.hid (show J.take i = J by rw [ei, ← HN.out]; exact List.take_length)
      have di : decide ((i : Int) < (N : Int)) = false := by simp; omega
      have dj : decide (i < N) = false := by simp; omega
      have FIN : Hid (idxOf tt J = -1) := idx_none (by have := HALL.out; rwa [ET.out] at this)
      clear ei
      go_wp2_with fail
      go_ret
      exact ⟨by rw [FIN.out]; rfl, HB.out⟩

set_option maxHeartbeats 4000000 in
theorem index_seen {w : World} {v : Value} {J : List Jd} (hA : LiesR jdK w v J) (hn : J.length ≤ 10000) (s : Int) (b : Nat) (h3 : w.cell? ⟨b, 3, none⟩ = some (.int .i64 s)) :
    Calls Tryz.prog 46 #[v, .func (.func 48) #[] #[.pointer (some ⟨b, 0, none⟩)]] w fun e w' => e = .returned (.int .i64 (idxOf (fun j : Jd => decide (s < j.rc.seen)) J)) ∧ Below w.heap.size w w' := by
  obtain ⟨N, hN⟩ : ∃ N, J.length = N := ⟨_, rfl⟩
  obtain ⟨ao, cap, hv⟩ : ∃ ao cap, v = .slice ao N cap := by
    obtain ⟨ao, cap, h | h⟩ := hA.slice hN
    · exact ⟨ao, cap, h.1⟩
    · exact ⟨ao, cap, h.1⟩
  subst hv
  have HN := Lib.hid hN
  have HA := Lib.hid hA
  have N3 : N ≤ 10000 := by omega
  obtain ⟨tt, htt⟩ : ∃ tt, (fun j : Jd => decide (s < j.rc.seen)) = tt := ⟨_, rfl⟩
  rw [htt]
  have HTT := Lib.hid htt
  have H3 := Lib.hid h3
  clear hN hA hn htt h3
  go_enter Tryz.func46, Tryz.ntmps46
  go_wp2_with fail
  go_loopw [5, 8] (fun _ v8 wx => ∃ i : Nat, i ≤ N ∧ v8 = .int .i64 i ∧ (∀ x ∈ J.take i, tt x = false) ∧ Below w.heap.size w wx) (fun _ v8 _ => N - (intOf v8).toNat)
  case atStart => exact ⟨0, Nat.zero_le _, rfl, by simp, Below.refl _ _⟩
  case round =>
    obtain ⟨i, hi, rfl, hall, hb⟩ := hrel
    have HALL := Lib.hid hall
    have HB := Lib.hid hb
    clear hall hb
    by_cases hlt : i < N
    · have di : decide ((i : Int) < (N : Int)) = true := by simpa using hlt
      obtain ⟨x, hx⟩ : ∃ x, J[i]? = some x := ⟨J[i]'(by rw [HN.out]; exact hlt), List.getElem?_eq_getElem _⟩
      have htake : J.take (i + 1) = J.take i ++ [x] := by rw [List.take_add_one, hx]; rfl
      have HTK := Lib.hid htake
      have HX := Lib.hid hx
      obtain ⟨g, o, cap', e1, cl, gl, rg, xok⟩ := (HA.out.below HB.out).at hx
      injection e1 with e1 e2 e3
      subst e1 e3
      clear e2
      have XOK : Hid (JdOk x) := xok
      have RC : Hid (wr.rangeAt g (o + i * 137) (jdList x)) := rg
      have CT : Hid (Calls Tryz.prog 48 (#[.agg (jdArr x)] ++ #[.pointer (some ⟨b, 0, none⟩)]) wr fun e w' => e = .returned (.bool (tt x)) ∧ Below wr.heap.size wr w') := by
        rw [← HTT.out]
        exact tseen_any x XOK.out s wr b ((HB.out.cell (p := ⟨b, 3, none⟩) (block_lt_of_cell H3.out)).trans H3.out)
      clear hx htake rg gl cl xok
      obtain ⟨bt, hbt⟩ : ∃ bt, tt x = bt := ⟨_, rfl⟩
      rw [hbt] at CT
      have HBT := Lib.hid hbt
      clear hbt
      go_wp2_with (refine wpList_load_j rfl (.tmp 14) rfl g (o + i * 137) rfl XOK.out RC.out ?_)
      refine CT.out.mono ?_
      rintro e w7 ⟨rfl, hb7⟩
      have HB7 := Lib.hid (HB.out.trans (hb7.mono HB.out.size))
      clear hb7
      cases bt
      · go_wp2_with fail
        refine ⟨⟨i + 1, hlt, rfl, fun y hy => ?_, HB7.out⟩, by simp [intOf]; omega⟩
        rw [HTK.out, List.mem_append] at hy
        rcases hy with hy | hy
        · exact HALL.out y hy
        · simp only [List.mem_cons, List.not_mem_nil, or_false] at hy
          subst hy
          exact HBT.out
      · have FIN : Hid (idxOf tt J = (i : Int)) := idx_at HALL.out HX.out HBT.out
        go_wp2_with fail
        go_ret
        exact ⟨by rw [FIN.out]; rfl, HB7.out⟩
    · have ei : i = N := by omega
      have ET := Lib.hid (show J.take i = J by rw [ei, ← HN.out]; exact List.take_length)
      have di : decide ((i : Int) < (N : Int)) = false := by simp; omega
      have dj : decide (i < N) = false := by simp; omega
      have FIN : Hid (idxOf tt J = -1) := idx_none (by have := HALL.out; rwa [ET.out] at this)
      clear ei
      go_wp2_with fail
      go_ret
      exact ⟨by rw [FIN.out]; rfl, HB.out⟩
end Go.Proofs.YtpblfpnldbdncaaGreatDoor
namespace Go.Proofs.YtpblfpnldbdncaaGreatDoor
open Go.RowKit Go.Sort Go.Maps
open Sg (Rc)
open Mg (Mst Jd Pap)
set_option linter.unusedVariables false
set_option maxRecDepth 100000
attribute [local go_sem ↓] wp_alloc_pair wp_store_pair wp_alloc_rc
def evClone (st : Mst) (k : Int) : List Ev := match st.clones k with
  | some (a, b) => [evOf 7 k a b]
  | none => []
def evLater (J : List Jd) (k : Int) : List Ev := match J.find? (fun j => j.back) with
  | none => []
  | some l => match J.find? (fun j => decide (l.rc.seen < j.rc.seen)) with
    | none => []
    | some a => [evOf 6 k a.rc l.rc]
/-- the evidence against a kiosk -/
noncomputable def evid1 (st : Mst) (k : Int) : List Ev := evClone st k ++ evLater (st.judged rch k) k
theorem evClone_len (st : Mst) (k : Int) : (evClone st k).length ≤ 1 := by
  unfold evClone
  cases st.clones k with
  | none => simp
  | some x => simp
theorem evLater_len (J : List Jd) (k : Int) : (evLater J k).length ≤ 1 := by
  unfold evLater
  cases J.find? (fun j => j.back) with
  | none => simp
  | some l =>
    simp only
    cases J.find? (fun j => decide (l.rc.seen < j.rc.seen)) with
    | none => simp
    | some a => simp
theorem most_some (fits : Rc → Bool) (last : Option Jd) (p : Pap) (l : List Pap) (m : Int) (h : last = none) : ∃ q ∈ p :: l, Mg.mostOf fits last m (p :: l) = q.rc.seen := by
  subst h
  have e : Mg.mostOf fits none m (p :: l) = Mg.mostOf fits (some (Mg.step fits none m p)) p.rc.seen l := rfl
  rw [e]
  rcases most_mem fits l (some (Mg.step fits none m p)) p.rc.seen with h | ⟨q, hq, h⟩
  · exact ⟨p, by simp, h⟩
  · exact ⟨q, by simp [hq], h⟩
/-- one that is dated back has one before it that has seen more -/
theorem back_before (fits : Rc → Bool) : ∀ (L : List Pap) (j : Jd), j ∈ Mg.judge fits none 0 L → j.back = true → ∃ a ∈ Mg.judge fits none 0 L, j.rc.seen < a.rc.seen := by
  intro L j hj hb
  obtain ⟨i, hi⟩ := List.mem_iff_getElem?.1 hj
  have hlen := Mg.judge_length fits none 0 L
  have hi' : i < L.length := by rw [← hlen]; exact (List.getElem?_eq_some_iff.1 hi).1
  have e1 : L = L.take i ++ L[i] :: L.drop (i + 1) := by rw [← List.drop_eq_getElem_cons hi', List.take_append_drop]
  have e2 : Mg.judge fits none 0 L = Mg.judge fits none 0 (L.take i) ++ Mg.judge fits (Mg.lastOf none (Mg.judge fits none 0 (L.take i))) (Mg.mostOf fits none 0 (L.take i)) (L[i] :: L.drop (i + 1)) := by
    conv => lhs; rw [e1]
    exact Mg.judge_append ..
  have l0 : (Mg.judge fits none 0 (L.take i)).length = i := by rw [Mg.judge_length, List.length_take]; omega
  rw [e2, List.getElem?_append_right (by omega), l0, Nat.sub_self] at hi
  rw [Mg.judge, List.getElem?_cons_zero, Option.some.injEq] at hi
  subst hi
  have hb' : Mg.backOf (Mg.lastOf none (Mg.judge fits none 0 (L.take i))) (Mg.mostOf fits none 0 (L.take i)) L[i] = true := hb
  unfold Mg.backOf at hb'
  rw [Bool.and_eq_true, decide_eq_true_eq] at hb'
  obtain ⟨h1, h2⟩ := hb'
  cases hT : L.take i with
  | nil => rw [hT] at h1; simp [Mg.judge, Mg.lastOf] at h1
  | cons p l =>
    obtain ⟨q, hq, h3⟩ := most_some fits none p l 0 rfl
    rw [hT, h3] at h2
    have hqL : q ∈ L := List.mem_of_mem_take (hT ▸ hq)
    have hm := judge_rc fits none 0 L
    have : (⟨q.rc, q.h⟩ : Pap) ∈ (Mg.judge fits none 0 L).map (fun j => (⟨j.rc, j.h⟩ : Pap)) := by rw [hm]; exact hqL
    obtain ⟨a, ha, hea⟩ := List.mem_map.1 this
    refine ⟨a, ha, ?_⟩
    have : a.rc = q.rc := by injection hea
    rw [this]
    exact h2
/-- what the two searches find -/
theorem idx_find {f : Jd → Bool} {J : List Jd} : (idxOf f J = -1 ∧ J.find? f = none) ∨ ∃ (i : Nat) (x : Jd), idxOf f J = (i : Int) ∧ J[i]? = some x ∧ J.find? f = some x ∧ i < J.length := by
  cases hf : J.find? f with
  | none =>
    left
    have := List.find?_eq_none.1 hf
    exact ⟨idx_none fun x hx => by simpa using this x hx, rfl⟩
  | some x =>
    right
    obtain ⟨h1, la, lb, e, h2⟩ := List.find?_eq_some_iff_append.1 hf
    have hx : J[la.length]? = some x := by rw [e, List.getElem?_append_right (Nat.le_refl _), Nat.sub_self]; rfl
    refine ⟨la.length, x, idx_at (fun y hy => ?_) hx h1, hx, rfl, by rw [e]; simp⟩
    rw [e, List.take_append_of_le_length (Nat.le_refl _), List.take_length] at hy
    simpa using h2 y hy
theorem evClone_some {st : Mst} {k : Int} {a b : Rc} (h : st.clones k = some (a, b)) : evClone st k = [evOf 7 k a b] := by unfold evClone; rw [h]
theorem evClone_none {st : Mst} {k : Int} (h : st.clones k = none) : evClone st k = [] := by unfold evClone; rw [h]
theorem evLater_none {J : List Jd} {k : Int} (h : J.find? (fun j => j.back) = none) : evLater J k = [] := by unfold evLater; rw [h]
theorem evLater_some {J : List Jd} {k : Int} {l a : Jd} (h : J.find? (fun j => j.back) = some l) (h' : J.find? (fun j => decide (l.rc.seen < j.rc.seen)) = some a) : evLater J k = [evOf 6 k a.rc l.rc] := by unfold evLater; rw [h]; simp only; rw [h']
theorem own_ne_blk {α : Type} {P : Program} {R : Rk P α} {w : World} {b1 q : Nat} {v : Value} {xs : List α} {cs : Array Value} {t : TypeId} {fr : Nat × Nat} (h : OwnsR R w b1 v xs) (hq : w.heap[q]? = some (.cells cs t fr)) (hne : t ≠ R.ty) : v.ownBlock ≠ some q := by
  intro hb
  rcases h.2.2 with ⟨rfl, _⟩ | ⟨g, cap, cur, rfl, h1, h2, _⟩
  · cases hb
  · have e1 : g = q := by simpa [Value.ownBlock] using hb
    subst e1
    rw [h2] at hq
    injection hq with hq
    injection hq with _ e
    exact hne e.symm
/-- the pair of a map, parted -/
theorem pair_at {w : World} {b : Nat} {x y : Rc} {t : TypeId} {fr : Nat × Nat} (hx : RcOk x) (h : w.heap[b]? = some (.cells (pairArr x y) t fr)) : RcAt w b 0 x ∧ RcAt w b 102 y := by
  refine ⟨fun j v hv => ?_, fun j v hv => ?_⟩
  · rw [Nat.zero_add, cell_of_row _ _ _ _ _ _ h, pairArr, List.getElem?_toArray, pairList, List.getElem?_append_left (List.getElem?_eq_some_iff.1 hv).1]
    exact hv
  · rw [cell_of_row _ _ _ _ _ _ h, pairArr, List.getElem?_toArray, pairList, List.getElem?_append_right (by rw [rcList_length hx]; omega), rcList_length hx, show 102 + j - 102 = j by omega]
    exact hv
set_option maxHeartbeats 8000000 in
theorem evidences_any {w : World} {p : Nat} {vp vo vk vc : Value} {st : Mst} {n : Nat} (h : MrgAt w p vp vo vk vc st n) (hn : n ≤ 10000) (hfew : Few st) (hT : Pow10 w) :
    Calls Tryz.prog 19 #[.pointer (some ⟨p, 0, none⟩)] w fun e w' => ∃ v ks, e = .returned v ∧ KeysIs (pubF st) ks ∧ OwnsR evK w' w.heap.size v (ks.flatMap fun k => evid1 st k) ∧ Below w.heap.size w w' := by
  obtain ⟨v0, v1, v2, v3⟩ := h.vals
  have HM := Lib.hid h
  have HF := Lib.hid hfew
  have HT := Lib.hid hT
  have CO := Lib.hid (order_int h.pub hn)
  clear v1 v2 v3 h hfew hT
  go_enter Tryz.func19, Tryz.ntmps19
  go_wp2_with fail
  refine CO.out.mono ?_
  rintro e w1 ⟨v18, ks, rfl, q1, q2, q3, q4⟩
  obtain ⟨K, hK⟩ : ∃ K, ks.length = K := ⟨_, rfl⟩
  have HKL := Lib.hid hK
  have FK : K ≤ 9 := by
    obtain ⟨l, l1, l2⟩ := HF.out
    have := nodup_le _ _ q1.1 (fun k hk => l2 k (by
      have := ((q1.2 k).1 hk).2
      unfold pubF at this
      rwa [Option.isSome_map] at this))
    omega
  have LK : Hid (LiesR intK w1 v18 ks) := q2.lies
  obtain ⟨ao, cap, hv⟩ : ∃ ao cap, v18 = .slice ao K cap := by
    obtain ⟨ao, cap, h | h⟩ := LK.out.slice hK
    · exact ⟨ao, cap, h.1⟩
    · exact ⟨ao, cap, h.1⟩
  subst hv
  have Q1 := Lib.hid q1
  have BW1 := Lib.hid q4
  clear q1 q2 q3 q4 hK CO v0
  go_wp2_with fail
  go_loopw [3, 5, 6, 7, 8, 9, 10, 11, 20] (fun v3 _ _ _ _ _ _ _ v20 wx => ∃ i : Nat, i ≤ K ∧ v20 = .int .i64 i ∧ OwnsR evK wx w1.heap.size v3 ((ks.take i).flatMap fun k => evid1 st k) ∧ ((ks.take i).flatMap fun k => evid1 st k).length ≤ i * 2 ∧ Below w1.heap.size w1 wx) (fun _ _ _ _ _ _ _ _ v20 _ => K - (intOf v20).toNat)
  case atStart => exact ⟨0, Nat.zero_le _, rfl, OwnsR.nil _ _ _, by simp, Below.refl _ _⟩
  case round =>
    obtain ⟨i, hi, rfl, ho, hlen, hb⟩ := hrel
    have HO := Lib.hid ho
    have HLEN := Lib.hid hlen
    have HB1 := Lib.hid hb
    have HBW := Lib.hid (BW1.out.trans (hb.mono BW1.out.size))
    have LKX := Lib.hid (LK.out.below hb)
    clear ho hb hlen
    by_cases hlt : i < K
    · have di : decide ((i : Int) < (K : Int)) = true := by simpa using hlt
      obtain ⟨k, hk⟩ : ∃ k, ks[i]? = some k := ⟨ks[i]'(by rw [HKL.out]; exact hlt), List.getElem?_eq_getElem _⟩
      have htake : ks.take (i + 1) = ks.take i ++ [k] := by rw [List.take_add_one, hk]; rfl
      have HTK := Lib.hid htake
      obtain ⟨g, o, cap', e1, cl, gl, rg, kok⟩ := LKX.out.at hk
      injection e1 with e1 e2 e3
      subst e1 e3
      clear e2
      have KOK : Hid (I64 k) := kok
      have CS : wr.cell? ⟨g, o + i, none⟩ = some (.int .i64 k) := by
        have := rg 0 _ rfl
        rw [show o + i * intK.size + 0 = o + i by show o + i * 1 + 0 = _; omega] at this
        exact this
      obtain ⟨L0, hL0⟩ : ∃ L0, ((ks.take i).flatMap fun k => evid1 st k) = L0 := ⟨_, rfl⟩
      rw [hL0] at HO HLEN
      have HL0 := Lib.hid hL0
      have LL0 : L0.length ≤ 18 := by have := HLEN.out; omega
      have LL0' := Lib.hid LL0
      have MX := HM.out.below HBW.out
      have y3 := MX.vals.2.2.2
      have lk := MX.lookClone (Below.refl wr.heap.size wr) KOK.out
      obtain ⟨cs, ecs, zcs, ocs⟩ := clone_row MX.ok k
      rw [ecs] at lk
      have ECS := Lib.hid ecs
      have E3 := Lib.hid (World.setRow_alloc_new wr (pairArr rc0 rc0) cs 109)
      have F3 := Lib.hid (heap_alloc_new wr (.cells (pairArr rc0 rc0) 109))
      have F4 := Lib.hid (heap_alloc_new wr (.cells cs 109))
      have ZC := Lib.hid (show (Tryz.prog.info? 109).map (·.size) = some cs.size by rw [zcs]; kernel_rfl)
      have RS := Lib.hid (show (pairArr rc0 rc0).size = cs.size by rw [pairArr_size rc0_ok rc0_ok, zcs])
      have OC := Lib.hid ocs
      have BZ : Hid (Below wr.heap.size wr (wr.alloc (.cells cs 109))) := (Below.refl _ _).alloc (Nat.le_refl _) _
      obtain ⟨bb, ebb⟩ : ∃ bb, (st.clones k).isSome = bb := ⟨_, rfl⟩
      rw [ebb] at lk
      have EBB := Lib.hid ebb
      clear hk htake gl rg kok hL0 LL0 MX ecs zcs ocs ebb
      go_upto_if 33 with (refine wpList_store_row rfl 109 (.tmp 6) (.tmp 31) rfl wr.heap.size cs rfl rfl 109 _ F3.out ZC.out RS.out OC.out ?_; rw [E3.out]; simp only [Act.put])
      obtain ⟨q, hq⟩ : ∃ q, wr.heap.size = q := ⟨_, rfl⟩
      rw [hq] at F4
      rw [hq]
      generalize wr.alloc (.cells cs 109) = W3 at *
      have HO3 := Lib.hid (HO.out.below BZ.out)
      have HB3 := Lib.hid (HB1.out.trans (BZ.out.mono HB1.out.size))
      have HBW3 := Lib.hid (HBW.out.trans (BZ.out.mono HBW.out.size))
      have T3 := Lib.hid (HT.out.below HBW3.out)
      clear E3 F3 ZC RS OC hq CS y3 lk HO HB1 HBW LKX BZ
      obtain ⟨CE, hCE⟩ : ∃ CE, evClone st k = CE := ⟨_, rfl⟩
      have HCE := Lib.hid hCE
      have LCE := Lib.hid (show CE.length ≤ 1 by rw [← hCE]; exact evClone_len st k)
      clear hCE
      go_cut [3] (fun v3 wx => OwnsR evK wx w1.heap.size v3 (L0 ++ CE) ∧ Below w1.heap.size w1 wx)
      case first =>
        cases bb
        · have EN : Hid (CE = []) := by
            show _ = _
            rw [← HCE.out]
            refine evClone_none ?_
            have h0 := EBB.out
            cases hx : st.clones k with
            | none => rfl
            | some z => rw [hx] at h0; cases h0
          go_wp2_with fail
          go_meet
          rw [EN.out, List.append_nil]
          exact ⟨HO3.out, HB3.out⟩
        · obtain ⟨ab, hab⟩ : ∃ ab, st.clones k = some ab := by
            have h0 := EBB.out
            cases hx : st.clones k with
            | none => rw [hx] at h0; cases h0
            | some z => exact ⟨z, rfl⟩
          obtain ⟨ra, rb⟩ := ab
          have EN : Hid (CE = [evOf 7 k ra rb]) := by
            show _ = _
            rw [← HCE.out]
            exact evClone_some hab
          obtain ⟨ki, raok, rbok⟩ := HM.out.ok.clones k _ hab
          have ecs2 : cs = pairArr ra rb := by
            have := ECS.out
            rw [hab] at this
            injection this with this
            exact this.symm
          have F5 := F4.out
          rw [ecs2] at F5
          obtain ⟨at1, at2⟩ := pair_at raok F5
          have RAO : Hid (RcOk ra) := raok
          have RBO : Hid (RcOk rb) := rbok
          have AT1 : Hid (RcAt W3 q 0 ra) := at1
          have AT2 : Hid (RcAt W3 q 102 rb) := at2
          have EOK := Lib.hid (evOf_ok (k := 7) (by decide) ki raok rbok)
          have CV := Lib.hid (evidence_any 7 k ra rb raok rbok W3 T3.out)
          obtain ⟨V, hV⟩ : ∃ V, evOf 7 k ra rb = V := ⟨_, rfl⟩
          rw [hV] at EN EOK CV
          clear hab ki raok rbok ecs2 F5 at1 at2 hV
          go_wp2_with (first
            | (refine wpList_load_c rfl (.tmp 36) rfl q 0 rfl RAO.out AT1.out ?_)
            | (refine wpList_load_c rfl (.tmp 38) rfl q 102 rfl RBO.out AT2.out ?_))
          refine CV.out.mono ?_
          rintro e w4 ⟨rfl, hb4⟩
          have HO4 := Lib.hid (HO3.out.below hb4)
          have HB4 := Lib.hid (HB3.out.trans (hb4.mono HB3.out.size))
          have bz : Below w4.heap.size w4 (w4.alloc (.cells (evK.enc V).toArray evK.ty)) := (Below.refl _ _).alloc (Nat.le_refl _) _
          have OZ := Lib.hid (HO4.out.below bz)
          have BZ := Lib.hid (HB4.out.trans (bz.mono HB4.out.size))
          have NZ := Lib.hid (heap_alloc_new w4 (.cells (evK.enc V).toArray evK.ty))
          have LZ : Hid (L0.length ≤ 100000) := by show _ ≤ _; have := LL0'.out; omega
          clear bz hb4 HO4
          go_wp2_with (first
            | (refine wpList_build_r evK rfl (.tmp 40) rfl EOK.out (.agg (evArr V)) rfl rfl ?_)
            | (at_builtin; refine wpList_append_r evK rfl (.tmp 34) (.tmp 41) rfl w1.heap.size u3 L0 V w4.heap.size rfl rfl OZ.out EOK.out NZ.out LZ.out BZ.out.size ?_; intro v5' w8 hown8 hg8))
          go_meet
          rw [EN.out]
          exact ⟨hown8, BZ.out.grown hg8 BZ.out.size (fun b e => (OZ.out.base_le b e).1)⟩
      case rest =>
        obtain ⟨ho4, hb4⟩ := hcut
        have HO4 := Lib.hid ho4
        have HB4 := Lib.hid hb4
        have HBW4 := Lib.hid (BW1.out.trans (hb4.mono BW1.out.size))
        have CJ := Lib.hid (judge_any (HM.out.below HBW4.out) k KOK.out hn)
        clear ho4 hb4 HO3 HB3 HBW3 T3 F4 ECS EBB
        go_wp2_with fail
        refine CJ.out.mono ?_
        rintro e w6 ⟨v24, rfl, j1, j2, j3⟩
        obtain ⟨J, hJ⟩ : ∃ J, st.judged rch k = J := ⟨_, rfl⟩
        rw [hJ] at j1 j3
        have HJ := Lib.hid hJ
        obtain ⟨NJ, hNJ⟩ : ∃ NJ, J.length = NJ := ⟨_, rfl⟩
        have HNJ := Lib.hid hNJ
        have JB := Lib.hid (show ∀ j ∈ J, j.back = true → ∃ a ∈ J, j.rc.seen < a.rc.seen by rw [← hJ]; exact back_before _ _)
        obtain ⟨ao6, cap6, hv⟩ : ∃ ao6 cap6, v24 = .slice ao6 NJ cap6 := by
          obtain ⟨ao6, cap6, h | h⟩ := j1.lies.slice hNJ
          · exact ⟨ao6, cap6, h.1⟩
          · exact ⟨ao6, cap6, h.1⟩
        subst hv
        have J3 := Lib.hid j3
        have OJ6 := Lib.hid (j1.mono (HB4.out.size))
        have HO6 := Lib.hid (HO4.out.below j2)
        have HB6 := Lib.hid (HB4.out.trans (j2.mono HB4.out.size))
        have EV1 : Hid (evid1 st k = CE ++ evLater J k) := by
          show _ = _
          unfold evid1
          rw [HCE.out, HJ.out]
        have PK : Hid (((ks.take (i + 1)).flatMap fun k => evid1 st k) = (L0 ++ CE) ++ evLater J k) := by
          show _ = _
          rw [HTK.out, List.flatMap_append, HL0.out, List.append_assoc]
          simp [EV1.out]
        have LLE := Lib.hid (evLater_len J k)
        have PL : Hid (((ks.take (i + 1)).flatMap fun k => evid1 st k).length ≤ (i + 1) * 2) := by
          show _ ≤ _
          rw [PK.out, List.length_append, List.length_append]
          have h1 := HLEN.out
          have h2 := LCE.out
          have h3 := LLE.out
          omega
        have CX := Lib.hid (index_back OJ6.out.lies j3)
        obtain ⟨ix, hix⟩ : ∃ ix, idxOf (fun j : Jd => j.back) J = ix := ⟨_, rfl⟩
        rw [hix] at CX
        have HIX := Lib.hid hix
        clear j1 j2 j3 hJ hNJ hix CJ HBW4 HO4 HB4
        go_wp2_with fail
        refine CX.out.mono ?_
        rintro e w7 ⟨rfl, hb7⟩
        have OJ7 := Lib.hid (OJ6.out.below hb7)
        have HO7 := Lib.hid (HO6.out.below hb7)
        have HB7 := Lib.hid (HB6.out.trans (hb7.mono HB6.out.size))
        clear hb7 OJ6 HO6 HB6 CX
        rcases idx_find (f := fun j : Jd => j.back) (J := J) with ⟨g1, g2⟩ | ⟨bi, l, g1, g2, g3, g4⟩
        · have EI : ix = -1 := by rw [← HIX.out]; exact g1
          have EN := Lib.hid (evLater_none (k := k) g2)
          clear g1 g2 HIX
          subst EI
          go_wp2_with fail
          refine ⟨⟨i + 1, hlt, rfl, ?_, PL.out, HB7.out⟩, by simp [intOf]; omega⟩
          rw [PK.out, EN.out, List.append_nil]
          exact HO7.out
        · have EI : ix = (bi : Int) := by rw [← HIX.out]; exact g1
          have G2 := Lib.hid g2
          have G3 := Lib.hid g3
          have LM := Lib.hid (List.mem_of_getElem? g2)
          have LB : Hid (l.back = true) := by exact List.find?_some (p := fun j : Jd => j.back) g3
          have gN : bi < NJ := by rw [← HNJ.out]; exact g4
          have dl : decide ((bi : Int) < 0) = false := by simp
          obtain ⟨g6, o6, cp6, e1, cl, gl, rg, lok⟩ := OJ7.out.lies.at g2
          injection e1 with e1 e2 e3
          subst e1 e3
          clear e2
          have LOK : Hid (JdOk l) := lok
          have RC : Hid (RcAt w7 g6 (o6 + bi * 137) l.rc) := jd_rcAt rg
          have E3 := Lib.hid (World.setRow_alloc_new w7 (rcArr rc0) (rcArr l.rc) 31)
          have F3 := Lib.hid (heap_alloc_new w7 (.cells (rcArr rc0) 31))
          have F4 := Lib.hid (heap_alloc_new w7 (.cells (rcArr l.rc) 31))
          have RI := Lib.hid (rc_info LOK.out.rc)
          have RS := Lib.hid (show (rcArr rc0).size = (rcArr l.rc).size by rw [rcArr_size rc0_ok, rcArr_size LOK.out.rc])
          have BZ : Hid (Below w7.heap.size w7 (w7.alloc (.cells (rcArr l.rc) 31))) := (Below.refl _ _).alloc (Nat.le_refl _) _
          clear g1 g2 g3 g4 HIX rg gl cl lok
          subst EI
          have hmf : ∀ (fn : Fn) (first cap : Array Value) (w : World), (Instr.makeFunc fn first cap).run Tryz.prog w = .ok (.func fn first cap) w := fun _ _ _ _ => rfl
          go_upto_region 14 with (first
            | (refine wpList_load_c rfl (.tmp 54) rfl g6 (o6 + bi * 137) rfl LOK.out.rc RC.out ?_)
            | (refine wpList_store_row rfl 31 (.tmp 10) (.tmp 55) rfl w7.heap.size (rcArr l.rc) rfl rfl 31 _ F3.out RI.out RS.out (rcArr_one l.rc) ?_; rw [E3.out]; simp only [Act.put]))
          obtain ⟨q8, hq8⟩ : ∃ q8, w7.heap.size = q8 := ⟨_, rfl⟩
          rw [hq8] at F4
          rw [hq8]
          generalize w7.alloc (.cells (rcArr l.rc) 31) = W8 at *
          have AT8 : Hid (RcAt W8 q8 0 l.rc) := RcAt.of_row F4.out
          have y3 := AT8.out.seen
          rw [Nat.zero_add] at y3
          have LT8 : Hid (q8 < W8.heap.size) := block_lt_of_cell y3
          have HQ8 := Lib.hid F4.out
          have OJ8 := Lib.hid (OJ7.out.below BZ.out)
          have HO8 := Lib.hid (HO7.out.below BZ.out)
          have HB8 := Lib.hid (HB7.out.trans (BZ.out.mono HB7.out.size))
          have CX := Lib.hid (index_seen OJ8.out.lies J3.out l.rc.seen q8 y3)
          obtain ⟨ix, hix⟩ : ∃ ix, idxOf (fun j : Jd => decide (l.rc.seen < j.rc.seen)) J = ix := ⟨_, rfl⟩
          rw [hix] at CX
          have HIX := Lib.hid hix
          clear E3 F3 RI RS hq8 RC F4 BZ OJ7 HO7 HB7 hix y3
          go_wp2_with fail
          refine CX.out.mono ?_
          rintro e w9 ⟨rfl, hb9⟩
          have OJ9 := Lib.hid (OJ8.out.below hb9)
          have HO9 := Lib.hid (HO8.out.below hb9)
          have HB9 := Lib.hid (HB8.out.trans (hb9.mono HB8.out.size))
          have AT9 := Lib.hid (AT8.out.below LT8.out hb9)
          have LT9 : Hid (q8 < w9.heap.size) := Nat.lt_of_lt_of_le LT8.out hb9.size
          have HQ9 := Lib.hid (heap_below HQ8.out hb9)
          clear hb9 OJ8 HO8 HB8 CX AT8 LT8
          rcases idx_find (f := fun j : Jd => decide (l.rc.seen < j.rc.seen)) (J := J) with ⟨g1, g2⟩ | ⟨ai, a, g1, g2, g3, g4⟩
          · exfalso
            obtain ⟨a, ha, h1⟩ := JB.out l LM.out LB.out
            have := List.find?_eq_none.1 g2 a ha
            simp at this
            omega
          · have EI : ix = (ai : Int) := by rw [← HIX.out]; exact g1
            have EN := Lib.hid (evLater_some (k := k) G3.out g3)
            have gA : ai < NJ := by rw [← HNJ.out]; exact g4
            have da0 : (0 : Int) ≤ (ai : Int) := by omega
            have da1 : (ai : Int) < (NJ : Int) := by omega
            have da2 : ((ai : Int)).toNat = ai := by omega
            obtain ⟨g7, o7, cp7, e1, cl, gl, rg, aok⟩ := OJ9.out.lies.at g2
            injection e1 with e1 e2 e3
            injection e1 with e1
            injection e1 with e1 e4
            subst e1 e3 e4
            clear e2
            have AOK : Hid (JdOk a) := aok
            have TT := Lib.hid (HT.out.below (BW1.out.trans (HB9.out.mono BW1.out.size)))
            have EOK := Lib.hid (evOf_ok (k := 6) (by decide) KOK.out aok.rc LOK.out.rc)
            have CV := Lib.hid (fun W (h : Below w9.heap.size w9 W) => evidence_any 6 k a.rc l.rc AOK.out.rc LOK.out.rc W (TT.out.below h))
            obtain ⟨V, hV⟩ : ∃ V, evOf 6 k a.rc l.rc = V := ⟨_, rfl⟩
            rw [hV] at EN EOK CV
            have G7 := Lib.hid g2
            clear g1 g2 g3 g4 HIX rg gl cl aok hV
            subst EI
            go_upto_region 15 with fail
            obtain ⟨SS, hSS⟩ : ∃ SS : World → Prop, SS = fun w' => OwnsR jdK w' w1.heap.size (.slice (some ⟨g6, o6, none⟩) NJ cap6) J ∧ w'.heap[q8]? = some (.cells (rcArr l.rc) 31 (0, 0)) := ⟨_, rfl⟩
            have MKS : Hid (∀ w', OwnsR jdK w' w1.heap.size (.slice (some ⟨g6, o6, none⟩) NJ cap6) J → w'.heap[q8]? = some (.cells (rcArr l.rc) 31 (0, 0)) → SS w') := fun w' h1 h2 => by rw [hSS]; exact ⟨h1, h2⟩
            have L1 : Hid (∀ w', SS w' → (loadVar 31 ⟨g6, o6 + ai * 137, none⟩).run Tryz.prog w' = .ok (.agg (rcArr a.rc)) w') := fun w' h => by
              rw [hSS] at h
              obtain ⟨g, o, c, e, _, _, rg, _⟩ := h.1.lies.at G7.out
              injection e with e
              injection e with e
              injection e with e1 e2
              subst e1 e2
              exact load_rc_at AOK.out.rc (jd_rcAt rg)
            have L2 : Hid (∀ w', SS w' → (loadVar 31 ⟨q8, 0, none⟩).run Tryz.prog w' = .ok (.agg (rcArr l.rc)) w') := fun w' h => by
              rw [hSS] at h
              exact load_rc_at LOK.out.rc (RcAt.of_row h.2)
            clear hSS
            have BD : Hid (Below w9.heap.size w9 w9.drew) := (Below.refl _ _).drew
            refine wp_region_plan SS [12] [([0, 1, 2, 3, 4, 5, 6, 7, 8], 9), ([], 10), ([], 11)] (by kernel_rfl) (by kernel_rfl) (by kernel_rfl) (MKS.out _ (OJ9.out.below BD.out) (heap_below HQ9.out BD.out)) ?_
            simp only [List.map_cons, List.map_nil, opN, List.getD_cons_succ, List.getD_cons_zero]
            refine segs_cons ?_
            repeat (first
              | (refine quiet_load_row (by rfl) _ (.tmp 65) rfl _ _ rfl _ L1.out ?_; simp only [Act.put, List.setIfInBounds_toArray, List.set_cons_zero, List.set_cons_succ])
              | (refine quiet_load_row (by rfl) _ (.tmp 10) rfl _ _ rfl _ L2.out ?_; simp only [Act.put, List.setIfInBounds_toArray, List.set_cons_zero, List.set_cons_succ])
              | go_big_quiet_step (fail)
              | (go_big_quiet_want; go_big_quiet_op; refine ⟨_, fun _ _ => rfl, ?_⟩; go_big_quiet_on))
            refine wpQuiet_nil ?_
            refine segs_step (by rfl) fun K hK => ?_
            go_simp
            refine (CV.out _ BD.out).mono ?_
            rintro e w10 ⟨rfl, hb10⟩
            have B10 := Lib.hid (BD.out.trans (hb10.mono BD.out.size))
            have OJ10 := Lib.hid (OJ9.out.below B10.out)
            have HO10 := Lib.hid (HO9.out.below B10.out)
            have HB10 := Lib.hid (HB9.out.trans (B10.out.mono HB9.out.size))
            have HQ10 := Lib.hid (heap_below HQ9.out B10.out)
            refine hK _ _ (MKS.out _ OJ10.out HQ10.out) ?_
            clear hK K hb10 B10 BD OJ9 HO9 HB9 HQ9 L1 L2 CV
            refine segs_cons ?_
            refine wpQuiet_nil ?_
            refine segs_step (by rfl) fun K hK => ?_
            have bz : Below w10.heap.size w10 (w10.alloc (.cells (evK.enc V).toArray evK.ty)) := (Below.refl _ _).alloc (Nat.le_refl _) _
            have OZ := Lib.hid (HO10.out.below bz)
            have JZ := Lib.hid (OJ10.out.below bz)
            have QZ := Lib.hid (heap_below HQ10.out bz)
            have BZ := Lib.hid (HB10.out.trans (bz.mono HB10.out.size))
            have NZ := Lib.hid (heap_alloc_new w10 (.cells (evK.enc V).toArray evK.ty))
            have LZ : Hid ((L0 ++ CE).length ≤ 100000) := by show _ ≤ _; rw [List.length_append]; have := LL0'.out; have := LCE.out; omega
            refine wp_of_list (wpList_build_r evK rfl (.tmp 68) rfl EOK.out (.agg (evArr V)) rfl rfl ?_)
            refine hK _ _ (MKS.out _ JZ.out QZ.out) ?_
            clear hK K bz OJ10 HO10 HB10 HQ10
            simp only [Act.put, List.setIfInBounds_toArray, List.set_cons_zero, List.set_cons_succ]
            refine segs_cons ?_
            refine wpQuiet_nil ?_
            refine segs_step (by rfl) fun K hK => ?_
            refine wp_of_list (wpList_append_r evK rfl (.tmp 59) (.tmp 69) rfl w1.heap.size u3 (L0 ++ CE) V w10.heap.size rfl rfl OZ.out EOK.out NZ.out LZ.out BZ.out.size ?_)
            intro v5' w8 hown8 hg8
            have J9 := Lib.hid (JZ.out.grown hg8 (own_ne_ty JZ.out OZ.out (by decide)))
            have Q9 : Hid (w8.heap[q8]? = some (.cells (rcArr l.rc) 31 (0, 0))) := (hg8.block q8 (Array.getElem?_eq_some_iff.1 QZ.out).1 (Ne.symm (own_ne_blk OZ.out QZ.out (by decide)))).trans QZ.out
            have B9 := Lib.hid (BZ.out.grown hg8 BZ.out.size (fun b e => (OZ.out.base_le b e).1))
            refine hK _ _ (MKS.out _ J9.out Q9.out) ?_
            clear hK K hg8
            simp only [Act.put, List.setIfInBounds_toArray, List.set_cons_zero, List.set_cons_succ]
            refine segs_nil ?_
            repeat (go_big_quiet_step (fail))
            refine wpQuiet_nil ?_
            refine NoPanic.normal ?_
            go_wp2_with fail
            refine ⟨⟨i + 1, hlt, rfl, ?_, PL.out, B9.out⟩, by simp [intOf]; omega⟩
            rw [PK.out, EN.out]
            exact hown8
    · have ei : i = K := by omega
      have ET := Lib.hid (show ks.take i = ks by rw [ei, ← HKL.out]; exact List.take_length)
      have di : decide ((i : Int) < (K : Int)) = false := by simp; omega
      have dj : decide (i < K) = false := by simp; omega
      have WS := Lib.hid BW1.out.size
      clear ei
      go_wp2_with fail
      go_ret
      exact ⟨_, ks, rfl, Q1.out, by have := HO.out.mono WS.out; rwa [ET.out] at this, HBW.out⟩
end Go.Proofs.YtpblfpnldbdncaaGreatDoor
namespace Go.Proofs.YtpblfpnldbdncaaGreatDoor
open Go.RowKit Go.Sort Go.Maps
open Sg (Rc)
open Mg (Mst Jd)
set_option linter.unusedVariables false
set_option maxRecDepth 100000
/-- a row that the call owns -/
def RowsT {P : Program} {α : Type} (R : Rk P α) (v : Value) (xs : List α) : Thing where
  On w F := OwnsR R w 0 v xs ∧ ∀ k, F k ↔ v.ownBlock = some k
  lt := by
    rintro w F ⟨h1, h2⟩ k hk
    exact (h1.base_le k ((h2 k).1 hk)).2
  kept := by
    rintro w w' F G ⟨h1, h2⟩ ht hd
    refine ⟨⟨h1.1, row_turned h1.2 ht fun k hk => hd k ((h2 k).2 hk)⟩, h2⟩
/-- a block known whole -/
def BlkT (b : Nat) (o : Obj) : Thing where
  On w F := w.heap[b]? = some o ∧ ∀ k, F k ↔ k = b
  lt := by
    rintro w F ⟨h1, h2⟩ k hk
    rw [(h2 k).1 hk]
    exact (Array.getElem?_eq_some_iff.1 h1).1
  kept := by
    rintro w w' F G ⟨h1, h2⟩ ht hd
    exact ⟨(ht.block b (Array.getElem?_eq_some_iff.1 h1).1 (hd b ((h2 b).2 rfl))).trans h1, h2⟩
/-- a block that a thing surely has -/
def Thing.Holds (Q : Thing) (w : World) (b : Nat) : Prop := ∀ F, Q.On w F → F b
theorem Holds.left {P Q : Thing} {w : World} {b : Nat} (h : P.Holds w b) : (P.both Q).Holds w b := by
  rintro F ⟨F1, F2, h1, h2, h3, h4⟩
  exact (h4 b).2 (.inl (h F1 h1))
theorem Holds.right {P Q : Thing} {w : World} {b : Nat} (h : Q.Holds w b) : (P.both Q).Holds w b := by
  rintro F ⟨F1, F2, h1, h2, h3, h4⟩
  exact (h4 b).2 (.inr (h F2 h2))
theorem Holds.rows {P : Program} {α : Type} {R : Rk P α} {v : Value} {xs : List α} {w : World} {b : Nat} (h : v.ownBlock = some b) : (RowsT R v xs).Holds w b := fun F hF => (hF.2 b).2 h
theorem Holds.blk {b : Nat} {o : Obj} {w : World} : (BlkT b o).Holds w b := fun F hF => (hF.2 b).2 rfl
theorem Has.rows {P : Program} {α : Type} {R : Rk P α} {v : Value} {xs : List α} {w0 w : World} (h : Has (RowsT R v xs) w0 w) : OwnsR R w 0 v xs := let ⟨_, h, _⟩ := h; h.1
theorem Has.blk {b : Nat} {o : Obj} {w0 w : World} (h : Has (BlkT b o) w0 w) : w.heap[b]? = some o := let ⟨_, h, _⟩ := h; h.1
theorem Has.blk_le {b : Nat} {o : Obj} {w0 w : World} (h : Has (BlkT b o) w0 w) : w0.heap.size ≤ b := let ⟨_, h, h2, _⟩ := h; h2 b ((h.2 b).2 rfl)
theorem Has.mrg {p : Nat} {st : Mst} {n : Nat} {w0 w : World} (h : Has (MrgT p st n) w0 w) : ∃ vp vo vk vc, MrgAt w p vp vo vk vc st n := let ⟨_, ⟨vp, vo, vk, vc, h, _⟩, _⟩ := h; ⟨vp, vo, vk, vc, h⟩
/-- a row that has just been made -/
theorem Has.newRows {P : Program} {α : Type} {R : Rk P α} {v : Value} {xs : List α} {T : Thing} {w0 w w' : World} (h : Has T w0 w) (hb : Below w.heap.size w w') (hr : OwnsR R w' w.heap.size v xs) : Has (T.both (RowsT R v xs)) w0 w' :=
  h.new hb (Q := RowsT R v xs) (G := fun k => v.ownBlock = some k) ⟨hr.mono (Nat.zero_le _), fun k => Iff.rfl⟩ (fun k hk => (hr.base_le k hk).1)
/-- a block that has just been made -/
theorem Has.newBlk {T : Thing} {w0 w w' : World} {b : Nat} {o : Obj} (h : Has T w0 w) (hb : Below w.heap.size w w') (hg : w'.heap[b]? = some o) (hn : w.heap.size ≤ b) : Has (T.both (BlkT b o)) w0 w' :=
  h.new hb (Q := BlkT b o) (G := fun k => k = b) ⟨hg, fun k => Iff.rfl⟩ (fun k hk => by rw [hk]; exact hn)
/-- a merge that has just been made -/
theorem Has.newMrg {T : Thing} {w0 w w' : World} {p : Nat} {vp vo vk vc : Value} {st : Mst} {n : Nat} (h : Has T w0 w) (hb : Below w.heap.size w w') (hm : MrgAt w' p vp vo vk vc st n) (hn : ∀ k, FootM p vp vo vk vc k → w.heap.size ≤ k) : Has (T.both (MrgT p st n)) w0 w' :=
  h.new hb (Q := MrgT p st n) (G := FootM p vp vo vk vc) ⟨vp, vo, vk, vc, hm, fun k => Iff.rfl⟩ hn
/-- what a slice may lie in, beside a merge -/
def SafeIn (Q : Thing) (w0 w : World) (v : Value) : Prop := ∀ b, sliceBlk v = some b → b < w0.heap.size ∨ Q.Holds w b
theorem has_split {p : Nat} {st : Mst} {n : Nat} {Q : Thing} {w0 w : World} (h : Has ((MrgT p st n).both Q) w0 w) :
    ∃ vp vo vk vc F2, MrgAt w p vp vo vk vc st n ∧ Q.On w F2 ∧ (∀ k, FootM p vp vo vk vc k → ¬ F2 k) ∧ (∀ k, FootM p vp vo vk vc k → w0.heap.size ≤ k) ∧ (∀ k, F2 k → w0.heap.size ≤ k) ∧ Below w0.heap.size w0 w := by
  obtain ⟨F, ⟨F1, F2, ⟨vp, vo, vk, vc, hm, hF⟩, h2, h3, h4⟩, h5, h6⟩ := h
  exact ⟨vp, vo, vk, vc, F2, hm, h2, fun k hk => h3 k ((hF k).2 hk), fun k hk => h5 k ((h4 k).2 (.inl ((hF k).2 hk))), fun k hk => h5 k ((h4 k).2 (.inr hk)), h6⟩
theorem has_join {p : Nat} {vp vo vk vc vp' vo' vk' vc' : Value} {st : Mst} {n : Nat} {Q : Thing} {w0 w w' : World} {F2 : Nat → Prop} (hm : MrgAt w' p vp' vo' vk' vc' st n) (h2 : Q.On w F2) (hd : ∀ k, FootM p vp vo vk vc k → ¬ F2 k)
    (h1 : ∀ k, FootM p vp vo vk vc k → w0.heap.size ≤ k) (h3 : ∀ k, F2 k → w0.heap.size ≤ k) (hb : Below w0.heap.size w0 w) (ht : Turned (FootM p vp vo vk vc) w w') (hn : ∀ k, FootM p vp' vo' vk' vc' k → FootM p vp vo vk vc k ∨ w.heap.size ≤ k) : Has ((MrgT p st n).both Q) w0 w' := by
  have hs := hb.size
  refine ⟨fun k => FootM p vp' vo' vk' vc' k ∨ F2 k, ⟨_, F2, ⟨vp', vo', vk', vc', hm, fun k => Iff.rfl⟩, Q.kept h2 ht (fun k hk hf => hd k hf hk), fun k hk hf => ?_, fun k => Iff.rfl⟩, fun k hk => ?_, hb.trans (ht.below hs h1)⟩
  · rcases hn k hk with g | g
    · exact hd k g hf
    · have := Q.lt h2 k hf
      omega
  · rcases hk with hk | hk
    · rcases hn k hk with g | g
      · exact h1 k g
      · omega
    · exact h3 k hk
theorem env_turned {w0 w W : World} {F : Nat → Prop} (hE : Env w0) (hb : Below w0.heap.size w0 w) (h1 : ∀ k, F k → w0.heap.size ≤ k) (ht : Turned F w W) : Env W := hE.below (hb.trans (ht.below hb.size h1))
def Out1 (P : Thing) (w0 : World) (v : Value) (e : Ending) (w' : World) : Prop := e = .returned v ∧ Has P w0 w'
theorem take_has {p : Nat} {st : Mst} {n : Nat} {Q : Thing} {w0 w : World} (h : Has ((MrgT p st n).both Q) w0 w) (hE : Env w0) (k : Int) (hk : I64 k) {v : Value} {cs : List Rc} (hA : LiesR rcK w v cs) (hs : SafeIn Q w0 w v) (hn : n + cs.length ≤ 10000) :
    Calls Tryz.prog 18 #[.pointer (some ⟨p, 0, none⟩), .agg #[.int .i64 k, v]] w (Out1 ((MrgT p (st.take rver rch k cs).1 (n + cs.length)).both Q) w0 (.int .i64 (st.take rver rch k cs).2)) := by
  obtain ⟨vp, vo, vk, vc, F2, hm, h2, hd, h1, h3, hb⟩ := has_split h
  refine (take_any hm k hk hA (fun b hb' hf => ?_) hn (fun W hW => env_turned hE hb h1 hW)).mono ?_
  · rcases hs b hb' with g | g
    · have := h1 b hf
      omega
    · exact hd b hf (g F2 h2)
  · rintro e w' ⟨rfl, vk', vc', hm', ht, g1, g2⟩
    exact ⟨rfl, has_join hm' h2 hd h1 h3 hb ht (foot_later g1 g2)⟩
theorem foot_out {p : Nat} {vp vo vk vc vo' : Value} {B : Nat} (h1 : ∀ k, mapBlk vo' = some k → mapBlk vo = some k ∨ B ≤ k) : ∀ k, FootM p vp vo' vk vc k → FootM p vp vo vk vc k ∨ B ≤ k := by
  rintro k (h | h | h | h | h)
  · exact .inl (.inl h)
  · exact .inl (.inr (.inl h))
  · exact (h1 k h).elim (fun h => .inl (.inr (.inr (.inl h)))) .inr
  · exact .inl (.inr (.inr (.inr (.inl h))))
  · exact .inl (.inr (.inr (.inr (.inr h))))
theorem learn_has {p : Nat} {st : Mst} {n : Nat} {Q : Thing} {w0 w : World} (h : Has ((MrgT p st n).both Q) w0 w) (o : Ot) (ho : OtOk o) (hn : n ≤ 100000) :
    Calls Tryz.prog 16 #[.pointer (some ⟨p, 0, none⟩), .agg (otArr o)] w (Out1 ((MrgT p (st.learn o.rd o.hash).1 (n + 1)).both Q) w0 (.int .i64 (learnErr (st.learn o.rd o.hash).2))) := by
  obtain ⟨vp, vo, vk, vc, F2, hm, h2, hd, h1, h3, hb⟩ := has_split h
  refine (learn_any hm o ho hn).mono ?_
  rintro e w' ⟨rfl, vo', hm', ht, g1⟩
  exact ⟨rfl, has_join hm' h2 hd h1 h3 hb ht (foot_out g1)⟩
end Go.Proofs.YtpblfpnldbdncaaGreatDoor
