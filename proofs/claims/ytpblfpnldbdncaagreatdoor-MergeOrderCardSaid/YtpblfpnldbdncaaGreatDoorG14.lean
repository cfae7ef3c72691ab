/- The contract of merge's Take. Plain: the receipts that the reference makes of numbers, whatever is wrong with them. No program in sight. The contract of merge's New. -/
import Derived.Test.YtpblfpnldbdncaaGreatDoorG12
import Derived.Test.YtpblfpnldbdncaaGreatDoorG13
import Derived.Test.YtpblfpnldbdncaaGreatDoorG01
import Derived.Test.YtpblfpnldbdncaaGreatDoorG02
import Derived.Carry
namespace Go.Proofs.YtpblfpnldbdncaaGreatDoor
open Go.RowKit Go.Sort Go.Maps
open Sg (Rc)
open Mg (Mst Jd)
set_option linter.unusedVariables false
set_option maxRecDepth 100000
attribute [local go_sem ↓] wp_alloc_rc wp_alloc_jd
/-- what Verify answers -/
def rver (y : Int) (c : Rc) : Bool := Sg.ver sc 1152921504606845789 2305843009213691579 y c.body c.r c.s
theorem keeps_snoc : ∀ (l : List Rc) (m : Mst) (r : Rc), m.keeps (l ++ [r]) = (((m.keeps l).1.keep r).1, (m.keeps l).2 || !((m.keeps l).1.keep r).2)
  | [], m, r => by
    show ((m.keep r).1, !(m.keep r).2 || false) = _
    simp [Mst.keeps]
  | x :: l, m, r => by
    have ih := keeps_snoc l (m.keep x).1 r
    show (((m.keep x).1.keeps (l ++ [r])).1, !(m.keep x).2 || ((m.keep x).1.keeps (l ++ [r])).2) = _
    rw [ih]
    show _ = (_, (!(m.keep x).2 || ((m.keep x).1.keeps l).2) || _)
    rw [Bool.or_assoc]
    rfl
def Taken (p : Nat) (vp vo vk vc : Value) (r : Mst × Int) (n : Nat) (w : World) (e : Ending) (w' : World) : Prop :=
  e = .returned (.int .i64 r.2) ∧ ∃ vk' vc', MrgAt w' p vp vo vk' vc' r.1 n ∧ Turned (FootM p vp vo vk vc) w w' ∧ (∀ k, mapBlk vk' = some k → mapBlk vk = some k ∨ w.heap.size ≤ k) ∧ ∀ k, mapBlk vc' = some k → mapBlk vc = some k ∨ w.heap.size ≤ k
theorem taken_same {p : Nat} {vp vo vk vc : Value} {st : Mst} {n m : Nat} {w w' : World} (h : MrgAt w p vp vo vk vc st n) (hm : n ≤ m) (hb : Below w.heap.size w w') (c : Int) : Taken p vp vo vk vc (st, c) m w (.returned (.int .i64 c)) w' :=
  ⟨rfl, vk, vc, (h.below hb).mono hm, Turned.of_below hb, fun k hk => .inl hk, fun k hk => .inl hk⟩
theorem MrgAt.lookPub {w W : World} {p : Nat} {vp vo vk vc : Value} {st : Mst} {n : Nat} (h : MrgAt w p vp vo vk vc st n) (hb : Below w.heap.size w W) {k : Int} (hk : I64 k) :
    (Instr.lookup 77 vp (.int .i64 k) true).run Tryz.prog W = .ok (.tuple #[.int .i64 ((st.pub k).getD 0), .bool (st.pub k).isSome]) W := by
  have := (h.pub.below hb).look_ok (e := 3) (z := .int .i64 0) Tryz.underlying77 (by simp [zeroValue, typeInfo, go_sem]; rfl) hk
  have e1 : ((pubF st k).getD (.int .i64 0)) = .int .i64 ((st.pub k).getD 0) := by unfold pubF; cases st.pub k <;> rfl
  have e2 : (pubF st k).isSome = (st.pub k).isSome := by unfold pubF; cases st.pub k <;> rfl
  rw [e1, e2] at this
  exact this
theorem turned_cell {F : Nat → Prop} {w w' : World} (h : Turned F w w') {g o : Nat} (hg : g < w.heap.size) (hF : ¬ F g) : w'.cell? ⟨g, o, none⟩ = w.cell? ⟨g, o, none⟩ := by
  have := h.block g hg hF
  simp only [World.cell?, this]
/-- the footprint a later merge has, against an earlier one's -/
theorem foot_later {p : Nat} {vp vo vk vc vk' vc' : Value} {B : Nat} (h1 : ∀ k, mapBlk vk' = some k → mapBlk vk = some k ∨ B ≤ k) (h2 : ∀ k, mapBlk vc' = some k → mapBlk vc = some k ∨ B ≤ k) : ∀ k, FootM p vp vo vk' vc' k → FootM p vp vo vk vc k ∨ B ≤ k := by
  rintro k (h | h | h | h | h)
  · exact .inl (.inl h)
  · exact .inl (.inr (.inl h))
  · exact .inl (.inr (.inr (.inl h)))
  · exact (h1 k h).elim (fun h => .inl (.inr (.inr (.inr (.inl h))))) .inr
  · exact (h2 k h).elim (fun h => .inl (.inr (.inr (.inr (.inr h))))) .inr
set_option maxHeartbeats 8000000 in
theorem take_any {w : World} {p : Nat} {vp vo vk vc : Value} {st : Mst} {n : Nat} (h : MrgAt w p vp vo vk vc st n) (k : Int) (hk : I64 k) {v : Value} {cs : List Rc} (hA : LiesR rcK w v cs)
    (hd : ∀ b, sliceBlk v = some b → ¬ FootM p vp vo vk vc b) (hn : n + cs.length ≤ 10000) (hE : ∀ W, Turned (FootM p vp vo vk vc) w W → Env W) :
    Calls Tryz.prog 18 #[.pointer (some ⟨p, 0, none⟩), .agg #[.int .i64 k, v]] w (Taken p vp vo vk vc (st.take rver rch k cs) (n + cs.length) w) := by
  obtain ⟨N, hN⟩ : ∃ N, cs.length = N := ⟨_, rfl⟩
  obtain ⟨ao, cap, hv⟩ : ∃ ao cap, v = .slice ao N cap := by
    obtain ⟨ao, cap, h | h⟩ := hA.slice hN
    · exact ⟨ao, cap, h.1⟩
    · exact ⟨ao, cap, h.1⟩
  subst hv
  rw [hN] at hn ⊢
  have HN := Lib.hid hN
  have HA := Lib.hid hA
  have HD := Lib.hid hd
  have HE := Lib.hid hE
  have HM := Lib.hid h
  have hb0 : Below w.heap.size w (w.alloc (.cells #[.int .i64 k, .slice ao N cap] 46)) := (Below.refl _ _).alloc (Nat.le_refl _) _
  have RW := heap_alloc_new w (.cells #[.int .i64 k, .slice ao N cap] 46)
  obtain ⟨bq, hbq⟩ : ∃ bq, w.heap.size = bq := ⟨_, rfl⟩
  have HBQ := Lib.hid hbq
  have k0L : (w.alloc (.cells #[.int .i64 k, .slice ao N cap] 46)).cell? ⟨w.heap.size, 0, none⟩ = some (.int .i64 k) := (cell_of_row _ _ 0 _ _ _ RW).trans rfl
  obtain ⟨W1, hW1⟩ : ∃ W1, w.alloc (.cells #[.int .i64 k, .slice ao N cap] 46) = W1 := ⟨_, rfl⟩
  have HW1 := Lib.hid hW1
  rw [hW1] at hb0 RW
  have k0 := (cell_of_row _ _ 0 _ _ _ RW).trans rfl
  have M1 := h.below hb0
  obtain ⟨v0, v1, v2, v3⟩ := M1.vals
  have lk := M1.lookPub (Below.refl W1.heap.size W1).drew hk
  obtain ⟨y, hy⟩ : ∃ y, (st.pub k).getD 0 = y := ⟨_, rfl⟩
  obtain ⟨is, his⟩ : ∃ is, (st.pub k).isSome = is := ⟨_, rfl⟩
  rw [hy, his] at lk
  have HY := Lib.hid hy
  have HIS := Lib.hid his
  have HB1 := Lib.hid hb0
  have HRW := Lib.hid RW
  have HK := Lib.hid hk
  obtain ⟨R, hR⟩ : ∃ R, st.take rver rch k cs = R := ⟨_, rfl⟩
  rw [hR]
  have HR := Lib.hid hR
  clear v1 v2 v3 hy his h hA hd hE hb0 RW M1 hN hW1 hbq hR
  go_enter Tryz.func18, Tryz.ntmps18
  go_wp2_with fail
  rw [HW1.out]
  clear k0L
  go_region
  have bd : Below W1.heap.size W1 W1.drew := (Below.refl _ _).drew
  have HB2 := Lib.hid (HB1.out.trans (bd.mono HB1.out.size))
  have HRQ := Lib.hid (heap_below HRW.out bd)
  clear bd lk k0 v0
  generalize W1.drew = W2 at *
  cases is
  · have FIN : Hid (Taken p vp vo vk vc R (n + N) w (.returned (.int .i64 34)) W2) := by
      have : st.pub k = none := by have h0 := HIS.out; cases hx : st.pub k with
        | none => rfl
        | some z => rw [hx] at h0; cases h0
      show Taken _ _ _ _ _ _ _ _ _ _
      rw [← HR.out, Mg.take_none this]
      exact taken_same HM.out (by omega) HB2.out 34
    go_wp2_with fail
    go_ret
    exact FIN.out
  · have EP : Hid (st.pub k = some y) := by
      have h0 := HIS.out
      have h1 := HY.out
      show _ = _
      cases hx : st.pub k with
      | none => rw [hx] at h0; cases h0
      | some z => rw [hx] at h1; exact congrArg some h1
    have HYI : Hid (I64 y) := (HM.out.ok.pub _ _ EP.out).2
    have TK : Hid (R = if cs.any (fun r => decide (r.kiosk ≠ k) || decide (r.serial < 1)) then (st, 11) else
        if cs.any (fun r => !rver y r) then (st, 21) else
        if (st.keeps cs).2 then ((st.keeps cs).1, 51) else
        if ((st.keeps cs).1.judged rch k).any (fun j => !j.sound) then ((st.keeps cs).1, 36) else ((st.keeps cs).1, 0)) := by
      show _ = _
      rw [← HR.out]
      unfold Mst.take
      rw [EP.out]
    rw [HBQ.out] at HRQ ⊢
    have q1 : W2.cell? ⟨bq, 1, none⟩ = some (.slice ao N cap) := (cell_of_row _ _ 1 _ _ _ HRQ.out).trans rfl
    have BQN : Hid (w.heap.size ≤ bq) := by rw [HBQ.out]; exact Nat.le_refl _
    clear HBQ HRW HW1 HB1 HIS HY W1
    have BA2 : Hid (Below w.heap.size w W2) := HB2
    have F11 : Hid (∀ c ∈ cs, (c.kiosk ≠ k ∨ c.serial < 1) → R = (st, 11)) := by
      intro c hc hb
      rw [TK.out, if_pos]
      rw [List.any_eq_true]
      refine ⟨c, hc, ?_⟩
      rw [Bool.or_eq_true, decide_eq_true_eq, decide_eq_true_eq]
      exact hb
    have BKQ : Hid (∀ W, Below w.heap.size w W → Env W) := fun W hb => HE.out W (Turned.of_below hb)
    go_wp2_with fail
    go_loopw [8, 33] (fun _ v33 wx => ∃ i : Nat, i ≤ N ∧ v33 = .int .i64 i ∧ (∀ r ∈ cs.take i, r.kiosk = k ∧ 1 ≤ r.serial) ∧ Below W2.heap.size W2 wx) (fun _ v33 _ => N - (intOf v33).toNat)
    case atStart => exact ⟨0, Nat.zero_le _, rfl, fun r hr => by simp at hr, Below.refl _ _⟩
    case round =>
      obtain ⟨i, hi, rfl, hall, hb⟩ := hrel
      have HALL := Lib.hid hall
      have HB2x := Lib.hid hb
      have HB := Lib.hid (HB2.out.trans (hb.mono HB2.out.size))
      clear hall hb
      by_cases hlt : i < N
      · have di : decide ((i : Int) < (N : Int)) = true := by simpa using hlt
        obtain ⟨c, hc⟩ : ∃ c, cs[i]? = some c := ⟨cs[i]'(by rw [HN.out]; exact hlt), List.getElem?_eq_getElem _⟩
        have htake : cs.take (i + 1) = cs.take i ++ [c] := by rw [List.take_add_one, hc]; rfl
        have HTK := Lib.hid htake
        have HCM := Lib.hid (List.mem_of_getElem? hc)
        obtain ⟨g, o, cap', e1, cl, gl, rg, cok⟩ := HA.out.at hc
        injection e1 with e1 e2 e3
        subst e1 e3
        clear e2
        have COK : Hid (RcOk c) := cok
        have CI := HB.out
        have RC : Hid (RcAt wr g (o + i * 102) c) := fun j v hv => (HB.out.cell (p := ⟨g, _, none⟩) gl).trans (rg j v hv)
        have E3 := Lib.hid (World.setRow_alloc_new wr (rcArr rc0) (rcArr c) 31)
        have F3 := Lib.hid (heap_alloc_new wr (.cells (rcArr rc0) 31))
        have F4 := Lib.hid (heap_alloc_new wr (.cells (rcArr c) 31))
        have RI := Lib.hid (rc_info COK.out)
        have RS := Lib.hid (show (rcArr rc0).size = (rcArr c).size by rw [rcArr_size rc0_ok, rcArr_size COK.out])
        have BZ : Hid (Below wr.heap.size wr (wr.alloc (.cells (rcArr c) 31))) := (Below.refl _ _).alloc (Nat.le_refl _) _
        clear hc htake rg gl cl cok CI
        go_upto_region 9 with (first
          | (refine wpList_load_c rfl (.tmp 35) rfl g (o + i * 102) rfl COK.out RC.out ?_)
          | (refine wpList_store_row rfl 31 (.tmp 8) (.tmp 36) rfl wr.heap.size (rcArr c) rfl rfl 31 _ F3.out RI.out RS.out (rcArr_one c) ?_; rw [E3.out]; simp only [Act.put]))
        obtain ⟨q, hq⟩ : ∃ q, wr.heap.size = q := ⟨_, rfl⟩
        have HQ := Lib.hid hq
        rw [hq] at F4
        rw [hq]
        generalize wr.alloc (.cells (rcArr c) 31) = W3 at *
        clear E3 F3 RI RS hq RC
        have R4 := RcAt.of_row F4.out
        have x0 := R4.kiosk
        have x1 := R4.serial
        rw [Nat.zero_add] at x1
        have y0 : W3.cell? ⟨bq, 0, none⟩ = some (.int .i64 k) := (cell_of_row _ _ 0 _ _ _ (heap_below (heap_below HRQ.out HB2x.out) BZ.out)).trans rfl
        have ci := COK.out.serial
        have HB3 := Lib.hid (HB.out.trans (BZ.out.mono HB.out.size))
        clear R4
        by_cases e1 : c.kiosk = k
        · have d1 : (c.kiosk != k) = false := by simp [e1]
          have d2 : (c.kiosk == k) = true := by simp [e1]
          have EK := Lib.hid e1
          clear e1
          by_cases e2 : c.serial < 1
          · have d3 : decide (c.serial < 1) = true := by simpa using e2
            have FIN : Hid (Taken p vp vo vk vc R (n + N) w (.returned (.int .i64 11)) W3) := by
              show Taken _ _ _ _ _ _ _ _ _ _
              rw [F11.out c HCM.out (.inr e2)]
              exact taken_same HM.out (by omega) HB3.out 11
            clear e2
            go_wp2_with fail
            go_ret
            exact FIN.out
          · have d3 : decide (c.serial < 1) = false := by simpa using e2
            have E2 : Hid (1 ≤ c.serial) := by show _ ≤ _; omega
            clear e2
            go_wp2_with fail
            refine ⟨⟨i + 1, hlt, rfl, fun r hr => ?_, HB2x.out.trans (BZ.out.mono HB2x.out.size)⟩, by simp [intOf]; omega⟩
            rw [HTK.out, List.mem_append] at hr
            rcases hr with hr | hr
            · exact HALL.out r hr
            · simp only [List.mem_cons, List.not_mem_nil, or_false] at hr
              subst hr
              exact ⟨EK.out, E2.out⟩
        · have d1 : (c.kiosk != k) = true := by simpa using e1
          have d2 : (c.kiosk == k) = false := by simpa using e1
          have FIN : Hid (Taken p vp vo vk vc R (n + N) w (.returned (.int .i64 11)) W3) := by
            show Taken _ _ _ _ _ _ _ _ _ _
            rw [F11.out c HCM.out (.inl e1)]
            exact taken_same HM.out (by omega) HB3.out 11
          clear e1
          go_wp2_with fail
          go_ret
          exact FIN.out
      · have ei : i = N := by omega
        have ALL1 : Hid (∀ r ∈ cs, r.kiosk = k ∧ 1 ≤ r.serial) := by
          have := HALL.out
          rwa [ei, ← HN.out, List.take_length] at this
        have di : decide ((i : Int) < (N : Int)) = false := by simp; omega
        have dj : decide (i < N) = false := by simp; omega
        clear ei hlt hi HALL
        have q2 : wr.cell? ⟨bq, 1, none⟩ = some (.slice ao N cap) := (cell_of_row _ _ 1 _ _ _ (heap_below HRQ.out HB2x.out)).trans rfl
        clear q1
        go_wp2_with fail
        go_loopw [10, 51] (fun _ v51 wx => ∃ i : Nat, i ≤ N ∧ v51 = .int .i64 i ∧ (∀ r ∈ cs.take i, rver y r = true) ∧ Below W2.heap.size W2 wx) (fun _ v51 _ => N - (intOf v51).toNat)
        case atStart => exact ⟨0, Nat.zero_le _, rfl, fun r hr => by simp at hr, HB2x.out⟩
        case round =>
          clear HB HB2x
          obtain ⟨i, hi, rfl, hall, hb⟩ := hrel
          have HALL := Lib.hid hall
          have HB2x := Lib.hid hb
          have HB := Lib.hid (HB2.out.trans (hb.mono HB2.out.size))
          clear hall hb
          by_cases hlt : i < N
          · have di : decide ((i : Int) < (N : Int)) = true := by simpa using hlt
            obtain ⟨c, hc⟩ : ∃ c, cs[i]? = some c := ⟨cs[i]'(by rw [HN.out]; exact hlt), List.getElem?_eq_getElem _⟩
            have htake : cs.take (i + 1) = cs.take i ++ [c] := by rw [List.take_add_one, hc]; rfl
            have HTK := Lib.hid htake
            have HCM := Lib.hid (List.mem_of_getElem? hc)
            obtain ⟨g, o, cap', e1, cl, gl, rg, cok⟩ := HA.out.at hc
            injection e1 with e1 e2 e3
            subst e1 e3
            clear e2
            have COK : Hid (RcOk c) := cok
            have RC : Hid (RcAt wr g (o + i * 102) c) := fun j v hv => (HB.out.cell (p := ⟨g, _, none⟩) gl).trans (rg j v hv)
            have E3 := Lib.hid (World.setRow_alloc_new wr (rcArr rc0) (rcArr c) 31)
            have F3 := Lib.hid (heap_alloc_new wr (.cells (rcArr rc0) 31))
            have F4 := Lib.hid (heap_alloc_new wr (.cells (rcArr c) 31))
            have RI := Lib.hid (rc_info COK.out)
            have RS := Lib.hid (show (rcArr rc0).size = (rcArr c).size by rw [rcArr_size rc0_ok, rcArr_size COK.out])
            have BZ : Hid (Below wr.heap.size wr (wr.alloc (.cells (rcArr c) 31))) := (Below.refl _ _).alloc (Nat.le_refl _) _
            clear hc htake rg gl cl cok
            go_upto_region 15 with (first
              | (refine wpList_load_c rfl (.tmp 53) rfl g (o + i * 102) rfl COK.out RC.out ?_)
              | (refine wpList_store_row rfl 31 (.tmp 10) (.tmp 54) rfl wr.heap.size (rcArr c) rfl rfl 31 _ F3.out RI.out RS.out (rcArr_one c) ?_; rw [E3.out]; simp only [Act.put]))
            obtain ⟨q, hq⟩ : ∃ q, wr.heap.size = q := ⟨_, rfl⟩
            have HQ := Lib.hid hq
            rw [hq] at F4
            rw [hq]
            generalize wr.alloc (.cells (rcArr c) 31) = W3 at *
            clear E3 F3 RI RS hq RC
            have R4 := Lib.hid (RcAt.of_row F4.out)
            have HB3 := Lib.hid (HB.out.trans (BZ.out.mono HB.out.size))
            obtain ⟨bb, hbb⟩ : ∃ bb, rver y c = bb := ⟨_, rfl⟩
            have HBB := Lib.hid hbb
            have CV := Lib.hid (everify_any y c COK.out HYI.out W3 (BKQ.out W3 HB3.out).1 (BKQ.out W3 HB3.out).2 1152921504606845789 2305843009213691579 rfl rfl bb hbb)
            clear hbb
            go_wp2_with (refine wpList_load_c rfl (.tmp 10) rfl q 0 rfl COK.out R4.out ?_)
            refine CV.out.mono ?_
            rintro e w5 ⟨rfl, hb5⟩
            have HB5 := Lib.hid (HB2x.out.trans ((BZ.out.trans (hb5.mono BZ.out.size)).mono HB2x.out.size))
            have HB6 := Lib.hid (HB3.out.trans (hb5.mono HB3.out.size))
            clear hb5
            cases bb
            · have FIN : Hid (Taken p vp vo vk vc R (n + N) w (.returned (.int .i64 21)) w5) := by
                show Taken _ _ _ _ _ _ _ _ _ _
                rw [TK.out, if_neg (by rw [Bool.not_eq_true, List.any_eq_false]; intro r hr; have := ALL1.out r hr; simp [this.1]; omega), if_pos (List.any_eq_true.2 ⟨c, HCM.out, by rw [HBB.out]; rfl⟩)]
                exact taken_same HM.out (by omega) HB6.out 21
              go_wp2_with fail
              go_ret
              exact FIN.out
            · go_wp2_with fail
              refine ⟨⟨i + 1, hlt, rfl, fun r hr => ?_, HB5.out⟩, by simp [intOf]; omega⟩
              rw [HTK.out, List.mem_append] at hr
              rcases hr with hr | hr
              · exact HALL.out r hr
              · simp only [List.mem_cons, List.not_mem_nil, or_false] at hr
                subst hr
                exact HBB.out
          · have ei : i = N := by omega
            have ALL2 : Hid (∀ r ∈ cs, rver y r = true) := by
              have := HALL.out
              rwa [ei, ← HN.out, List.take_length] at this
            have di : decide ((i : Int) < (N : Int)) = false := by simp; omega
            have dj : decide (i < N) = false := by simp; omega
            clear ei hlt hi HALL
            have q3 : wr.cell? ⟨bq, 1, none⟩ = some (.slice ao N cap) := (cell_of_row _ _ 1 _ _ _ (heap_below HRQ.out HB2x.out)).trans rfl
            clear q2
            go_wp2_with fail
            have FBQ : Hid (¬ FootM p vp vo vk vc bq) := fun h => by have := HM.out.lt bq h; have := BQN.out; omega
            have HT0 : Hid (Turned (FootM p vp vo vk vc) W2 wr) := Turned.of_below HB2x.out
            go_loopw [11, 13, 63] (fun v11 _ v63 wx => ∃ (i : Nat) (vk' vc' : Value), i ≤ N ∧ v63 = .int .i64 i ∧ v11 = .bool (st.keeps (cs.take i)).2 ∧ MrgAt wx p vp vo vk' vc' (st.keeps (cs.take i)).1 (n + i) ∧ Turned (FootM p vp vo vk vc) W2 wx ∧ (∀ k, mapBlk vk' = some k → mapBlk vk = some k ∨ W2.heap.size ≤ k) ∧ (∀ k, mapBlk vc' = some k → mapBlk vc = some k ∨ W2.heap.size ≤ k)) (fun _ _ v63 _ => N - (intOf v63).toNat)
            case atStart => exact ⟨0, vk, vc, Nat.zero_le _, rfl, rfl, HM.out.below HB.out, HT0.out, fun k h => .inl h, fun k h => .inl h⟩
            case round =>
              clear HB HB2x q3 HT0
              obtain ⟨i, vk', vc', hi, rfl, rfl, hm, ht, hvk, hvc⟩ := hrel
              have HMX := Lib.hid hm
              have HT := Lib.hid ht
              have HVK := Lib.hid hvk
              have HVC := Lib.hid hvc
              have HRW : Hid (wr.heap[bq]? = some (.cells #[.int .i64 k, .slice ao N cap] 46 (0, 0))) := (ht.block bq (Array.getElem?_eq_some_iff.1 HRQ.out).1 FBQ.out).trans HRQ.out
              clear hm ht hvk hvc
              by_cases hlt : i < N
              · have di : decide ((i : Int) < (N : Int)) = true := by simpa using hlt
                obtain ⟨C, hC⟩ : ∃ C, (st.keeps (cs.take i)).2 = C := ⟨_, rfl⟩
                rw [hC]
                have HCC := Lib.hid hC
                clear hC
                obtain ⟨c, hc⟩ : ∃ c, cs[i]? = some c := ⟨cs[i]'(by rw [HN.out]; exact hlt), List.getElem?_eq_getElem _⟩
                have htake : cs.take (i + 1) = cs.take i ++ [c] := by rw [List.take_add_one, hc]; rfl
                have HTK := Lib.hid htake
                have HCM := Lib.hid (List.mem_of_getElem? hc)
                obtain ⟨g, o, cap', e1, cl, gl, rg, cok⟩ := HA.out.at hc
                injection e1 with e1 e2 e3
                subst e1 e3
                clear e2
                have COK : Hid (RcOk c) := cok
                have RC : Hid (RcAt wr g (o + i * 102) c) := fun j v hv => (turned_cell HT.out (Nat.lt_of_lt_of_le gl HB2.out.size) (HD.out g rfl)).trans ((HB2.out.cell (p := ⟨g, _, none⟩) gl).trans (rg j v hv))
                have E3 := Lib.hid (World.setRow_alloc_new wr (rcArr rc0) (rcArr c) 31)
                have F3 := Lib.hid (heap_alloc_new wr (.cells (rcArr rc0) 31))
                have F4 := Lib.hid (heap_alloc_new wr (.cells (rcArr c) 31))
                have RI := Lib.hid (rc_info COK.out)
                have RS := Lib.hid (show (rcArr rc0).size = (rcArr c).size by rw [rcArr_size rc0_ok, rcArr_size COK.out])
                have BZ : Hid (Below wr.heap.size wr (wr.alloc (.cells (rcArr c) 31))) := (Below.refl _ _).alloc (Nat.le_refl _) _
                clear hc htake rg gl cl cok
                go_upto_region 22 with (first
                  | (refine wpList_load_c rfl (.tmp 65) rfl g (o + i * 102) rfl COK.out RC.out ?_)
                  | (refine wpList_store_row rfl 31 (.tmp 13) (.tmp 66) rfl wr.heap.size (rcArr c) rfl rfl 31 _ F3.out RI.out RS.out (rcArr_one c) ?_; rw [E3.out]; simp only [Act.put]))
                obtain ⟨q, hq⟩ : ∃ q, wr.heap.size = q := ⟨_, rfl⟩
                have HQ := Lib.hid hq
                rw [hq] at F4
                rw [hq]
                generalize wr.alloc (.cells (rcArr c) 31) = W3 at *
                clear E3 F3 RI RS hq RC
                have R4 := Lib.hid (RcAt.of_row F4.out)
                have M3 := HMX.out.below BZ.out
                have T3 : Turned (FootM p vp vo vk vc) W2 W3 := HT.out.trans (Turned.of_below (F := fun _ => False) BZ.out) (fun k f => f.elim)
                have HT3 := Lib.hid T3
                have CV := Lib.hid (keep_any M3 c COK.out (ALL1.out c HCM.out).2 (by omega) (fun W hW => HE.out W ((Turned.of_below HB2.out).trans (T3.trans hW (foot_later HVK.out HVC.out)) (fun k f => .inl f))))
                clear M3 T3
                go_wp2_with (refine wpList_load_c rfl (.tmp 13) rfl q 0 rfl COK.out R4.out ?_)
                refine CV.out.mono ?_
                rintro e w5 ⟨rfl, vk5, vc5, m5, t5, a5, b5⟩
                have KS := Lib.hid (keeps_snoc (cs.take i) st c)
                have S3 := Lib.hid HT3.out.size
                have FIN : Hid (∀ D, D = (st.keeps (cs.take (i + 1))).2 → ∃ (i' : Nat) (vk' vc' : Value), i' ≤ N ∧ Value.int .i64 ((i : Int) + 1) = .int .i64 i' ∧ Value.bool D = .bool (st.keeps (cs.take i')).2 ∧ MrgAt w5 p vp vo vk' vc' (st.keeps (cs.take i')).1 (n + i') ∧ Turned (FootM p vp vo vk vc) W2 w5 ∧ (∀ k, mapBlk vk' = some k → mapBlk vk = some k ∨ W2.heap.size ≤ k) ∧ (∀ k, mapBlk vc' = some k → mapBlk vc = some k ∨ W2.heap.size ≤ k)) := by
                  intro D hD
                  refine ⟨i + 1, vk5, vc5, hlt, rfl, by rw [hD], ?_, HT3.out.trans t5 (foot_later HVK.out HVC.out), fun k hk => ?_, fun k hk => ?_⟩
                  · rw [HTK.out, KS.out]; exact m5
                  · rcases a5 k hk with h | h
                    · exact HVK.out k h
                    · exact .inr (Nat.le_trans S3.out h)
                  · rcases b5 k hk with h | h
                    · exact HVC.out k h
                    · exact .inr (Nat.le_trans S3.out h)
                obtain ⟨bb, hbb⟩ : ∃ bb, ((st.keeps (cs.take i)).1.keep c).2 = bb := ⟨_, rfl⟩
                rw [hbb]
                have ED : Hid ((st.keeps (cs.take (i + 1))).2 = (C || !bb)) := by
                  show _ = _
                  rw [HTK.out, KS.out, HCC.out, hbb]
                clear m5 t5 a5 b5 hbb
                cases bb
                · go_wp2_with fail
                  exact ⟨FIN.out true (by rw [ED.out]; simp), by simp [intOf]; omega⟩
                · go_wp2_with fail
                  exact ⟨FIN.out C (by rw [ED.out]; simp), by simp [intOf]; omega⟩
              · have ei : i = N := by omega
                have di : decide ((i : Int) < (N : Int)) = false := by simp; omega
                have dj : decide (i < N) = false := by simp; omega
                have ET : Hid (cs.take i = cs) := by show _ = _; rw [ei, ← HN.out, List.take_length]
                have EN : Hid (i = N) := ei
                clear ei hlt hi
                obtain ⟨C, hC⟩ : ∃ C, (st.keeps (cs.take i)).2 = C := ⟨_, rfl⟩
                rw [hC]
                have HCC := Lib.hid hC
                clear hC
                have HM6 : Hid (MrgAt wr p vp vo vk' vc' (st.keeps cs).1 (n + N)) := by
                  have := HMX.out
                  rwa [ET.out, EN.out] at this
                have NA1 : Hid (cs.any (fun r => decide (r.kiosk ≠ k) || decide (r.serial < 1)) = false) := by
                  show _ = _
                  rw [List.any_eq_false]; intro r hr; have := ALL1.out r hr; simp [this.1]; omega
                have NA2 : Hid (cs.any (fun r => !rver y r) = false) := by
                  show _ = _
                  rw [List.any_eq_false]; intro r hr; have := ALL2.out r hr; simp [this]
                have EC : Hid ((st.keeps cs).2 = C) := by have := HCC.out; rwa [ET.out] at this
                have k6 : wr.cell? ⟨bq, 0, none⟩ = some (.int .i64 k) := (cell_of_row _ _ 0 _ _ _ HRW.out).trans rfl
                have TW : Hid (Turned (FootM p vp vo vk vc) w wr) := (Turned.of_below HB2.out).trans HT.out (fun k f => .inl f)
                have VK6 : Hid (∀ k, mapBlk vk' = some k → mapBlk vk = some k ∨ w.heap.size ≤ k) := fun k hk => (HVK.out k hk).imp id (Nat.le_trans HB2.out.size)
                have VC6 : Hid (∀ k, mapBlk vc' = some k → mapBlk vc = some k ∨ w.heap.size ≤ k) := fun k hk => (HVC.out k hk).imp id (Nat.le_trans HB2.out.size)
                cases C
                · have CJ := Lib.hid (judge_any HM6.out k HK.out hn)
                  go_wp2_with fail
                  refine CJ.out.mono ?_
                  rintro e w6 ⟨v76, rfl, j1, j2, j3⟩
                  obtain ⟨J, hJ⟩ : ∃ J, (st.keeps cs).1.judged rch k = J := ⟨_, rfl⟩
                  rw [hJ] at j1
                  have HJ := Lib.hid hJ
                  have LJ := Lib.hid j1.lies
                  obtain ⟨NJ, hNJ⟩ : ∃ NJ, J.length = NJ := ⟨_, rfl⟩
                  have HNJ := Lib.hid hNJ
                  obtain ⟨ao6, cap6, hv⟩ : ∃ ao6 cap6, v76 = .slice ao6 NJ cap6 := by
                    obtain ⟨ao6, cap6, h | h⟩ := LJ.out.slice hNJ
                    · exact ⟨ao6, cap6, h.1⟩
                    · exact ⟨ao6, cap6, h.1⟩
                  subst hv
                  have NJ4 : NJ ≤ 10000 := by rw [← hNJ, ← hJ]; exact j3
                  have TE : Hid (∀ W, Below wr.heap.size wr W → ∀ e, R = ((st.keeps cs).1, e) → Taken p vp vo vk vc R (n + N) w (.returned (.int .i64 e)) W) := by
                    intro W hb e he
                    rw [he]
                    exact ⟨rfl, vk', vc', HM6.out.below hb, TW.out.trans (Turned.of_below (F := fun _ => False) hb) (fun k f => f.elim), VK6.out, VC6.out⟩
                  have RE : Hid (R = if J.any (fun j => !j.sound) then ((st.keeps cs).1, 36) else ((st.keeps cs).1, 0)) := by
                    show _ = _
                    rw [TK.out, NA1.out, NA2.out, EC.out, hJ]
                    rfl
                  have J2 := Lib.hid j2
                  clear j1 j2 hJ hNJ HM6 k6
                  go_wp2_with fail
                  go_loopw [15, 78] (fun _ v78 wx => ∃ i : Nat, i ≤ NJ ∧ v78 = .int .i64 i ∧ (∀ r ∈ J.take i, r.sound = true) ∧ Below w6.heap.size w6 wx) (fun _ v78 _ => NJ - (intOf v78).toNat)
                  case atStart => exact ⟨0, Nat.zero_le _, rfl, fun r hr => by simp at hr, Below.refl _ _⟩
                  case round =>
                    obtain ⟨i, hi, rfl, hall, hb⟩ := hrel
                    have HALL := Lib.hid hall
                    have HB6 := Lib.hid hb
                    have HBX := Lib.hid (J2.out.trans (hb.mono J2.out.size))
                    clear hall hb
                    by_cases hlt : i < NJ
                    · have di : decide ((i : Int) < (NJ : Int)) = true := by simpa using hlt
                      obtain ⟨j, hj⟩ : ∃ j, J[i]? = some j := ⟨J[i]'(by rw [HNJ.out]; exact hlt), List.getElem?_eq_getElem _⟩
                      have htake : J.take (i + 1) = J.take i ++ [j] := by rw [List.take_add_one, hj]; rfl
                      have HTK := Lib.hid htake
                      have HCM := Lib.hid (List.mem_of_getElem? hj)
                      obtain ⟨g, o, cap', e1, cl, gl, rg, cok⟩ := LJ.out.at hj
                      injection e1 with e1 e2 e3
                      subst e1 e3
                      clear e2
                      have COK : Hid (JdOk j) := cok
                      have RC : Hid (wr.rangeAt g (o + i * 137) (jdList j)) := fun u v hv => (HB6.out.cell (p := ⟨g, _, none⟩) gl).trans (rg u v hv)
                      have E3 := Lib.hid (World.setRow_alloc_new wr (jdArr jd0) (jdArr j) 107)
                      have F3 := Lib.hid (heap_alloc_new wr (.cells (jdArr jd0) 107))
                      have F4 := Lib.hid (jd_range (heap_alloc_new wr (.cells (jdArr j) 107)))
                      have RI := Lib.hid (jd_info COK.out)
                      have RS := Lib.hid (show (jdArr jd0).size = (jdArr j).size by rw [jdArr_size jd0_ok, jdArr_size COK.out])
                      have BZ : Hid (Below wr.heap.size wr (wr.alloc (.cells (jdArr j) 107))) := (Below.refl _ _).alloc (Nat.le_refl _) _
                      clear hj htake rg gl cl cok
                      go_upto_region 30 with (first
                        | (refine wpList_load_j rfl (.tmp 80) rfl g (o + i * 137) rfl COK.out RC.out ?_)
                        | (refine wpList_store_row rfl 107 (.tmp 15) (.tmp 81) rfl wr.heap.size (jdArr j) rfl rfl 107 _ F3.out RI.out RS.out (jdArr_one j) ?_; rw [E3.out]; simp only [Act.put]))
                      obtain ⟨q, hq⟩ : ∃ q, wr.heap.size = q := ⟨_, rfl⟩
                      rw [hq] at F4
                      rw [hq]
                      generalize wr.alloc (.cells (jdArr j) 107) = W3 at *
                      have y0 := F4.out 134 _ (jd_get COK.out).1
                      rw [Nat.zero_add] at y0
                      have HB7 := Lib.hid (HBX.out.trans (BZ.out.mono HBX.out.size))
                      clear E3 F3 RI RS hq RC F4
                      obtain ⟨bb, hbb⟩ : ∃ bb, j.sound = bb := ⟨_, rfl⟩
                      rw [hbb] at y0
                      have HBB := Lib.hid hbb
                      clear hbb
                      cases bb
                      · have FIN := Lib.hid (TE.out W3 HB7.out 36 (by rw [RE.out, if_pos (List.any_eq_true.2 ⟨j, HCM.out, by rw [HBB.out]; rfl⟩)]))
                        go_wp2_with fail
                        go_ret
                        exact FIN.out
                      · go_wp2_with fail
                        refine ⟨⟨i + 1, hlt, rfl, fun r hr => ?_, HB6.out.trans (BZ.out.mono HB6.out.size)⟩, by simp [intOf]; omega⟩
                        rw [HTK.out, List.mem_append] at hr
                        rcases hr with hr | hr
                        · exact HALL.out r hr
                        · simp only [List.mem_cons, List.not_mem_nil, or_false] at hr
                          subst hr
                          exact HBB.out
                    · have ei : i = NJ := by omega
                      have ALL : ∀ r ∈ J, r.sound = true := by
                        have := HALL.out
                        rwa [ei, ← HNJ.out, List.take_length] at this
                      have di : decide ((i : Int) < (NJ : Int)) = false := by simp; omega
                      have dj : decide (i < NJ) = false := by simp; omega
                      have FIN := Lib.hid (TE.out wr HBX.out 0 (by rw [RE.out, if_neg (by rw [Bool.not_eq_true, List.any_eq_false]; intro r hr; simp [ALL r hr])]))
                      clear ei hlt hi ALL
                      go_wp2_with fail
                      go_ret
                      exact FIN.out
                · have FIN : Hid (Taken p vp vo vk vc R (n + N) w (.returned (.int .i64 51)) wr) := by
                    show Taken _ _ _ _ _ _ _ _ _ _
                    rw [TK.out, NA1.out, NA2.out, EC.out]
                    exact ⟨rfl, vk', vc', HM6.out, TW.out, VK6.out, VC6.out⟩
                  go_wp2_with fail
                  go_ret
                  exact FIN.out
end Go.Proofs.YtpblfpnldbdncaaGreatDoor
namespace Go.Proofs.YtpblfpnldbdncaaGreatDoor
open Sg (Rc)
open Mg (H Sale Pos zeroH)
set_option linter.unusedVariables false
/-- signed with a secret -/
def sgn (x : Nat) (c : Rc) : Rc := c.signed sc 1152921504606845789 2305843009213691579 x
def outText (s : Int) : List UInt8 := [111, 117, 116, 112, 117, 116, 32] ++ Lib.itoa s
def outHash (s : Int) : H := Sha.sum (outText s)
def sealText (n : Nat) : List UInt8 := [115, 101, 97, 108, 32] ++ Lib.itoa (n : Int)
def sealHash (n : Nat) : H := Sha.sum (sealText n)
def drawName (n : Nat) : List UInt8 := if n % 3 = 0 then [77, 97, 121] else if n % 3 = 1 then [74, 117, 110, 101] else [97, 32, 98]
def X0 : Mg.Out where
  hs := Sha.sum
  outH := outHash
  sealH := sealHash
  name := drawName
  sign n c := sgn (5000 + 3 * n) c
  sign_eq _ _ := ⟨rfl, rfl, rfl, rfl, rfl, rfl, rfl⟩
theorem rh_X0 : Mg.rh X0 = rch := rfl
def flip (h : H) (i : Nat) : H := h.set i (h.getD i 0 ^^^ 1)
def gbase (x : Sale) (p : Pos) : Rc :=
  ⟨((x.kiosk % 4 : Nat) : Int), p.serial + 1, drawName x.draw, p.seen + ((x.seen % 3 : Nat) : Int), Mg.outOf X0 (p.seen + ((x.seen % 3 : Nat) : Int)), sealHash x.stamp, p.prev, 0, 0⟩
def gbent (w : Nat) (r : Rc) : Rc :=
  if w = 1 then { r with seen := max 0 (r.seen - 2), output := Mg.outOf X0 (max 0 (r.seen - 2)) } else
  if w = 2 then { r with output := flip r.output 3 } else
  if w = 3 then { r with prev := flip r.prev 4 } else
  if w = 6 then { r with serial := r.serial + 1 } else
  if w = 7 then { r with seen := 0, output := flip r.output 5 } else r
def gsec (w n : Nat) : Nat := if w = 5 then 5000 + 3 * n + 1 else 5000 + 3 * n
def gfin (x : Sale) (p : Pos) : Rc := sgn (gsec (x.wrong % 24) (x.kiosk % 4)) (gbent (x.wrong % 24) (gbase x p))
def gextra (x : Sale) (p : Pos) : List Rc := if x.wrong % 24 = 4 then [sgn (5000 + 3 * (x.kiosk % 4)) { gbase x p with hash := flip (gbase x p).hash 0 }] else []
def gnext (x : Sale) (p : Pos) : Pos := ⟨p.serial + 1, rch (gfin x p), p.seen + ((x.seen % 3 : Nat) : Int)⟩
def gsales : (Nat → Pos) → List Sale → List Rc
  | _, [] => []
  | st, x :: l => gextra x (st (x.kiosk % 4)) ++ gfin x (st (x.kiosk % 4)) :: gsales (Mg.put st (x.kiosk % 4) (gnext x (st (x.kiosk % 4)))) l
def gst : (Nat → Pos) → List Sale → Nat → Pos
  | st, [] => st
  | st, x :: l => gst (Mg.put st (x.kiosk % 4) (gnext x (st (x.kiosk % 4)))) l
def pos0 : Nat → Pos := fun _ => ⟨0, zeroH, 0⟩
def gall (l : List Sale) : List Rc := gsales pos0 (l.take 24)
theorem gst_snoc (x : Sale) (l : List Sale) : ∀ st, gst st (l ++ [x]) = Mg.put (gst st l) (x.kiosk % 4) (gnext x (gst st l (x.kiosk % 4))) := by
  induction l with
  | nil => intro st; rfl
  | cons y l ih => intro st; exact ih _
theorem gsales_snoc (x : Sale) (l : List Sale) : ∀ st, gsales st (l ++ [x]) = gsales st l ++ (gextra x (gst st l (x.kiosk % 4)) ++ [gfin x (gst st l (x.kiosk % 4))]) := by
  induction l with
  | nil => intro st; simp [gsales, gst]
  | cons y l ih => intro st; simp only [List.cons_append, gsales, gst, ih, List.append_assoc]
/-- nothing wrong -/
theorem gsales_honest (l : List Sale) : ∀ st, (∀ x ∈ l, x.wrong % 24 = 0) → gsales st l = Mg.sales X0 st l := by
  induction l with
  | nil => intro st _; rfl
  | cons x l ih =>
    intro st h
    have hx := h x (by simp)
    have e1 : gextra x (st (x.kiosk % 4)) = [] := by unfold gextra; rw [if_neg (by omega)]
    have e2 : gfin x (st (x.kiosk % 4)) = Mg.mk X0 x (st (x.kiosk % 4)) := by
      unfold gfin
      rw [hx]
      rfl
    have e3 : gnext x (st (x.kiosk % 4)) = ⟨(Mg.mk X0 x (st (x.kiosk % 4))).serial, Mg.rh X0 (Mg.mk X0 x (st (x.kiosk % 4))), (Mg.mk X0 x (st (x.kiosk % 4))).seen⟩ := by
      unfold gnext
      rw [e2]
      rfl
    rw [gsales, e1, e2, e3, ih _ fun y hy => h y (by simp [hy])]
    rfl
/-- no clones, no strange secrets -/
theorem gsales_gen (l : List Sale) : ∀ st, (∀ x ∈ l, x.wrong % 24 ≠ 4) → gsales st l = Mg.gen gfin gnext st l := by
  induction l with
  | nil => intro st _; rfl
  | cons x l ih =>
    intro st h
    have hx := h x (by simp)
    have e1 : gextra x (st (x.kiosk % 4)) = [] := by unfold gextra; rw [if_neg hx]
    rw [gsales, e1, ih _ fun y hy => h y (by simp [hy])]
    rfl
theorem gbent_kiosk (w : Nat) (r : Rc) : (gbent w r).kiosk = r.kiosk := by
  unfold gbent
  repeat' split
  all_goals rfl
theorem gbent_serial (w : Nat) (r : Rc) : (gbent w r).serial = if w = 6 then r.serial + 1 else r.serial := by
  unfold gbent
  repeat' split
  all_goals first | rfl | omega
theorem gfin_kiosk (x : Sale) (p : Pos) : (gfin x p).kiosk = ((x.kiosk % 4 : Nat) : Int) := gbent_kiosk _ _
theorem gfin_serial (x : Sale) (p : Pos) (h : x.wrong % 24 ≠ 6) : (gfin x p).serial = p.serial + 1 := by
  have := gbent_serial (x.wrong % 24) (gbase x p)
  rw [if_neg h] at this
  exact this
/-- what a kiosk signs, its public number verifies -/
theorem rver_sgn (x : Nat) (c : Rc) : rver ((4 ^ x % 2305843009213691579 : Nat) : Int) (sgn x c) = true := Rc.verified sc 1152921504606845789 2305843009213691579 x c rfl rfl
end Go.Proofs.YtpblfpnldbdncaaGreatDoor
namespace Go.Proofs.YtpblfpnldbdncaaGreatDoor
open Go.RowKit Go.Sort Go.Maps
open Sg (Rc)
open Mg (Mst)
set_option linter.unusedVariables false
set_option maxRecDepth 100000
/-- a member: Id, Weight, Public -/
structure Mb where
  id : Int
  wt : Int
  pb : Int
structure MbOk (m : Mb) : Prop where
  id : I64 m.id
  wt : I64 m.wt
  pb : I64 m.pb
def mbList (m : Mb) : List Value := [.int .i64 m.id, .int .i64 m.wt, .int .i64 m.pb]
def memK : Rk Tryz.prog Mb where
  ty := 85
  sl := 36
  size := 3
  bytes := 24
  zero := .agg #[.int .i64 0, .int .i64 0, .int .i64 0]
  enc := mbList
  ok := MbOk
  len _ := rfl
  one u hu := by
    simp only [mbList, List.mem_cons, List.not_mem_nil, or_false] at hu
    rcases hu with rfl | rfl | rfl <;> rfl
  und := Tryz.underlying36
  info := by kernel_rfl
  zsize := rfl
  pos := by omega
  small := by decide
/-- the first of an Id counts -/
def pubOf (l : List Mb) (k : Int) : Option Int := (l.find? (fun m => decide (m.id = k))).map (·.pb)
def newSt (l : List Mb) : Mst := ⟨pubOf l, fun _ => none, fun _ _ => none, fun _ => none⟩
theorem pubOf_snoc (l : List Mb) (m : Mb) (k : Int) : pubOf (l ++ [m]) k = (pubOf l k).or (if m.id = k then some m.pb else none) := by
  unfold pubOf
  rw [List.find?_append]
  cases l.find? (fun m => decide (m.id = k)) with
  | some x => simp
  | none =>
    by_cases e : m.id = k
    · simp [e]
    · simp [e]
theorem pubOf_ok {l : List Mb} (h : ∀ m ∈ l, MbOk m) (k v : Int) (hv : pubOf l k = some v) : I64 k ∧ I64 v := by
  unfold pubOf at hv
  obtain ⟨m, h1, rfl⟩ := Option.map_eq_some_iff.1 hv
  have h2 := List.find?_some h1
  have h3 := h m (List.mem_of_find?_eq_some h1)
  have e : m.id = k := by simpa using h2
  rw [← e]
  exact ⟨h3.id, h3.pb⟩
/-- the walk's state: a merge that has public numbers alone -/
structure NewAt (w wx : World) (p b m : Nat) (l : List Mb) : Prop where
  cells : wx.heap[p]? = some (.cells #[.map (some b), .map none, .map none, .map none] 82 (0, 0))
  map : MapB kInt wx b m (fun k => (pubOf l k).map (Value.int .i64))
  below : Below w.heap.size w wx
  pn : w.heap.size ≤ p
  bn : w.heap.size ≤ b
  ne : p ≠ b
set_option maxHeartbeats 4000000 in
theorem new_any {w : World} {v : Value} {ms : List Mb} (hA : LiesR memK w v ms) (hn : ms.length ≤ 1000) :
    Calls Tryz.prog 14 #[v] w fun e w' => ∃ p b, e = .returned (.pointer (some ⟨p, 0, none⟩)) ∧ MrgAt w' p (.map (some b)) (.map none) (.map none) (.map none) (newSt ms) ms.length ∧ Below w.heap.size w w' ∧ w.heap.size ≤ p ∧ w.heap.size ≤ b := by
  obtain ⟨N, hN⟩ : ∃ N, ms.length = N := ⟨_, rfl⟩
  obtain ⟨ao, cap, hv⟩ : ∃ ao cap, v = .slice ao N cap := by
    obtain ⟨ao, cap, h | h⟩ := hA.slice hN
    · exact ⟨ao, cap, h.1⟩
    · exact ⟨ao, cap, h.1⟩
  subst hv
  have HN := Lib.hid hN
  have HA := Lib.hid hA
  have N3 : N ≤ 1000 := by omega
  have hmm := @run_makeMap Tryz.prog
  have A0 : NewAt w ((w.alloc (.map #[] 0)).alloc (.cells #[.map (some w.heap.size), .map none, .map none, .map none] 82)) (w.heap.size + 1) w.heap.size 0 [] :=
    ⟨heap_alloc2_new w _ _, (MapB.made kInt w).below ((Below.refl _ _).alloc (Nat.le_refl _) _), ((Below.refl _ _).alloc (Nat.le_refl _) _).alloc (by simp) _, by omega, Nat.le_refl _, by omega⟩
  have HA0 := Lib.hid A0
  clear hN hA hn A0
  go_enter Tryz.func14, Tryz.ntmps14
  go_wp2_with fail
  obtain ⟨p, hp⟩ : ∃ p, w.heap.size + 1 = p := ⟨_, rfl⟩
  obtain ⟨b, hb⟩ : ∃ b, w.heap.size = b := ⟨_, rfl⟩
  rw [hp] at HA0 ⊢
  generalize (w.alloc (.map #[] 0)).alloc (.cells #[.map (some w.heap.size), .map none, .map none, .map none] 82) = W1 at *
  have HA1 : Hid (NewAt w W1 p b 0 []) := by rw [← hb]; exact HA0
  have BW : Hid (w.heap.size ≤ b) := by rw [hb]; exact Nat.le_refl _
  have PW : Hid (w.heap.size ≤ p) := by rw [← hp]; exact Nat.le_succ _
  have NPB : Hid (p ≠ b) := HA1.out.ne
  rw [hb]
  clear HA0 hp hb
  go_loopw [5, 6, 7, 13] (fun _ _ _ v13 wx => ∃ i m : Nat, i ≤ N ∧ v13 = .int .i64 i ∧ m ≤ i ∧ NewAt w wx p b m (ms.take i)) (fun _ _ _ v13 _ => N - (intOf v13).toNat)
  case atStart => exact ⟨0, 0, Nat.zero_le _, rfl, Nat.le_refl _, HA1.out⟩
  case round =>
    obtain ⟨i, m, hi, rfl, hm, hn⟩ := hrel
    have HNA := Lib.hid hn
    by_cases hlt : i < N
    · have di : decide ((i : Int) < (N : Int)) = true := by simpa using hlt
      obtain ⟨x, hx⟩ : ∃ x, ms[i]? = some x := ⟨ms[i]'(by rw [HN.out]; exact hlt), List.getElem?_eq_getElem _⟩
      have htake : ms.take (i + 1) = ms.take i ++ [x] := by rw [List.take_add_one, hx]; rfl
      have HTK := Lib.hid htake
      obtain ⟨g, o, cap', e1, cl, gl, rg, xok⟩ := HA.out.at hx
      injection e1 with e1 e2 e3
      subst e1 e3
      clear e2
      have XOK : Hid (MbOk x) := xok
      have rg' : Hid (wr.rangeAt g (o + i * 3) (mbList x)) := fun k v hv => (hn.below.cell (p := ⟨g, _, none⟩) gl).trans (rg k v hv)
      have x0 : wr.cell? ⟨g, o + i * 3, none⟩ = some (.int .i64 x.id) := rg'.out 0 _ rfl
      have x1 : wr.cell? ⟨g, o + i * 3 + 1, none⟩ = some (.int .i64 x.wt) := rg'.out 1 _ rfl
      have x2 : wr.cell? ⟨g, o + i * 3 + 2, none⟩ = some (.int .i64 x.pb) := rg'.out 2 _ rfl
      clear hn htake hx gl rg xok HA1
      go_upto_region 5 with fail
      have bw : Below wr.heap.size wr (wr.alloc (.cells #[.int .i64 x.id, .int .i64 x.wt, .int .i64 x.pb] 85)) := (Below.refl _ _).alloc (Nat.le_refl _) _
      have XR := heap_alloc_new wr (.cells #[.int .i64 x.id, .int .i64 x.wt, .int .i64 x.pb] 85)
      obtain ⟨q, hq⟩ : ∃ q, wr.heap.size = q := ⟨_, rfl⟩
      have NA2 : NewAt w (wr.alloc (.cells #[.int .i64 x.id, .int .i64 x.wt, .int .i64 x.pb] 85)) p b m (ms.take i) := ⟨heap_below HNA.out.cells bw, HNA.out.map.below bw, HNA.out.below.trans (bw.mono HNA.out.below.size), HNA.out.pn, HNA.out.bn, HNA.out.ne⟩
      have pq : Hid (p < q) := by rw [← hq]; exact (Array.getElem?_eq_some_iff.1 HNA.out.cells).1
      rw [hq] at XR
      rw [hq]
      generalize wr.alloc (.cells #[.int .i64 x.id, .int .i64 x.wt, .int .i64 x.pb] 85) = W2 at *
      have HN2 := Lib.hid NA2
      have c0 := (cell_of_row _ _ 0 _ _ _ NA2.cells).trans rfl
      have y0 := (cell_of_row _ _ 0 _ _ _ XR).trans rfl
      have y2 := (cell_of_row _ _ 2 _ _ _ XR).trans rfl
      have XR' := Lib.hid XR
      have lk : (Instr.lookup 77 (.map (some b)) (.int .i64 x.id) true).run Tryz.prog W2.drew = .ok (.tuple #[.int .i64 ((pubOf (ms.take i) x.id).getD 0), .bool (pubOf (ms.take i) x.id).isSome]) W2.drew := by
        have := (HN2.out.map.below (Below.refl W2.heap.size W2).drew).look_ok (e := 3) (z := .int .i64 0) Tryz.underlying77 (by simp [zeroValue, typeInfo, go_sem]; rfl) (x := x.id) XOK.out.id
        have e1 : (((pubOf (ms.take i) x.id).map (Value.int .i64)).getD (.int .i64 0)) = .int .i64 ((pubOf (ms.take i) x.id).getD 0) := by cases pubOf (ms.take i) x.id <;> rfl
        rw [e1, Option.isSome_map] at this
        exact this
      obtain ⟨old, hold⟩ : ∃ old, (pubOf (ms.take i) x.id).getD 0 = old := ⟨_, rfl⟩
      obtain ⟨is, his⟩ : ∃ is, (pubOf (ms.take i) x.id).isSome = is := ⟨_, rfl⟩
      rw [hold, his] at lk
      have HIS := Lib.hid his
      clear hold his NA2 XR bw x0 x1 x2
      go_region
      have xi := XOK.out.id
      cases is
      · go_upto_region 7 with fail
        have bd : Below W2.heap.size W2 W2.drew := (Below.refl _ _).drew
        have HN3 : Hid (NewAt w W2.drew p b m (ms.take i)) := ⟨heap_below HN2.out.cells bd, HN2.out.map.below bd, HN2.out.below.trans (bd.mono HN2.out.below.size), HN2.out.pn, HN2.out.bn, HN2.out.ne⟩
        have XR3 := Lib.hid (heap_below XR'.out bd)
        clear bd lk c0 y0 y2
        generalize W2.drew = W3 at *
        have CF : ∀ d os, (grow (redrawn W3 d) os).cell? ⟨p, 0, none⟩ = some (.map (some b)) := cell_regrown ((cell_of_row _ _ 0 _ _ _ HN3.out.cells).trans rfl)
        have Y0 : ∀ d os, (grow (redrawn W3 d) os).cell? ⟨q, 0, none⟩ = some (.int .i64 x.id) := cell_regrown ((cell_of_row _ _ 0 _ _ _ XR3.out).trans rfl)
        have Y2 : ∀ d os, (grow (redrawn W3 d) os).cell? ⟨q, 2, none⟩ = some (.int .i64 x.pb) := cell_regrown ((cell_of_row _ _ 2 _ _ _ XR3.out).trans rfl)
        refine wp_region_tail_below 8 (by kernel_rfl) (by kernel_rfl) ?_
        simp only [List.take_succ_cons, List.take_zero, List.drop_succ_cons, List.drop_zero]
        repeat (go_big_quiet_step (fail))
        refine wpQuiet_nil ?_
        intro _ hw'
        obtain ⟨⟨dq, osq⟩, hw''⟩ := hw'
        subst hw''
        have hq := below_regrown W3 dq osq
        have HN5 : Hid (NewAt w (grow (redrawn W3 dq) osq) p b m (ms.take i)) := ⟨heap_below HN3.out.cells hq, HN3.out.map.below hq, HN3.out.below.trans (hq.mono HN3.out.below.size), HN3.out.pn, HN3.out.bn, HN3.out.ne⟩
        have MB := Lib.hid HN5.out.map
        clear hq CF Y0 Y2
        generalize grow (redrawn W3 dq) osq = W5 at *
        go_wp2_with (refine wpList_putV (y := x.id) rfl rfl (.tmp 32) (.tmp 34) (.tmp 36) rfl Tryz.underlying77 rfl MB.out rfl XOK.out.id (by unfold maxLen; omega) (.int .i64 x.pb) rfl ?_; intro w6 mb6 g6)
        refine ⟨⟨i + 1, m + 1, hlt, rfl, Nat.succ_le_succ hm, (g6.block p (Array.getElem?_eq_some_iff.1 HN5.out.cells).1 (by intro e; injection e with e; exact NPB.out e)).trans HN5.out.cells, ?_, HN5.out.below.grown g6 HN5.out.below.size (fun k e => by injection e with e; rw [← e]; exact BW.out), PW.out, BW.out, NPB.out⟩, by simp [intOf]; omega⟩
        have e := upd_opt (pubOf (ms.take i)) (Value.int .i64) x.id x.pb
        rw [e] at mb6
        refine mb6.congr fun k hk => ?_
        rw [HTK.out, pubOf_snoc]
        have h0 := HIS.out
        by_cases ek : k = x.id
        · subst ek
          rw [if_pos rfl, if_pos rfl]
          cases hp : pubOf (ms.take i) x.id with
          | none => rfl
          | some z => rw [hp] at h0; cases h0
        · rw [if_neg ek, if_neg (fun h => ek h.symm)]
          cases pubOf (ms.take i) k <;> rfl
      · have bd : Below W2.heap.size W2 W2.drew := (Below.refl _ _).drew
        have HN3 : Hid (NewAt w W2.drew p b m (ms.take i)) := ⟨heap_below HN2.out.cells bd, HN2.out.map.below bd, HN2.out.below.trans (bd.mono HN2.out.below.size), HN2.out.pn, HN2.out.bn, HN2.out.ne⟩
        clear bd lk c0 y0 y2
        generalize W2.drew = W3 at *
        go_wp2_with fail
        refine ⟨⟨i + 1, m, hlt, rfl, by omega, HN3.out.cells, HN3.out.map.congr fun k hk => ?_, HN3.out.below, PW.out, BW.out, NPB.out⟩, by simp [intOf]; omega⟩
        rw [HTK.out, pubOf_snoc]
        have h0 := HIS.out
        cases hp : pubOf (ms.take i) k with
        | some z => rfl
        | none =>
          by_cases ek : x.id = k
          · subst ek
            rw [hp] at h0; cases h0
          · rw [if_neg ek]; rfl
    · have ei : i = N := by omega
      have ET := Lib.hid (show ms.take i = ms by rw [ei, ← HN.out]; exact List.take_length)
      have di : decide ((i : Int) < (N : Int)) = false := by simp; omega
      clear hn ei
      go_wp2_with fail
      go_ret
      refine ⟨p, b, rfl, ⟨HNA.out.cells, MapIs.some ?_, MapIs.none, ?_, MapIs.none, ?_, ?_, ?_, ?_, ?_, ?_, ?_⟩, HNA.out.below, PW.out, BW.out⟩
      · rw [HN.out, ← ET.out]
        exact HNA.out.map.mono (by omega)
      · exact .inl ⟨rfl, fun _ _ => rfl⟩
      all_goals first | (intro k h1 h2; cases h2) | (intro k h1 h2; cases h1) | skip
      exact ⟨fun k v hv => pubOf_ok HA.out.1 k v hv, fun k h e => by (cases e), fun k s c e => by (cases e), fun k s c e => by (cases e), fun k x e => by (cases e)⟩
end Go.Proofs.YtpblfpnldbdncaaGreatDoor
