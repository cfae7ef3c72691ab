/- Plain: what the law of honest kiosks asks of Take, Receipts, Late and Evidence. -/
import Derived.Test.YtpblfpnldbdncaaGreatDoorG24
namespace Go.Proofs.YtpblfpnldbdncaaGreatDoor
open Go.RowKit Go.Sort Go.Maps
open Sg (Rc)
open Mg (Mst Jd H Pap Sale Pos zeroH)
set_option linter.unusedVariables false
set_option maxRecDepth 100000
structure HonA (A : List Rc) : Prop where
  hon : ∀ r ∈ A, HonRc r
  own : ∀ n, OwnL n (Mg.own n A)
  len : A.length ≤ 24
theorem honA (l : List Sale) : HonA (honL l) := ⟨honL_hon l, fun n => ownL n l, honL_len l⟩
theorem HonA.mem {A : List Rc} (h : HonA A) {r : Rc} (hr : r ∈ A) : ∃ n < 4, r.kiosk = ((n : Nat) : Int) ∧ r ∈ Mg.own n A ∧ 1 ≤ r.serial ∧ rver ((pubK n : Nat) : Int) r = true := by
  obtain ⟨n, hn, e, v⟩ := (h.hon r hr).kio
  exact ⟨n, hn, e, List.mem_filter.2 ⟨hr, by simpa using e⟩, (h.hon r hr).ser, v⟩
theorem HonA.sole {A : List Rc} (h : HonA A) : Mg.Sole fun x => x ∈ A := by
  intro a b ha hb hk hs
  obtain ⟨n, _, e, m, _⟩ := h.mem ha
  exact (h.own n).sole a b m (List.mem_filter.2 ⟨hb, by simpa using hk.symm.trans e⟩) hk hs
/-- some receipts of honest kiosks have arrived -/
structure HonS (A L : List Rc) (st : Mst) : Prop where
  keeps : Keeps st L
  sub : ∀ r ∈ L, r ∈ A ∧ r.kiosk ≠ 0
  pub : st.pub = pubOf (kiosksL 3)
  cl : st.clones = fun _ => none
theorem hon_new (A : List Rc) : HonS A [] (newSt (kiosksL 3)) := ⟨new_keeps _, fun r hr => (by cases hr), rfl, rfl⟩
theorem hon_batch {A L : List Rc} {st : Mst} (hA : HonA A) (h : HonS A L st) {l : List Rc} {n : Nat} (h1 : 1 ≤ n) (h2 : n < 4) (hl : ∀ r ∈ l, r ∈ A ∧ r.kiosk = (n : Int)) :
    ∃ st', st.take rver rch (n : Int) l = (st', if (st'.judged rch (n : Int)).any (fun j => !j.sound) then 36 else 0) ∧ HonS A (L ++ l) st' ∧ st'.outs = st.outs := by
  obtain ⟨st1, t1, k1, p1, o1, n1⟩ := take_plain (l := l) (L' := L ++ l) h.keeps (by rw [h.pub]; exact pub3_k n h1 (by omega)) (fun r hr => by
    obtain ⟨m, hm, e, _, s, v⟩ := hA.mem (hl r hr).1
    have : m = n := by have := (hl r hr).2; omega
    subst this
    exact ⟨e, s, v⟩) (hA.sole.sub fun x hx => by
    rcases hx with hx | hx
    · exact (h.sub x hx).1
    · exact (hl x hx).1) (fun x => List.mem_append)
  refine ⟨st1, t1, ⟨k1, fun r hr => ?_, p1.trans h.pub, n1.trans h.cl⟩, o1⟩
  rcases List.mem_append.1 hr with hr | hr
  · exact h.sub r hr
  · refine ⟨(hl r hr).1, ?_⟩
    rw [(hl r hr).2]
    omega
theorem hon_take {A L : List Rc} {st : Mst} (hA : HonA A) (h : HonS A L st) {r : Rc} (hr : r ∈ A) :
    ∃ L' st' e, st.take rver rch r.kiosk [r] = (st', e) ∧ HonS A L' st' ∧ st'.outs = st.outs ∧ ((r.kiosk ≠ 0 ∧ (e = 0 ∨ e = 36)) ∨ (r.kiosk = 0 ∧ e = 34)) := by
  obtain ⟨n, hn, e, _, _, _⟩ := hA.mem hr
  by_cases h0 : n = 0
  · subst h0
    have hp : st.pub r.kiosk = none := by
      have hk := keys3 h.pub
      cases hc : st.pub r.kiosk with
      | none => rfl
      | some y =>
        have := (hk.2 r.kiosk).2 ⟨(hA.hon r hr).sm.ok.kiosk, by unfold pubF; rw [hc]; rfl⟩
        rw [e] at this
        simp at this
    exact ⟨L, st, 34, Mg.take_none hp, h, rfl, .inr ⟨e, rfl⟩⟩
  · obtain ⟨st', t, hs, ho⟩ := hon_batch hA h (l := [r]) (n := n) (by omega) hn (fun x hx => by
      have : x = r := by simpa using hx
      subst this
      exact ⟨hr, e⟩)
    rw [← e] at t
    refine ⟨_, st', _, t, hs, ho, .inl ⟨by rw [e]; omega, ?_⟩⟩
    by_cases hx : (st'.judged rch r.kiosk).any (fun j => !j.sound) = true
    · exact .inr (if_pos hx)
    · exact .inl (if_neg hx)
/-- the rounds are learned, from the last one on -/
theorem hon_down {A L : List Rc} {st : Mst} (h : HonS A L st) (n i : Nat) : HonS A L (stDown n i st) := by
  have key : ∀ (l : List Int) (m : Mst), (m.learns outHash l).pub = m.pub ∧ (m.learns outHash l).kept = m.kept ∧ (m.learns outHash l).clones = m.clones := by
    intro l
    induction l with
    | nil => intro m; exact ⟨rfl, rfl, rfl⟩
    | cons x l ih =>
      intro m
      have hl : (m.learn x (outHash x)).1.pub = m.pub ∧ (m.learn x (outHash x)).1.kept = m.kept ∧ (m.learn x (outHash x)).1.clones = m.clones := by
        unfold Mst.learn
        by_cases h0 : x < 1
        · rw [if_pos h0]; exact ⟨rfl, rfl, rfl⟩
        · rw [if_neg h0]
          cases m.outs x <;> exact ⟨rfl, rfl, rfl⟩
      obtain ⟨a, b, c⟩ := ih (m.learn x (outHash x)).1
      exact ⟨a.trans hl.1, b.trans hl.2.1, c.trans hl.2.2⟩
  obtain ⟨a, b, c⟩ := key (downFrom n i) st
  exact ⟨fun k s r => by
    show (st.learns outHash (downFrom n i)).kept k s = some r ↔ _
    rw [b]; exact h.keeps k s r, h.sub, a.trans h.pub, c.trans h.cl⟩
theorem down_base {st : Mst} (hp : st.pub = pubOf (kiosksL 3)) (ho : st.outs = fun _ => none) : Base (stDown 60 60 st) := by
  have h0 : st.OutsAre outHash fun _ => False := fun k x => ⟨fun h => (by rw [ho] at h; cases h), fun h => h.1.elim⟩
  obtain ⟨h1, h2, h3, h4⟩ := Mg.learns_ok outHash (downFrom 60 60) st _ h0
  refine ⟨h2.trans hp, _, h1, fun s a b => .inr ⟨?_, a⟩⟩
  unfold downFrom
  rw [List.mem_map]
  exact ⟨(60 - s).toNat, by rw [List.mem_range]; omega, by omega⟩
/-- a kiosk's whole chain arrives -/
theorem own_all {A L : List Rc} {st : Mst} (hA : HonA A) (h : HonS A L st) {n : Nat} (hm : ∀ r ∈ Mg.own n A, r ∈ L) : Mg.Own st (n : Int) (Mg.own n A) := by
  refine Mg.own_of h.keeps (n : Int) (Mg.own n A) (hA.own n).sorted fun r => ⟨fun hr => ⟨hm r hr, ((hA.own n).all r hr).1⟩, fun hr => ?_⟩
  exact List.mem_filter.2 ⟨(h.sub r hr.1).1, by simpa using hr.2⟩
theorem hon_whole {A L : List Rc} {st : Mst} (hA : HonA A) (h : HonS A L st) {n : Nat} (h1 : 1 ≤ n) (h2 : n < 4) :
    ∃ st', st.take rver rch (n : Int) (Mg.own n A) = (st', 0) ∧ HonS A (L ++ Mg.own n A) st' ∧ st'.outs = st.outs := by
  obtain ⟨st', t, hs, ho⟩ := hon_batch hA h (l := Mg.own n A) h1 h2 (fun r hr => by
    obtain ⟨a, b⟩ := List.mem_filter.1 hr
    exact ⟨a, by simpa using b⟩)
  have hw := own_all hA hs (n := n) (fun r hr => List.mem_append.2 (.inr hr))
  rw [Mg.chain_sound hw (hA.own n).link, if_neg (by decide)] at t
  exact ⟨st', t, hs, ho⟩
/-- all have arrived -/
structure HonE (A : List Rc) (st : Mst) : Prop where
  own : ∀ n : Nat, 1 ≤ n → n < 4 → Mg.Own st (n : Int) (Mg.own n A)
  base : Base st
  cl : st.clones = fun _ => none
def all3 (A : List Rc) : List Rc := Mg.own 1 A ++ (Mg.own 2 A ++ Mg.own 3 A)
theorem HonE.picks {A : List Rc} {st : Mst} (hA : HonA A) (h : HonE A st) (test : Rc → Bool) : picks st [1, 2, 3] test = (all3 A).filter test := by
  have hp : ∀ n : Nat, 1 ≤ n → n < 4 → st.pick rch test (n : Int) = (Mg.own n A).filter test := fun n h1 h2 =>
    Mg.pick_chain (h.own n h1 h2) (hA.own n).link (fun r hr => h.base.hon ((hA.own n).hon r hr)) test
  show st.pick rch test ((1 : Nat) : Int) ++ (st.pick rch test ((2 : Nat) : Int) ++ (st.pick rch test ((3 : Nat) : Int) ++ [])) = _
  rw [hp 1 (by omega) (by omega), hp 2 (by omega) (by omega), hp 3 (by omega) (by omega), List.append_nil, all3, List.filter_append, List.filter_append]
theorem HonE.ev {A : List Rc} {st : Mst} (hA : HonA A) (h : HonE A st) : evids st [1, 2, 3] = [] := by
  have hp : ∀ n : Nat, 1 ≤ n → n < 4 → evid1 st (n : Int) = [] := fun n h1 h2 => by
    unfold evid1
    rw [evClone_none (by rw [h.cl]), later_none (Mg.chain_noback (h.own n h1 h2) (hA.own n).link)]
    rfl
  show evid1 st ((1 : Nat) : Int) ++ (evid1 st ((2 : Nat) : Int) ++ (evid1 st ((3 : Nat) : Int) ++ [])) = _
  rw [hp 1 (by omega) (by omega), hp 2 (by omega) (by omega), hp 3 (by omega) (by omega)]
  rfl
noncomputable def tot (st : Mst) (rd : Int) (i : Nat) : Nat := ((List.range i).map fun j => (picks st [1, 2, 3] (soon (drawName j) rd)).length + (picks st [1, 2, 3] (late (drawName j) rd)).length).sum
theorem tot_succ (st : Mst) (rd : Int) (i : Nat) : tot st rd (i + 1) = tot st rd i + ((picks st [1, 2, 3] (soon (drawName i) rd)).length + (picks st [1, 2, 3] (late (drawName i) rd)).length) := by
  unfold tot
  rw [List.range_succ, List.map_append, List.sum_append]
  rfl
theorem draw_sum (rd : Int) (d : List UInt8) (A : List Rc) : (A.filter (soon d rd)).length + (A.filter (late d rd)).length = (A.filter fun r => decide (r.draw = d)).length := by
  induction A with
  | nil => rfl
  | cons r A ih =>
    simp only [List.filter_cons]
    by_cases h : r.draw = d
    · by_cases hs : r.seen < rd
      · have e1 : soon d rd r = true := by unfold soon; simp [h, hs]
        have e2 : late d rd r = false := by unfold late; simp [h, hs]
        rw [e1, e2, decide_eq_true h]
        simp only [if_true, Bool.false_eq_true, if_false, List.length_cons]
        omega
      · have e1 : soon d rd r = false := by unfold soon; simp [h, hs]
        have e2 : late d rd r = true := by unfold late; simp [h]; omega
        rw [e1, e2, decide_eq_true h]
        simp only [if_true, Bool.false_eq_true, if_false, List.length_cons]
        omega
    · have e1 : soon d rd r = false := by unfold soon; simp [h]
      have e2 : late d rd r = false := by unfold late; simp [h]
      rw [e1, e2, decide_eq_false h]
      simp only [Bool.false_eq_true, if_false]
      exact ih
theorem name_sum (A : List Rc) (hd : ∀ r ∈ A, r.draw ∈ names3) : (A.filter fun r => decide (r.draw = may)).length + (A.filter fun r => decide (r.draw = june)).length + (A.filter fun r => decide (r.draw = [97, 32, 98])).length = A.length := by
  induction A with
  | nil => rfl
  | cons r A ih =>
    have h1 := ih fun x hx => hd x (by simp [hx])
    have h2 := hd r (by simp)
    simp only [List.filter_cons, List.length_cons]
    have h2 : r.draw = may ∨ r.draw = june ∨ r.draw = [97, 32, 98] := by simpa [names3] using h2
    have n1 : may ≠ june := by decide
    have n2 : may ≠ [97, 32, 98] := by decide
    have n3 : june ≠ [97, 32, 98] := by decide
    rcases h2 with h | h | h
    · rw [h, decide_eq_true rfl, decide_eq_false n1, decide_eq_false n2]
      simp only [if_true, Bool.false_eq_true, if_false, List.length_cons]
      omega
    · rw [h, decide_eq_true rfl, decide_eq_false (Ne.symm n1), decide_eq_false n3]
      simp only [if_true, Bool.false_eq_true, if_false, List.length_cons]
      omega
    · rw [h, decide_eq_true rfl, decide_eq_false (Ne.symm n2), decide_eq_false (Ne.symm n3)]
      simp only [if_true, Bool.false_eq_true, if_false, List.length_cons]
      omega
/-- how many are of kiosks that are known -/
def known (A : List Rc) : Nat := (A.filter fun r => decide (r.kiosk ≠ 0)).length
theorem HonE.tot {A : List Rc} {st : Mst} (hA : HonA A) (h : HonE A st) (rd : Int) : tot st rd 3 = known A := by
  have e0 := draw_sum rd (drawName 0) (all3 A)
  have e1 := draw_sum rd (drawName 1) (all3 A)
  have e2 := draw_sum rd (drawName 2) (all3 A)
  have hs := Mg.own_sum A fun r hr => by
    obtain ⟨n, a, b, _⟩ := hA.mem hr
    exact ⟨n, a, b⟩
  have hn := name_sum (all3 A) fun r hr => by
    have : r ∈ A := by
      rcases List.mem_append.1 hr with hr | hr
      · exact (List.mem_filter.1 hr).1
      · rcases List.mem_append.1 hr with hr | hr
        · exact (List.mem_filter.1 hr).1
        · exact (List.mem_filter.1 hr).1
    exact (hA.hon r this).draw
  have hl : (all3 A).length = (Mg.own 1 A).length + ((Mg.own 2 A).length + (Mg.own 3 A).length) := by rw [all3, List.length_append, List.length_append]
  have t0 : Go.Proofs.YtpblfpnldbdncaaGreatDoor.tot st rd 0 = 0 := rfl
  rw [tot_succ, tot_succ, tot_succ, t0, h.picks hA, h.picks hA, h.picks hA, h.picks hA, h.picks hA, h.picks hA, e0, e1, e2]
  have d0 : drawName 0 = may := rfl
  have d1 : drawName 1 = june := rfl
  have d2 : drawName 2 = [97, 32, 98] := rfl
  rw [d0, d1, d2]
  unfold known
  omega
theorem known_le {A : List Rc} (i : Nat) : known (A.take i) ≤ known A := by
  unfold known
  exact (List.Sublist.filter _ (List.take_sublist i A)).length_le
theorem known_succ {A : List Rc} {i : Nat} {x : Rc} (h : A[i]? = some x) : known (A.take (i + 1)) = known (A.take i) + if x.kiosk ≠ 0 then 1 else 0 := by
  unfold known
  rw [take_succ_get h, List.filter_append, List.length_append]
  by_cases h0 : x.kiosk = 0
  · simp [h0]
  · simp [h0]
/-- each one that is picked is of the draw, and on its side of the round -/
theorem soon_at {st : Mst} {rd : Int} {d : List UInt8} {ks : List Int} {r : Rc} (h : r ∈ picks st ks (soon d rd)) : r.draw = d ∧ r.seen < rd := by
  obtain ⟨k, _, h⟩ := List.mem_flatMap.1 h
  have := Mg.pick_test r h
  unfold soon at this
  simpa using this
theorem late_at {st : Mst} {rd : Int} {d : List UInt8} {ks : List Int} {r : Rc} (h : r ∈ picks st ks (late d rd)) : r.draw = d ∧ rd ≤ r.seen := by
  obtain ⟨k, _, h⟩ := List.mem_flatMap.1 h
  have := Mg.pick_test r h
  unfold late at this
  simpa using this
end Go.Proofs.YtpblfpnldbdncaaGreatDoor
