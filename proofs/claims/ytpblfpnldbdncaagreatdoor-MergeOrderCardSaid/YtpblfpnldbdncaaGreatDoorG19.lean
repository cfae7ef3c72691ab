/- Plain: the examples of sanity, by what Take, Receipts, Late, Learn and Evidence answer. The receipts of chain as sanity wants them; contracts of a merge's methods beside other things. What the reference's Sales has in memory in a round: the four numbers, hashes, the receipt. -/
import Derived.Test.YtpblfpnldbdncaaGreatDoorG18
import Derived.Test.YtpblfpnldbdncaaGreatDoorG17
import Derived.Test.YtpblfpnldbdncaaGreatDoorG02
namespace Go.Proofs.YtpblfpnldbdncaaGreatDoor
open Go.RowKit Go.Sort Go.Maps
open Sg (Rc)
open Mg (Mst Jd H Pap)
set_option linter.unusedVariables false
set_option maxRecDepth 100000
/-- the receipts of a state that count and pass a test, over kiosks -/
noncomputable def picks (st : Mst) (ks : List Int) (test : Rc → Bool) : List Rc := ks.flatMap fun k => st.pick rch test k
noncomputable def evids (st : Mst) (ks : List Int) : List Ev := ks.flatMap fun k => evid1 st k
/-- kept: those of a list -/
def Keeps (st : Mst) (L : List Rc) : Prop := st.KeptIs fun x => x ∈ L
theorem Keeps.own {st : Mst} {L : List Rc} (h : Keeps st L) (k : Int) (hL : L.Pairwise fun a b => a.serial < b.serial) (hk : ∀ r ∈ L, r.kiosk = k) : Mg.Own st k L :=
  Mg.own_of h k L hL fun r => ⟨fun hr => ⟨hr, hk r hr⟩, fun hr => hr.1⟩
theorem Keeps.own_none {st : Mst} {L : List Rc} (h : Keeps st L) (k : Int) (hk : ∀ r ∈ L, r.kiosk ≠ k) : Mg.Own st k [] :=
  Mg.own_of h k [] List.Pairwise.nil fun r => ⟨fun hr => (by cases hr), fun hr => absurd hr.2 (hk r hr.1)⟩
theorem judged_none {st : Mst} {k : Int} (h : Mg.Own st k []) : st.judged rch k = [] := by
  unfold Mst.judged
  rw [Mg.own_eq h]
  rfl
theorem pick_none {st : Mst} {k : Int} (h : Mg.Own st k []) (test : Rc → Bool) : st.pick rch test k = [] := by
  unfold Mst.pick
  rw [judged_none h]
  rfl
/-- a batch without clones: the state, and the answer -/
theorem take_plain {st : Mst} {k y : Int} {L l L' : List Rc} (h : Keeps st L) (hp : st.pub k = some y) (hl : ∀ r ∈ l, r.kiosk = k ∧ 1 ≤ r.serial ∧ rver y r = true) (hs : Mg.Sole fun x => x ∈ L ∨ x ∈ l) (he : ∀ x, x ∈ L' ↔ x ∈ L ∨ x ∈ l) :
    ∃ st', st.take rver rch k l = (st', if (st'.judged rch k).any (fun j => !j.sound) then 36 else 0) ∧ Keeps st' L' ∧ st'.pub = st.pub ∧ st'.outs = st.outs ∧ st'.clones = st.clones := by
  obtain ⟨h1, h2⟩ := Mg.take_fine (ver := rver) (hs := rch) hp hl h hs
  obtain ⟨g1, g2, g3, g4, g5⟩ := Mg.keeps_ok l st _ h hs
  refine ⟨(st.keeps l).1, Prod.ext h1 h2, Mg.KeptIs.congr g1 fun x => (he x).symm, g3, g4, g5⟩
theorem pick_chain' {m : Mst} {k : Int} {l : List Rc} (h : Mg.Own m k l) (hl : Mg.Linked rch 1 Mg.zeroH 0 l) (test : Rc → Bool) : m.pick rch test k = l.filter fun r => m.fits r && test r := by
  unfold Mst.pick
  rw [Mg.judged_chain h hl, List.filter_map, List.map_map]
  have e : ((fun j : Jd => j.rc) ∘ Mg.good rch m.fits) = id := rfl
  rw [e, List.map_id]
  rfl
/-- places of their own -/
theorem sole_list {L : List Rc} (h : L.Pairwise fun a b => a.serial ≠ b.serial) : Mg.Sole fun x => x ∈ L := by
  intro a b ha hb _ e
  induction L with
  | nil => cases ha
  | cons x L ih =>
    obtain ⟨p1, p2⟩ := List.pairwise_cons.1 h
    rcases List.mem_cons.1 ha with rfl | ha'
    · rcases List.mem_cons.1 hb with rfl | hb'
      · rfl
      · exact absurd e (p1 b hb')
    · rcases List.mem_cons.1 hb with rfl | hb'
      · exact absurd e.symm (p1 a ha')
      · exact ih p2 ha' hb'
def may : List UInt8 := [77, 97, 121]
def june : List UInt8 := [74, 117, 110, 101]
def soon (d : List UInt8) (rd : Int) : Rc → Bool := fun c => decide (c.draw = d) && decide (c.seen < rd)
def late (d : List UInt8) (rd : Int) : Rc → Bool := fun c => decide (c.draw = d) && decide (rd ≤ c.seen)
/-- five receipts of kiosk 4, and a clone of the second -/
structure Five (c0 c1 c2 c3 c4 d : Rc) : Prop where
  k0 : c0.kiosk = 4
  k1 : c1.kiosk = 4
  k2 : c2.kiosk = 4
  k3 : c3.kiosk = 4
  k4 : c4.kiosk = 4
  kd : d.kiosk = 4
  s0 : c0.serial = 1
  s1 : c1.serial = 2
  s2 : c2.serial = 3
  s3 : c3.serial = 4
  s4 : c4.serial = 5
  sd : d.serial = 2
  n0 : c0.seen = 0
  n1 : c1.seen = 0
  n2 : c2.seen = 0
  n3 : c3.seen = 5
  n4 : c4.seen = 3
  p0 : c0.prev = Mg.zeroH
  p1 : c1.prev = rch c0
  p2 : c2.prev = rch c1
  p3 : c3.prev = rch c2
  p4 : c4.prev = rch c3
  o0 : c0.output = Mg.zeroH
  o1 : c1.output = Mg.zeroH
  o2 : c2.output = Mg.zeroH
  o3 : c3.output = outHash 5
  m0 : c0.draw = may
  m1 : c1.draw = may
  m2 : c2.draw = may
  m3 : c3.draw = may
  m4 : c4.draw = may
  md : d.draw = june
  v0 : rver (pubK 4) c0 = true
  v1 : rver (pubK 4) c1 = true
  v2 : rver (pubK 4) c2 = true
  v3 : rver (pubK 4) c3 = true
  v4 : rver (pubK 4) c4 = true
  vd : rver (pubK 4) d = true
theorem Five.ne {c0 c1 c2 c3 c4 d : Rc} (h : Five c0 c1 c2 c3 c4 d) : c1 ≠ d := fun e => by
  have h1 := h.m1
  rw [e, h.md] at h1
  exact absurd h1 (by decide)
/-- the states of sanity -/
structure San (c0 c1 c2 c3 c4 d : Rc) (st0 st1 st2 st3 st4 st5 st6 st7 st8 : Mst) (e8 : Int) : Prop where
  t1 : st0.take rver rch 4 [c2] = (st1, 36)
  r1 : picks st1 [1, 2, 3, 4] (soon may 1) = []
  t2 : st1.take rver rch 4 [c0] = (st2, 36)
  t3 : st2.take rver rch 4 [c1] = (st3, 0)
  r3 : picks st3 [1, 2, 3, 4] (soon may 1) = [c0, c1, c2]
  t4 : st3.take rver rch 4 [d] = (st4, 51)
  t5 : st4.take rver rch 4 [c0, c1] = (st5, 0)
  t6 : st5.take rver rch 4 [c3] = (st6, 0)
  r6 : picks st6 [1, 2, 3, 4] (soon may 9) = [c0, c1, c2]
  t7 : st6.learn 5 (outHash 5) = (st7, 0)
  r7 : picks st7 [1, 2, 3, 4] (soon may 9) = [c0, c1, c2, c3]
  l7 : picks st7 [1, 2, 3, 4] (late may 5) = [c3]
  t8 : st7.take rver rch 4 [c4] = (st8, e8)
  ev : evids st8 [1, 2, 3, 4] = [evOf 7 4 c1 d, evOf 6 4 c3 c4]
  p1 : st1.pub = st0.pub
  p3 : st3.pub = st0.pub
  p6 : st6.pub = st0.pub
  p7 : st7.pub = st0.pub
  p8 : st8.pub = st0.pub
theorem any_unsound {J : List Jd} {j : Jd} (h : j ∈ J) (hj : j.sound = false) : J.any (fun j => !j.sound) = true := by
  rw [List.any_eq_true]
  exact ⟨j, h, by rw [hj]; rfl⟩
theorem picks_one {st : Mst} {L l : List Rc} (h : Keeps st L) (hk : ∀ r ∈ L, r.kiosk = 4) {test : Rc → Bool} (h4 : st.pick rch test 4 = l) : picks st [1, 2, 3, 4] test = l := by
  have e1 := pick_none (h.own_none 1 fun r hr => by rw [hk r hr]; decide) test
  have e2 := pick_none (h.own_none 2 fun r hr => by rw [hk r hr]; decide) test
  have e3 := pick_none (h.own_none 3 fun r hr => by rw [hk r hr]; decide) test
  simp [picks, e1, e2, e3, h4]
theorem san_plain {c0 c1 c2 c3 c4 d : Rc} (h : Five c0 c1 c2 c3 c4 d) {st0 : Mst} (hp : st0.pub 4 = some (pubK 4 : Int)) (hk : Keeps st0 []) (ho : st0.outs = fun _ => none) (hc : st0.clones = fun _ => none) :
    ∃ st1 st2 st3 st4 st5 st6 st7 st8 e8, San c0 c1 c2 c3 c4 d st0 st1 st2 st3 st4 st5 st6 st7 st8 e8 := by
  -- the chain
  have L1 : Mg.Linked rch 1 Mg.zeroH 0 [c0] := ⟨h.s0, h.p0, by rw [h.n0]; omega, trivial⟩
  have L3 : Mg.Linked rch 1 Mg.zeroH 0 [c0, c1, c2] := ⟨h.s0, h.p0, by rw [h.n0]; omega, by rw [h.s1]; rfl, h.p1, by rw [h.n0, h.n1]; omega, by rw [h.s2]; rfl, h.p2, by rw [h.n1, h.n2]; omega, trivial⟩
  have L4 : Mg.Linked rch 1 Mg.zeroH 0 [c0, c1, c2, c3] := ⟨h.s0, h.p0, by rw [h.n0]; omega, by rw [h.s1]; rfl, h.p1, by rw [h.n0, h.n1]; omega, by rw [h.s2]; rfl, h.p2, by rw [h.n1, h.n2]; omega, by rw [h.s3]; rfl, h.p3, by rw [h.n2, h.n3]; omega, trivial⟩
  have K5 : ∀ r ∈ [c0, c1, c2, c3, c4], r.kiosk = 4 := by simp [h.k0, h.k1, h.k2, h.k3, h.k4]
  have sub : ∀ {L : List Rc}, (∀ x ∈ L, x ∈ [c0, c1, c2, c3, c4]) → ∀ r ∈ L, r.kiosk = 4 := fun hs r hr => K5 r (hs r hr)
  have S5 : Mg.Sole fun x => x ∈ [c0, c1, c2, c3, c4] := sole_list (by simp [h.s0, h.s1, h.s2, h.s3, h.s4])
  have so : ∀ {S : Rc → Prop}, (∀ x, S x → x ∈ [c0, c1, c2, c3, c4]) → Mg.Sole S := fun hs => S5.sub hs
  have mo : ∀ (t : Rc → Bool) (st : Mst), (fun j : Jd => j.counts && t j.rc) = fun j : Jd => j.counts && t j.rc := fun _ _ => rfl
  -- 1
  obtain ⟨st1, t1, k1, p1, o1, n1⟩ := take_plain (l := [c2]) (L' := [c2]) hk hp (by simp [h.k2, h.s2, h.v2]) (so (by simp)) (by simp)
  have w1 : Mg.Own st1 4 [c2] := k1.own 4 (by simp) (by simp [h.k2])
  have j1 : st1.judged rch 4 = [Mg.step st1.fits none 0 ⟨c2, rch c2⟩] := by unfold Mst.judged; rw [Mg.own_eq w1]; rfl
  have u1 : (Mg.step st1.fits none 0 ⟨c2, rch c2⟩).sound = false := by
    show Mg.soundOf none _ = false
    unfold Mg.soundOf
    rw [if_neg (by rw [h.s2]; decide)]
  have x1 : (st1.judged rch 4).any (fun j => !j.sound) = true := any_unsound (j := Mg.step st1.fits none 0 ⟨c2, rch c2⟩) (by rw [j1]; simp) u1
  rw [if_pos x1] at t1
  have r1 : st1.pick rch (soon may 1) 4 = [] := by
    unfold Mst.pick
    rw [j1]
    have : (Mg.step st1.fits none 0 ⟨c2, rch c2⟩).counts = false := by
      show (Mg.soundOf none _ && _ && _) = false
      have : Mg.soundOf none ⟨c2, rch c2⟩ = false := u1
      rw [this]; rfl
    simp [this]
  -- 2
  obtain ⟨st2, t2, k2, p2, o2, n2⟩ := take_plain (l := [c0]) (L' := [c0, c2]) k1 (by rw [p1]; exact hp) (by simp [h.k0, h.s0, h.v0]) (so (by simp)) (fun x => by simp; exact Or.comm)
  have w2 : Mg.Own st2 4 [c0, c2] := k2.own 4 (by simp [h.s0, h.s2]) (by simp [h.k0, h.k2])
  have x2 : (st2.judged rch 4).any (fun j => !j.sound) = true := by
    have e : st2.judged rch 4 = [Mg.step st2.fits none 0 ⟨c0, rch c0⟩, Mg.step st2.fits (some (Mg.step st2.fits none 0 ⟨c0, rch c0⟩)) (Mg.most' none 0 ⟨c0, rch c0⟩) ⟨c2, rch c2⟩] := by unfold Mst.judged; rw [Mg.own_eq w2]; rfl
    refine any_unsound (j := Mg.step st2.fits (some (Mg.step st2.fits none 0 ⟨c0, rch c0⟩)) (Mg.most' none 0 ⟨c0, rch c0⟩) ⟨c2, rch c2⟩) (by rw [e]; simp) ?_
    refine Mg.sound_gap _ _ (by show c2.serial ≠ 1; rw [h.s2]; decide) (.inl ?_)
    show c0.serial ≠ c2.serial - 1
    rw [h.s0, h.s2]; decide
  rw [if_pos x2] at t2
  -- 3
  obtain ⟨st3, t3, k3, p3, o3, n3⟩ := take_plain (l := [c1]) (L' := [c0, c1, c2]) k2 (by rw [p2, p1]; exact hp) (by simp [h.k1, h.s1, h.v1]) (so (fun x hx => by simp at hx ⊢; rcases hx with (rfl | rfl) | rfl <;> simp)) (fun x => by grind)
  have w3 : Mg.Own st3 4 [c0, c1, c2] := k3.own 4 (by simp [h.s0, h.s1, h.s2]) (by simp [h.k0, h.k1, h.k2])
  rw [Mg.chain_sound w3 L3] at t3
  have f0 : ∀ (st : Mst), st.fits c0 = true ∧ st.fits c1 = true ∧ st.fits c2 = true := fun st => by
    unfold Mst.fits
    rw [if_pos h.n0, if_pos h.n1, if_pos h.n2, h.o0, h.o1, h.o2]
    simp
  have r3 : st3.pick rch (soon may 1) 4 = [c0, c1, c2] := by
    rw [pick_chain' w3 L3]
    simp [f0, soon, h.m0, h.m1, h.m2, h.n0, h.n1, h.n2]
  have q3 : st3.pub 4 = some (pubK 4 : Int) := by rw [p3, p2, p1]; exact hp
  -- 4: the clone
  have hkept : st3.kept 4 2 = some c1 := by
    have := (k3 4 2 c1).2 ⟨by simp, h.k1, h.s1⟩
    exact this
  have hc3 : st3.clones = fun _ => none := by rw [n3, n2, n1]; exact hc
  have e4 : st3.keeps [d] = ({ st3 with clones := fun k => if k = 4 then some (c1, d) else st3.clones k }, true) := by
    have : st3.keep d = ({ st3 with clones := fun k => if k = 4 then some (c1, d) else st3.clones k }, false) := by
      unfold Mst.keep
      rw [h.kd, h.sd, hkept]
      simp only
      rw [if_neg h.ne, hc3]
    simp [Mst.keeps, this]
  have t4 : st3.take rver rch 4 [d] = ({ st3 with clones := fun k => if k = 4 then some (c1, d) else st3.clones k }, 51) := by
    unfold Mst.take
    rw [q3]
    simp [h.kd, h.sd, h.vd, e4]
  obtain ⟨st4, hst4⟩ : ∃ st4, ({ st3 with clones := fun k => if k = 4 then some (c1, d) else st3.clones k } : Mst) = st4 := ⟨_, rfl⟩
  rw [hst4] at t4
  have k4 : Keeps st4 [c0, c1, c2] := by rw [← hst4]; exact k3
  have q4 : st4.pub = st3.pub := by rw [← hst4]
  have o4 : st4.outs = st3.outs := by rw [← hst4]
  have n4 : st4.clones 4 = some (c1, d) ∧ ∀ k, k ≠ 4 → st4.clones k = none := by
    rw [← hst4]
    refine ⟨by simp, fun k hk => ?_⟩
    show (if k = 4 then some (c1, d) else st3.clones k) = none
    rw [if_neg hk, hc3]
  -- 5
  obtain ⟨st5, t5, k5, p5, o5, n5⟩ := take_plain (l := [c0, c1]) (L' := [c0, c1, c2]) k4 (by rw [q4]; exact q3) (by simp [h.k0, h.s0, h.v0, h.k1, h.s1, h.v1]) (so (fun x hx => by simp at hx ⊢; rcases hx with (rfl | rfl | rfl) | rfl | rfl <;> simp)) (fun x => by grind)
  have w5 : Mg.Own st5 4 [c0, c1, c2] := k5.own 4 (by simp [h.s0, h.s1, h.s2]) (by simp [h.k0, h.k1, h.k2])
  rw [Mg.chain_sound w5 L3] at t5
  -- 6
  obtain ⟨st6, t6, k6, p6, o6, n6⟩ := take_plain (l := [c3]) (L' := [c0, c1, c2, c3]) k5 (by rw [p5, q4]; exact q3) (by simp [h.k3, h.s3, h.v3]) (so (fun x hx => by simp at hx ⊢; rcases hx with (rfl | rfl | rfl) | rfl <;> simp)) (fun x => by grind)
  have w6 : Mg.Own st6 4 [c0, c1, c2, c3] := k6.own 4 (by simp [h.s0, h.s1, h.s2, h.s3]) (by simp [h.k0, h.k1, h.k2, h.k3])
  rw [Mg.chain_sound w6 L4] at t6
  have on6 : st6.outs = fun _ => none := by rw [o6, o5, o4, o3, o2, o1]; exact ho
  have r6 : st6.pick rch (soon may 9) 4 = [c0, c1, c2] := by
    rw [pick_chain' w6 L4]
    have f3 : st6.fits c3 = false := by
      unfold Mst.fits
      rw [if_neg (by rw [h.n3]; decide), on6]
    simp [f0, f3, soon, h.m0, h.m1, h.m2, h.n0, h.n1, h.n2]
  -- 7
  have t7 : st6.learn 5 (outHash 5) = ({ st6 with outs := fun k => if k = 5 then some (outHash 5) else st6.outs k }, 0) := by
    unfold Mst.learn
    rw [if_neg (by decide), on6]
  obtain ⟨st7, hst7⟩ : ∃ st7, ({ st6 with outs := fun k => if k = 5 then some (outHash 5) else st6.outs k } : Mst) = st7 := ⟨_, rfl⟩
  rw [hst7] at t7
  have k7 : Keeps st7 [c0, c1, c2, c3] := by rw [← hst7]; exact k6
  have p7 : st7.pub = st6.pub := by rw [← hst7]
  have o7 : st7.outs 5 = some (outHash 5) := by rw [← hst7]; simp
  have n7 : st7.clones = st6.clones := by rw [← hst7]
  have w7 : Mg.Own st7 4 [c0, c1, c2, c3] := k7.own 4 (by simp [h.s0, h.s1, h.s2, h.s3]) (by simp [h.k0, h.k1, h.k2, h.k3])
  have f3 : st7.fits c3 = true := by
    unfold Mst.fits
    rw [if_neg (by rw [h.n3]; decide), h.n3, o7, h.o3]
    simp
  have r7 : st7.pick rch (soon may 9) 4 = [c0, c1, c2, c3] := by
    rw [pick_chain' w7 L4]
    simp [f0, f3, soon, h.m0, h.m1, h.m2, h.m3, h.n0, h.n1, h.n2, h.n3]
  have l7 : st7.pick rch (late may 5) 4 = [c3] := by
    rw [pick_chain' w7 L4]
    simp [f0, f3, late, h.m0, h.m1, h.m2, h.m3, h.n0, h.n1, h.n2, h.n3]
  -- 8
  obtain ⟨st8, t8, k8, p8, o8, n8⟩ := take_plain (l := [c4]) (L' := [c0, c1, c2, c3, c4]) k7 (by rw [p7, p6, p5, q4]; exact q3) (by simp [h.k4, h.s4, h.v4]) (so (fun x hx => by simp at hx ⊢; rcases hx with (rfl | rfl | rfl | rfl) | rfl <;> simp)) (fun x => by grind)
  have w8 : Mg.Own st8 4 [c0, c1, c2, c3, c4] := k8.own 4 (by simp [h.s0, h.s1, h.s2, h.s3, h.s4]) (by simp [h.k0, h.k1, h.k2, h.k3, h.k4])
  have c8 : st8.clones 4 = some (c1, d) ∧ ∀ k, k ≠ 4 → st8.clones k = none := by rw [n8, n7, n6, n5]; exact n4
  have ev : evids st8 [1, 2, 3, 4] = [evOf 7 4 c1 d, evOf 6 4 c3 c4] := by
    have z : ∀ k : Int, k ≠ 4 → evid1 st8 k = [] := fun k hk => by
      have e1 := judged_none (k8.own_none k fun r hr => by rw [K5 r hr]; exact Ne.symm hk)
      unfold evid1
      rw [evClone_none (c8.2 k hk), e1]
      rfl
    have e4 : evid1 st8 4 = [evOf 7 4 c1 d, evOf 6 4 c3 c4] := by
      unfold evid1
      rw [evClone_some c8.1]
      have j8 : st8.judged rch 4 = [c0, c1, c2, c3].map (Mg.good rch st8.fits) ++ [Mg.step st8.fits (some (Mg.good rch st8.fits c3)) 5 ⟨c4, rch c4⟩] := by
        unfold Mst.judged
        rw [Mg.own_eq w8]
        have e : Mg.paps rch [c0, c1, c2, c3, c4] = Mg.paps rch [c0, c1, c2, c3] ++ [⟨c4, rch c4⟩] := rfl
        have m5 : Mg.mostOf st8.fits none 0 (Mg.paps rch [c0, c1, c2, c3]) = 5 := by
          simp [Mg.mostOf, Mg.paps, Mg.most', h.n0, h.n1, h.n2, h.n3]
        rw [e, judge_snoc, m5, show Mg.judge st8.fits none 0 (Mg.paps rch [c0, c1, c2, c3]) = [c0, c1, c2, c3].map (Mg.good rch st8.fits) from Mg.judge_chain rch st8.fits _ L4]
        rfl
      have b8 : (Mg.step st8.fits (some (Mg.good rch st8.fits c3)) 5 ⟨c4, rch c4⟩).back = true := by
        show (true && decide (c4.seen < 5)) = true
        rw [h.n4]; rfl
      rw [j8]
      have g1 : ([c0, c1, c2, c3].map (Mg.good rch st8.fits) ++ [Mg.step st8.fits (some (Mg.good rch st8.fits c3)) 5 ⟨c4, rch c4⟩]).find? (fun j => j.back) = some (Mg.step st8.fits (some (Mg.good rch st8.fits c3)) 5 ⟨c4, rch c4⟩) := by
        simp [Mg.good]
        rw [show (Mg.step st8.fits (some (⟨c3, rch c3, true, false, st8.fits c3⟩ : Jd)) 5 ⟨c4, rch c4⟩).back = true from b8]
      have g2 : ([c0, c1, c2, c3].map (Mg.good rch st8.fits) ++ [Mg.step st8.fits (some (Mg.good rch st8.fits c3)) 5 ⟨c4, rch c4⟩]).find? (fun j => decide ((Mg.step st8.fits (some (Mg.good rch st8.fits c3)) 5 ⟨c4, rch c4⟩).rc.seen < j.rc.seen)) = some (Mg.good rch st8.fits c3) := by
        have : (Mg.step st8.fits (some (Mg.good rch st8.fits c3)) 5 ⟨c4, rch c4⟩).rc.seen = 3 := h.n4
        rw [this]
        simp [Mg.good, h.n0, h.n1, h.n2, h.n3]
      rw [evLater_some g1 g2]
      rfl
    simp [evids, z, e4]
  exact ⟨st1, st2, st3, st4, st5, st6, st7, st8, _, t1, picks_one k1 (by simp [h.k2]) r1, t2, t3, picks_one k3 (by simp [h.k0, h.k1, h.k2]) r3, t4, t5, t6, picks_one k6 (by simp [h.k0, h.k1, h.k2, h.k3]) r6, t7,
    picks_one k7 (by simp [h.k0, h.k1, h.k2, h.k3]) r7, picks_one k7 (by simp [h.k0, h.k1, h.k2, h.k3]) l7, t8, ev, p1, by rw [p3, p2, p1], by rw [p6, p5, q4, p3, p2, p1], by rw [p7, p6, p5, q4, p3, p2, p1], by rw [p8, p7, p6, p5, q4, p3, p2, p1]⟩
end Go.Proofs.YtpblfpnldbdncaaGreatDoor
namespace Go.Proofs.YtpblfpnldbdncaaGreatDoor
open Go.RowKit Go.Sort Go.Maps
open Sg (Rc)
open Mg (Mst Jd H Pap)
set_option linter.unusedVariables false
set_option maxRecDepth 100000
def cR (i : Nat) : Rc := chOne i (chSeen.getD i 0) (chSt i).2
theorem chainL_eq : chainL = [cR 0, cR 1, cR 2, cR 3, cR 4] := by
  unfold chainL
  simp only [chSt, List.nil_append, List.cons_append]
  rfl
theorem cR_sm (i : Nat) (hi : i < 5) : RcSm (cR i) := by
  obtain ⟨h0, h1⟩ := chSeen_at i hi
  exact signed_sm 1152921504606845789 2305843009213691579 5012 rfl rfl (chBase_sm (by omega) h0 h1 (chSt_len i).2)
/-- the clone -/
def cD : Rc := sgn 5012 { cR 1 with draw := june }
theorem june_sm {c : Rc} (h : RcSm c) : RcSm { c with draw := june } :=
  ⟨⟨h.ok.kiosk, h.ok.serial, h.ok.seen, h.ok.r, h.ok.s, by show june.length ≤ 1000; decide, h.ok.output, h.ok.hash, h.ok.prev⟩, h.k, h.s, h.n, h.r0, h.s0⟩
theorem cD_sm : RcSm cD := signed_sm 1152921504606845789 2305843009213691579 5012 rfl rfl (june_sm (cR_sm 1 (by omega)))
theorem rver_k (k : Nat) (c : Rc) : rver ((pubK k : Nat) : Int) (sgn (5000 + 3 * k) c) = true := rver_sgn (5000 + 3 * k) c
theorem rver_4 (c : Rc) : rver ((pubK 4 : Nat) : Int) (sgn 5012 c) = true := by
  have := rver_k 4 c
  rwa [show 5000 + 3 * 4 = 5012 from rfl] at this
theorem five_chain : Five (cR 0) (cR 1) (cR 2) (cR 3) (cR 4) cD :=
  ⟨rfl, rfl, rfl, rfl, rfl, rfl, rfl, rfl, rfl, rfl, rfl, rfl, rfl, rfl, rfl, rfl, rfl, rfl, rfl, rfl, rfl, rfl, rfl, rfl, rfl, rfl, rfl, rfl, rfl, rfl, rfl, rfl,
   rver_4 _, rver_4 _, rver_4 _, rver_4 _, rver_4 _, rver_4 _⟩
/-! the kiosks -/
theorem pubOf_isSome (l : List Mb) (k : Int) : (pubOf l k).isSome = true ↔ k ∈ l.map (·.id) := by
  unfold pubOf
  rw [Option.isSome_map, List.find?_isSome, List.mem_map]
  constructor
  · rintro ⟨x, hx, h⟩
    exact ⟨x, hx, by simpa using h⟩
  · rintro ⟨x, hx, h⟩
    exact ⟨x, hx, by simpa using h⟩
theorem few_of {st : Mst} {l : List Mb} (h : st.pub = pubOf l) (hl : l.length ≤ 9) : Few st :=
  ⟨l.map (·.id), by rw [List.length_map]; exact hl, fun k hk => by rw [h] at hk; exact (pubOf_isSome l k).1 hk⟩
theorem keys_of {st : Mst} {l : List Mb} {ks : List Int} (h : st.pub = pubOf l) (h1 : ks.Pairwise (· < ·)) (h2 : ∀ k, k ∈ ks ↔ k ∈ l.map (·.id)) (h3 : ∀ k ∈ ks, I64 k) : KeysIs (pubF st) ks := by
  refine ⟨h1, fun k => ?_⟩
  have e : (pubF st k).isSome = (pubOf l k).isSome := by unfold pubF; rw [Option.isSome_map, h]
  rw [e, pubOf_isSome, ← h2]
  exact ⟨fun hk => ⟨h3 k hk, hk⟩, fun hk => hk.2⟩
theorem ids4 (k : Int) : k ∈ [1, 2, 3, 4] ↔ k ∈ (kiosksL 4).map (·.id) := by
  have e : (kiosksL 4).map (·.id) = [4, 3, 2, 1, 2] := rfl
  rw [e]
  simp only [List.mem_cons, List.not_mem_nil, or_false]
  constructor <;> (intro h; omega)
theorem ids3 (k : Int) : k ∈ [1, 2, 3] ↔ k ∈ (kiosksL 3).map (·.id) := by
  have e : (kiosksL 3).map (·.id) = [3, 2, 1, 2] := rfl
  rw [e]
  simp only [List.mem_cons, List.not_mem_nil, or_false]
  constructor <;> (intro h; omega)
theorem keys4 {st : Mst} (h : st.pub = pubOf (kiosksL 4)) : KeysIs (pubF st) [1, 2, 3, 4] := keys_of h (by simp) ids4 (by decide)
theorem keys3 {st : Mst} (h : st.pub = pubOf (kiosksL 3)) : KeysIs (pubF st) [1, 2, 3] := keys_of h (by simp) ids3 (by decide)
theorem few4 {st : Mst} (h : st.pub = pubOf (kiosksL 4)) : Few st := few_of h (by decide)
theorem few3 {st : Mst} (h : st.pub = pubOf (kiosksL 3)) : Few st := few_of h (by decide)
theorem pub4_4 : pubOf (kiosksL 4) 4 = some ((pubK 4 : Nat) : Int) := by
  have e : kiosksL 4 = [mbOf 4, mbOf 3, mbOf 2, mbOf 1, mbTwo] := rfl
  rw [e]
  unfold pubOf
  rw [List.find?_cons_of_pos (by rfl)]
  rfl
theorem pub3_k (k : Nat) (h1 : 1 ≤ k) (h2 : k ≤ 3) : pubOf (kiosksL 3) (k : Int) = some ((pubK k : Nat) : Int) := by
  have e : kiosksL 3 = [mbOf 3, mbOf 2, mbOf 1, mbTwo] := rfl
  rw [e]
  unfold pubOf
  have hk : k = 1 ∨ k = 2 ∨ k = 3 := by omega
  rcases hk with rfl | rfl | rfl
  · rw [List.find?_cons_of_neg (by decide +kernel), List.find?_cons_of_neg (by decide +kernel), List.find?_cons_of_pos (by rfl)]
    rfl
  · rw [List.find?_cons_of_neg (by decide +kernel), List.find?_cons_of_pos (by rfl)]
    rfl
  · rw [List.find?_cons_of_pos (by rfl)]
    rfl
/-! contracts -/
def GivesRows {P : Program} {α : Type} (R : Rk P α) (w : World) (xs : List α) (e : Ending) (w' : World) : Prop := ∃ v, e = .returned v ∧ OwnsR R w' w.heap.size v xs ∧ Below w.heap.size w w'
theorem receipts_has {p : Nat} {st : Mst} {n : Nat} {w0 w : World} (h : Has (MrgT p st n) w0 w) (hn : n ≤ 10000) (hf : Few st) {ks : List Int} (hks : KeysIs (pubF st) ks) (d : List UInt8) (rd : Int) :
    Calls Tryz.prog 21 #[.pointer (some ⟨p, 0, none⟩), .string (bstr d), .int .i64 rd] w (GivesRows rcK w (picks st ks (soon d rd))) := by
  obtain ⟨vp, vo, vk, vc, hm⟩ := h.mrg
  refine (receipts_any hm hn d rd hf).mono ?_
  rintro e w' ⟨v, ks', rfl, h1, h2, h3⟩
  rw [keys_unique h1 hks] at h2
  exact ⟨v, rfl, h2, h3⟩
theorem lates_has {p : Nat} {st : Mst} {n : Nat} {w0 w : World} (h : Has (MrgT p st n) w0 w) (hn : n ≤ 10000) (hf : Few st) {ks : List Int} (hks : KeysIs (pubF st) ks) (d : List UInt8) (rd : Int) :
    Calls Tryz.prog 25 #[.pointer (some ⟨p, 0, none⟩), .string (bstr d), .int .i64 rd] w (GivesRows rcK w (picks st ks (late d rd))) := by
  obtain ⟨vp, vo, vk, vc, hm⟩ := h.mrg
  refine (lates_any hm hn d rd hf).mono ?_
  rintro e w' ⟨v, ks', rfl, h1, h2, h3⟩
  rw [keys_unique h1 hks] at h2
  exact ⟨v, rfl, h2, h3⟩
theorem evids_has {p : Nat} {st : Mst} {n : Nat} {w0 w : World} (h : Has (MrgT p st n) w0 w) (hn : n ≤ 10000) (hf : Few st) {ks : List Int} (hks : KeysIs (pubF st) ks) (hE : Env w0) :
    Calls Tryz.prog 19 #[.pointer (some ⟨p, 0, none⟩)] w (GivesRows evK w (evids st ks)) := by
  obtain ⟨vp, vo, vk, vc, hm⟩ := h.mrg
  refine (evidences_any hm hn hf (hE.below h.base).1).mono ?_
  rintro e w' ⟨v, ks', rfl, h1, h2, h3⟩
  rw [keys_unique h1 hks] at h2
  exact ⟨v, rfl, h2, h3⟩
/-- the closure that takes a batch of kiosk 4 -/
def ptrRow (p : Nat) : Obj := .cells #[.pointer (some ⟨p, 0, none⟩)] 34 (0, 0)
set_option maxHeartbeats 1000000 in
theorem take4_has {p c : Nat} {st : Mst} {n : Nat} {Q : Thing} {w0 w : World} (h : Has ((MrgT p st n).both Q) w0 w) (hc : w.heap[c]? = some (ptrRow p)) (hE : Env w0) {v : Value} {cs : List Rc} (hA : LiesR rcK w v cs) (hs : SafeIn Q w0 w v) (hn : n + cs.length ≤ 10000) :
    Calls Tryz.prog 35 #[v, .pointer (some ⟨c, 0, none⟩)] w (Out1 ((MrgT p (st.take rver rch 4 cs).1 (n + cs.length)).both Q) w0 (.int .i64 (st.take rver rch 4 cs).2)) := by
  obtain ⟨ao, cap, hv⟩ : ∃ ao cap, v = .slice ao cs.length cap := by
    obtain ⟨ao, cap, h | h⟩ := hA.slice rfl
    · exact ⟨ao, cap, h.1⟩
    · exact ⟨ao, cap, h.1⟩
  have CT := Lib.hid (take_has h hE 4 (by decide) hA hs hn)
  obtain ⟨N, hN⟩ : ∃ N, cs.length = N := ⟨_, rfl⟩
  rw [hN] at hv
  subst hv
  have c0 := (cell_of_row _ _ 0 _ _ _ hc).trans rfl
  obtain ⟨R, hR⟩ : ∃ R, st.take rver rch 4 cs = R := ⟨_, rfl⟩
  rw [hR] at CT ⊢
  obtain ⟨r, hr⟩ : ∃ r, R.2 = r := ⟨_, rfl⟩
  rw [hr] at CT ⊢
  clear h hA hs hn hE hR hr hc hN
  go_enter Tryz.func35, Tryz.ntmps35
  go_wp2_with fail
  refine CT.out.mono ?_
  rintro e w' ⟨rfl, hh⟩
  go_wp2_with fail
  go_ret
  exact ⟨rfl, hh⟩
/-! a batch that is written out -/
theorem lies_new {P : Program} {α : Type} {R : Rk P α} {w : World} {b n : Nat} {xs : List α} {fr : Nat × Nat} (h : w.heap[b]? = some (.cells (R.cells xs).toArray R.ty fr)) (hn : xs.length = n) (hok : ∀ x ∈ xs, R.ok x) : LiesR R w (.slice (some ⟨b, 0, none⟩) n n) xs :=
  ⟨hok, .inr ⟨b, 0, n, by rw [hn], by omega, (Array.getElem?_eq_some_iff.1 h).1, fun j v hv => by
    rw [Nat.zero_add, cell_of_row _ _ _ _ _ _ h, List.getElem?_toArray]; exact hv⟩⟩
theorem take4_new {p c : Nat} {st : Mst} {n : Nat} {Q : Thing} {w0 w : World} (h : Has ((MrgT p st n).both Q) w0 w) (hc : w.heap[c]? = some (ptrRow p)) (hE : Env w0) {cs : List Rc} {N : Nat} (hN : cs.length = N) (hok : ∀ x ∈ cs, RcOk x) (hn : n + N ≤ 10000) {r : Mst × Int} (hr : st.take rver rch 4 cs = r) :
    Calls Tryz.prog 35 #[.slice (some ⟨w.heap.size, 0, none⟩) N N, .pointer (some ⟨c, 0, none⟩)] (w.alloc (.cells (rcK.cells cs).toArray rcK.ty)) (Out1 ((MrgT p r.1 (n + N)).both Q) w0 (.int .i64 r.2)) := by
  have bz : Below w.heap.size w (w.alloc (.cells (rcK.cells cs).toArray rcK.ty)) := (Below.refl _ _).alloc (Nat.le_refl _) _
  have hb := heap_alloc_new w (.cells (rcK.cells cs).toArray rcK.ty)
  have h2 := (h.newBlk bz hb (Nat.le_refl _)).assoc
  have hl : LiesR rcK (w.alloc (.cells (rcK.cells cs).toArray rcK.ty)) (.slice (some ⟨w.heap.size, 0, none⟩) N N) cs := lies_new (R := rcK) hb hN hok
  have := take4_has h2 (heap_below hc bz) hE hl (fun b hb => by
    right
    have e : w.heap.size = b := by simpa [sliceBlk] using hb
    rw [← e]
    exact Holds.right Holds.blk) (by rw [hN]; exact hn)
  rw [hr, hN] at this
  exact this.mono fun e w' ⟨h1, h2⟩ => ⟨h1, h2.assoc'.left⟩
/-- a literal of two elements -/
theorem wpList_build_r2 {P : Program} {α : Type} {ops : Array Oper} {rest : List Oper} {o : Oper} {a : Act} {w : World} {Q : Exit → Act → World → Prop} (R : Rk P α) (hg : o.guard = none) (x y : Operand) (hop : o.op = Op.buildSlice R.sl 2 #[(0, x), (1, y)]) {c d : α} (hc : R.ok c) (hd : R.ok d) (u v : Value) (hx : a.eval x = u) (hy : a.eval y = v) (hu : u.cells = (R.enc c).toArray) (hv : v.cells = (R.enc d).toArray)
    (h : wpList P ops Q rest (a.put o.dst (.slice (some ⟨w.heap.size, 0, none⟩) 2 2)) (w.alloc (.cells (R.cells [c, d]).toArray R.ty))) : wpList P ops Q (o :: rest) a w := by
  obtain ⟨i0, hi, hz0, hz1, hz2⟩ := info_parts R.info
  have hp := R.pos
  have hsm := R.small
  have hf := Great.fill_whole (s := R.size) R.pos [u, v] ((Array.range (2 * R.size)).map (R.zero.cells[· % R.zero.cells.size]!)) (fun z hz => by
    simp only [List.mem_cons, List.not_mem_nil, or_false] at hz
    rcases hz with rfl | rfl
    · rw [hu, List.size_toArray, R.len hc]
    · rw [hv, List.size_toArray, R.len hd]) (by simp)
  have e2 : ([u, v].flatMap fun z => z.cells.toList).toArray = (R.cells [c, d]).toArray := by simp [hu, hv, Rk.cells]
  rw [e2] at hf
  have hr := run_buildSlice (P := P) w R.sl R.ty 2 #[(0, u), (1, v)] (R.cells [c, d]).toArray i0 _ R.und hi hz0 (by rw [hz1]; omega) (by rw [hz1]; omega) (by rw [hz1]; exact hf)
  refine wpList_plain hg fun K' hK' => ?_
  unfold Oper.wp
  simp [execOp, hop, hx, hy, hr, Result.andThen]
  exact hK' _ _ h
theorem cells_one {P : Program} {α : Type} (R : Rk P α) (x : α) : R.cells [x] = R.enc x := by simp [Rk.cells]
/-- what the drawn regions of sanity look at: the closure's variable, and the five receipts -/
def SanS (c p g cap : Nat) (L : List Rc) (w : World) : Prop := w.heap[c]? = some (ptrRow p) ∧ LiesR rcK w (.slice (some ⟨g, 0, none⟩) L.length cap) L
theorem SanS.below {c p g cap : Nat} {L : List Rc} {w w' : World} (h : SanS c p g cap L w) (hb : Below w.heap.size w w') : SanS c p g cap L w' := ⟨heap_below h.1 hb, h.2.below hb⟩
theorem SanS.load {c p g cap : Nat} {L : List Rc} {w : World} (h : SanS c p g cap L w) {k : Nat} {x : Rc} (hx : L[k]? = some x) {o : Nat} (ho : o = k * 102) : (loadVar 31 ⟨g, o, none⟩).run Tryz.prog w = .ok (.agg (rcArr x)) w := by
  obtain ⟨h1, h2, h3⟩ := rc_row_at h.2 hx
  rw [ho]
  rw [Nat.zero_add] at h1
  exact load_rc_at h2 h1
theorem SanS.ptr {c p g cap : Nat} {L : List Rc} {w : World} (h : SanS c p g cap L w) : (loadVar 34 ⟨c, 0, none⟩).run Tryz.prog w = .ok (.pointer (some ⟨p, 0, none⟩)) w := by
  have c0 := (cell_of_row _ _ 0 _ _ _ h.1).trans rfl
  go_simp
abbrev SanQ (c p g cap : Nat) (L : List Rc) : Thing := (BlkT c (ptrRow p)).both (RowsT rcK (.slice (some ⟨g, 0, none⟩) L.length cap) L)
theorem SanS.of_has {c p g cap n : Nat} {L : List Rc} {st : Mst} {w0 w : World} (h : Has ((MrgT p st n).both (SanQ c p g cap L)) w0 w) : SanS c p g cap L w := ⟨h.right.left.blk, h.right.right.rows.lies⟩
/-- the beginning of a slice -/
theorem lies_take {P : Program} {α : Type} {R : Rk P α} {w : World} {g o n cap k : Nat} {xs : List α} (h : LiesR R w (.slice (some ⟨g, o, none⟩) n cap) xs) (hk : k ≤ xs.length) : LiesR R w (.slice (some ⟨g, o, none⟩) k cap) (xs.take k) := by
  refine ⟨fun x hx => h.1 x (List.mem_of_mem_take hx), ?_⟩
  rcases h.2 with ⟨rfl, ao, c, e⟩ | ⟨g', o', c, e, h1, h2, h3⟩
  · have : k = 0 := by simpa using hk
    subst this
    exact .inl ⟨rfl, _, _, rfl⟩
  · injection e with e1 e2 e3
    injection e1 with e1
    injection e1 with e1 e4
    subst e1 e4 e3
    have hl : (xs.take k).length = k := by rw [List.length_take]; omega
    refine .inr ⟨g, o, cap, by rw [hl], by omega, h2, fun j v hv => h3 j v ?_⟩
    have hx : xs = xs.take k ++ xs.drop k := (List.take_append_drop k xs).symm
    rw [hx, R.cells_append, List.getElem?_append_left (List.getElem?_eq_some_iff.1 hv).1]
    exact hv
theorem lies_cap {P : Program} {α : Type} {R : Rk P α} {w : World} {ao : Option Addr} {n cap : Nat} {xs : List α} (h : LiesR R w (.slice ao n cap) xs) (hn : 0 < xs.length) : xs.length ≤ cap := by
  rcases h.2 with ⟨rfl, _⟩ | ⟨g, o, c, e, h1, _⟩
  · simp at hn
  · injection e with _ _ e3
    subst e3
    exact h1
end Go.Proofs.YtpblfpnldbdncaaGreatDoor
namespace Go.Proofs.YtpblfpnldbdncaaGreatDoor
open Go.RowKit Go.Sort Go.Maps
open Sg (Rc)
open Mg (H Sale Pos zeroH)
set_option linter.unusedVariables false
set_option maxRecDepth 100000
/-- what the drawn region of a round looks at -/
def SalS (S N P q : Nat) (f g : Nat → Int) (pv : Nat → H) (x : Sale) (W : World) : Prop :=
  W.heap[S]? = some (.cells (quad f) 141 (0, 0)) ∧ W.heap[N]? = some (.cells (quad g) 141 (0, 0)) ∧ W.heap[P]? = some (.cells (prevL pv).toArray 142 (0, 0)) ∧ W.heap[q]? = some (.cells (saleList x).toArray 91 (0, 0))
theorem SalS.below {S N P q : Nat} {f g : Nat → Int} {pv : Nat → H} {x : Sale} {W W' : World} (h : SalS S N P q f g pv x W) (hb : Below W.heap.size W W') : SalS S N P q f g pv x W' :=
  ⟨heap_below h.1 hb, heap_below h.2.1 hb, heap_below h.2.2.1 hb, heap_below h.2.2.2 hb⟩
theorem load_i64 {W : World} {b o : Nat} {z : Int} (c0 : W.cell? ⟨b, o, none⟩ = some (.int .i64 z)) : (loadVar 3 ⟨b, o, none⟩).run Tryz.prog W = .ok (.int .i64 z) W := by go_simp
theorem load_u8 {W : World} {b o : Nat} {z : Int} (c0 : W.cell? ⟨b, o, none⟩ = some (.int .u8 z)) : (loadVar 5 ⟨b, o, none⟩).run Tryz.prog W = .ok (.int .u8 z) W := by go_simp
theorem SalS.ser {S N P q : Nat} {f g : Nat → Int} {pv : Nat → H} {x : Sale} {W : World} (h : SalS S N P q f g pv x W) {n : Nat} (hn : n < 4) {z : Int} (hz : f n = z) : (loadVar 3 ⟨S, n, none⟩).run Tryz.prog W = .ok (.int .i64 z) W :=
  load_i64 (by rw [cell_of_row _ _ _ _ _ _ h.1, quad_get _ hn, hz])
theorem SalS.seen {S N P q : Nat} {f g : Nat → Int} {pv : Nat → H} {x : Sale} {W : World} (h : SalS S N P q f g pv x W) {n : Nat} (hn : n < 4) {z : Int} (hz : g n = z) : (loadVar 3 ⟨N, n, none⟩).run Tryz.prog W = .ok (.int .i64 z) W :=
  load_i64 (by rw [cell_of_row _ _ _ _ _ _ h.2.1, quad_get _ hn, hz])
theorem SalS.draw {S N P q : Nat} {f g : Nat → Int} {pv : Nat → H} {x : Sale} {W : World} (h : SalS S N P q f g pv x W) : (loadVar 5 ⟨q, 1, none⟩).run Tryz.prog W = .ok (.int .u8 (x.draw : Int)) W :=
  load_u8 ((cell_of_row _ _ 1 _ _ _ h.2.2.2).trans rfl)
theorem SalS.prev {S N P q : Nat} {f g : Nat → Int} {pv : Nat → H} {x : Sale} {W : World} (h : SalS S N P q f g pv x W) (hl : ∀ i, (pv i).length = 32) {n : Nat} (hn : n < 4) {p : H} (hp : pv n = p) : (loadVar 27 ⟨P, n * 32, none⟩).run Tryz.prog W = .ok (.agg (hashArr p)) W := by
  have h1 := prevL_at hl hn h.2.2.1
  rw [hp] at h1
  exact load_hash_at (by rw [← hp]; exact hl n) h1
theorem Turned.setCell {F : Nat → Prop} {w w' : World} (h : Turned F w w') {b : Nat} (hb : F b ∨ w.heap.size ≤ b) (o : Nat) (v : Value) : Turned F w (w'.setCell ⟨b, o, none⟩ v) :=
  h.more (grownBy_setCellP w' b o v) (fun k e => by injection e with e; subst e; exact hb)
theorem Turned.setCells {F : Nat → Prop} {w : World} {b : Nat} (hb : F b ∨ w.heap.size ≤ b) : ∀ (vs : List Value) (o : Nat) {w' : World}, Turned F w w' → Turned F w (w'.setCells b o vs)
  | [], _, _, h => h
  | v :: r, o, _, h => Turned.setCells hb r (o + 1) (h.setCell hb o v)
theorem Turned.later {F : Nat → Prop} {w w1 w2 : World} (h : Turned F w w1) (hb : Below w1.heap.size w1 w2) : Turned F w w2 := h.trans (Turned.of_below (F := fun _ => False) hb) (fun k f => f.elim)
theorem Turned.setRow {F : Nat → Prop} {w w' : World} (h : Turned F w w') {b : Nat} (hb : F b ∨ w.heap.size ≤ b) (cs : Array Value) : Turned F w (w'.setRow b cs) :=
  h.more (row := some b) ⟨rfl, rfl, rfl, by simp, fun k _ hk => setRow_other w' b k cs (fun e => hk (by rw [e]))⟩ (fun k e => by injection e with e; subst e; exact hb)
/-- in the middle of a round: the receipt lies in block r -/
structure SalMid (w wx : World) (S N P q r : Nat) (f g : Nat → Int) (pv : Nat → H) (x : Sale) (v : Value) (L : List Rc) (R : Rc) : Prop where
  at4 : SalS S N P q f g pv x wx
  rc : wx.heap[r]? = some (.cells (rcArr R) 31 (0, 0))
  row : OwnsR rcK wx (w.heap.size + 3) v L
  below : Below w.heap.size w wx
  ne : ∀ b, v.ownBlock = some b → b ≠ r
  lo : w.heap.size + 3 ≤ r ∧ S < r ∧ N < r ∧ P < r ∧ q < r
  nz : L = [] → v = .slice none 0 0
theorem SalMid.put {w wx wx' : World} {S N P q r : Nat} {f g : Nat → Int} {pv : Nat → H} {x : Sale} {v : Value} {L : List Rc} {R R' : Rc} (h : SalMid w wx S N P q r f g pv x v L R) (ht : Turned (fun k => k = r) wx wx')
    (hr : wx'.heap[r]? = some (.cells (rcArr R') 31 (0, 0))) : SalMid w wx' S N P q r f g pv x v L R' := by
  obtain ⟨l1, l2, l3, l4, l5⟩ := h.lo
  have key : ∀ {k : Nat} {o : Obj}, wx.heap[k]? = some o → k < r → wx'.heap[k]? = some o := fun {k o} hk hlt => (ht.block k (rc_block_lt hk) (by omega)).trans hk
  refine ⟨⟨key h.at4.1 l2, key h.at4.2.1 l3, key h.at4.2.2.1 l4, key h.at4.2.2.2 l5⟩, hr, ⟨h.row.1, row_turned h.row.2 ht fun k hk => h.ne k hk⟩, h.below.trans (ht.below h.below.size fun k hk => by omega), h.ne, h.lo, h.nz⟩
theorem SalMid.later {w wx wx' : World} {S N P q r : Nat} {f g : Nat → Int} {pv : Nat → H} {x : Sale} {v : Value} {L : List Rc} {R : Rc} (h : SalMid w wx S N P q r f g pv x v L R) (hb : Below wx.heap.size wx wx') : SalMid w wx' S N P q r f g pv x v L R :=
  h.put (Turned.of_below hb) (heap_below h.rc hb)
theorem SalMid.lt {w wx : World} {S N P q r : Nat} {f g : Nat → Int} {pv : Nat → H} {x : Sale} {v : Value} {L : List Rc} {R : Rc} (h : SalMid w wx S N P q r f g pv x v L R) : r < wx.heap.size := rc_block_lt h.rc
theorem SalMid.nums {w wx : World} {S N P q r : Nat} {f g : Nat → Int} {pv : Nat → H} {x : Sale} {v : Value} {L : List Rc} {R : Rc} (h : SalMid w wx S N P q r f g pv x v L R) :
    wx.cell? ⟨r, 1, none⟩ = some (.int .i64 R.serial) ∧ wx.cell? ⟨r, 3, none⟩ = some (.int .i64 R.seen) ∧ wx.frozen? ⟨r, 1, none⟩ = false ∧ wx.frozen? ⟨r, 3, none⟩ = false ∧ wx.cell? ⟨q, 3, none⟩ = some (.int .u8 (x.stamp : Int)) ∧ wx.cell? ⟨q, 4, none⟩ = some (.int .u8 (x.wrong : Int)) := by
  have h1 := (RcAt.of_row h.rc).serial
  have h3 := (RcAt.of_row h.rc).seen
  rw [Nat.zero_add] at h1 h3
  exact ⟨h1, h3, frozen_of_row _ _ _ _ _ h.rc, frozen_of_row _ _ _ _ _ h.rc, (cell_of_row _ _ 3 _ _ _ h.at4.2.2.2).trans rfl, (cell_of_row _ _ 4 _ _ _ h.at4.2.2.2).trans rfl⟩
/-- a row that an append has made lies in no block that held one receipt -/
theorem append_ne {W w8 : World} {B r : Nat} {v v' : Value} {L : List Rc} {E R : Rc} {t : TypeId} {fr : Nat × Nat} (h8 : OwnsR rcK w8 B v' (L ++ [E])) (hg : W.grownBy w8 v.ownBlock) (hr : W.heap[r]? = some (.cells (rcArr R) t fr)) (hR : RcOk R)
    (hne : ∀ b, v.ownBlock = some b → b ≠ r) (hB : L = [] → r < B) : ∀ b, v'.ownBlock = some b → b ≠ r := by
  rintro b hb rfl
  have hk : w8.heap[b]? = some (.cells (rcArr R) t fr) := (hg.block b (rc_block_lt hr) (fun e => hne b e.symm rfl)).trans hr
  have hlen : (L ++ [E]).length = L.length + 1 := by rw [List.length_append]; rfl
  obtain ⟨h1, h2⟩ := h8.2
  rcases h2 with ⟨rfl, _⟩ | ⟨g, cap, cur, rfl, g1, g2, g3, g4, g5, g6⟩
  · cases hb
  · have e : g = b := by simpa [Value.ownBlock] using hb
    subst e
    rw [hk] at g2
    injection g2 with g2
    injection g2 with g2 _ _
    have hs : (rcArr R).size = 102 := rcArr_size hR
    have hc : cap = 1 := by
      have : cur.size = cap * 102 := by first | assumption | omega
      rw [← g2, hs] at this
      omega
    have hL : L = [] := by
      cases L with
      | nil => rfl
      | cons x L =>
        rw [List.length_cons] at hlen
        omega
    have := hB hL
    omega
/-! bytes of a receipt's hashes -/
theorem hcl_get {l : List UInt8} {k : Nat} (hk : k < l.length) : (hcl l)[k]? = some (.int .u8 ((l.getD k 0).toNat : Int)) := by
  unfold hcl
  rw [List.getElem?_map, List.getElem?_eq_getElem hk, List.getD_eq_getElem?_getD, List.getElem?_eq_getElem hk]
  rfl
theorem rc_byte {w : World} {r : Nat} {R : Rc} {t : TypeId} (hR : RcOk R) (h : w.heap[r]? = some (.cells (rcArr R) t (0, 0))) {k : Nat} (hk : k < 32) :
    w.cell? ⟨r, 4 + k, none⟩ = some (.int .u8 ((R.output.getD k 0).toNat : Int)) ∧ w.cell? ⟨r, 36 + k, none⟩ = some (.int .u8 ((R.hash.getD k 0).toNat : Int)) ∧ w.cell? ⟨r, 68 + k, none⟩ = some (.int .u8 ((R.prev.getD k 0).toNat : Int)) := by
  have h0 := RcAt.of_row h
  have a := RcAt.output (o := 0) h0 k _ (hcl_get (by rw [hR.output]; exact hk))
  have b := RcAt.hash (o := 0) h0 hR k _ (hcl_get (by rw [hR.hash]; exact hk))
  have c := RcAt.prev (o := 0) h0 hR k _ (hcl_get (by rw [hR.prev]; exact hk))
  rw [Nat.zero_add] at a b c
  exact ⟨a, b, c⟩
theorem flip_byte (b : UInt8) : bits BinOp.xor IntKind.u8 (b.toNat : Int) 1 = ((b ^^^ 1).toNat : Int) := by
  have := u8_xor_nat b.toNat 1 b.toNat_lt (by omega)
  rw [show ((1 : Nat) : Int) = 1 from rfl] at this
  rw [this, UInt8.toNat_xor]
  rfl
theorem run_build_h0 (w : World) : (Instr.build 27 #[]).run Tryz.prog w = .ok (.agg (hashArr zeroH)) w := by
  obtain ⟨i0, hi, hz0, hz1, hz2⟩ := info_parts hash_infos'
  simp [Instr.build, Instr.fill, zeroValue, typeInfo, hi, hz0, run_underlying Tryz.underlying27, Tryz.sizeOf5, Result.andThen, Value.cells]
theorem int_t {a : Nat} {c : Int} (h : (a : Int) = c) : (((a : Int)) == c) = true := by simpa using h
theorem int_f {a : Nat} {c : Int} (h : (a : Int) ≠ c) : (((a : Int)) == c) = false := by simpa using h
structure SalAt (w wx : World) (S N P : Nat) (v : Value) (l : List Sale) (k : Nat) : Prop where
  ser : wx.heap[S]? = some (.cells (quad fun i => (gst pos0 (l.take k) i).serial) 141 (0, 0))
  seen : wx.heap[N]? = some (.cells (quad fun i => (gst pos0 (l.take k) i).seen) 141 (0, 0))
  prev : wx.heap[P]? = some (.cells (prevL fun i => (gst pos0 (l.take k) i).prev).toArray 142 (0, 0))
  row : OwnsR rcK wx (w.heap.size + 3) v (gsales pos0 (l.take k))
  len : (gsales pos0 (l.take k)).length ≤ 2 * k
  below : Below w.heap.size w wx
  size : w.heap.size + 3 ≤ wx.heap.size
  nz : gsales pos0 (l.take k) = [] → v = .slice none 0 0
theorem sal_start (w : World) (l : List Sale) : SalAt w (((w.alloc (.cells #[.int .i64 0, .int .i64 0, .int .i64 0, .int .i64 0] 141)).alloc (.cells #[.int .i64 0, .int .i64 0, .int .i64 0, .int .i64 0] 141)).alloc (.cells (prevL fun _ => zeroH).toArray 142)) w.heap.size (w.heap.size + 1) (w.heap.size + 1 + 1) (.slice none 0 0) l 0 := by
  have x1 := heap_alloc_new w (.cells #[.int .i64 0, .int .i64 0, .int .i64 0, .int .i64 0] 141)
  have b1 : Below w.heap.size w (w.alloc (.cells #[.int .i64 0, .int .i64 0, .int .i64 0, .int .i64 0] 141)) := (Below.refl _ _).alloc (Nat.le_refl _) _
  have z1 : (w.alloc (.cells #[.int .i64 0, .int .i64 0, .int .i64 0, .int .i64 0] 141)).heap.size = w.heap.size + 1 := by simp
  generalize w.alloc (.cells #[.int .i64 0, .int .i64 0, .int .i64 0, .int .i64 0] 141) = W1 at *
  have x2 := heap_alloc_new W1 (.cells #[.int .i64 0, .int .i64 0, .int .i64 0, .int .i64 0] 141)
  have b2 : Below W1.heap.size W1 (W1.alloc (.cells #[.int .i64 0, .int .i64 0, .int .i64 0, .int .i64 0] 141)) := (Below.refl _ _).alloc (Nat.le_refl _) _
  have z2 : (W1.alloc (.cells #[.int .i64 0, .int .i64 0, .int .i64 0, .int .i64 0] 141)).heap.size = W1.heap.size + 1 := by simp
  generalize W1.alloc (.cells #[.int .i64 0, .int .i64 0, .int .i64 0, .int .i64 0] 141) = W2 at *
  have x3 := heap_alloc_new W2 (.cells (prevL fun _ => zeroH).toArray 142)
  have b3 : Below W2.heap.size W2 (W2.alloc (.cells (prevL fun _ => zeroH).toArray 142)) := (Below.refl _ _).alloc (Nat.le_refl _) _
  have z3 : (W2.alloc (.cells (prevL fun _ => zeroH).toArray 142)).heap.size = W2.heap.size + 1 := by simp
  have y1 := heap_below (heap_below x1 b2) b3
  have y2 := heap_below x2 b3
  rw [z1] at x2 y2
  rw [z2, z1] at x3
  exact ⟨by rw [List.take_zero]; exact y1, by rw [List.take_zero]; exact y2, by rw [List.take_zero]; exact x3, OwnsR.nil _ _ _, by rw [List.take_zero]; exact Nat.le_refl 0, below_join (below_join b1 b2) b3, by omega, fun _ => rfl⟩
end Go.Proofs.YtpblfpnldbdncaaGreatDoor
