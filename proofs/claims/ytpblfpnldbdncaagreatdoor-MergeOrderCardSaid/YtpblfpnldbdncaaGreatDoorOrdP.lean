/- Plain: receipts by numbers without clones, in any order, and rounds that are learned in any order. -/
import Derived.Test.YtpblfpnldbdncaaGreatDoorG24
import Derived.Test.YtpblfpnldbdncaaGreatDoorEncP
namespace Go.Proofs.YtpblfpnldbdncaaGreatDoor
open Go.RowKit Go.Sort Go.Maps
open Sg (Rc)
open Mg (Mst Jd H Pap Sale Pos zeroH)
set_option linter.unusedVariables false
set_option maxRecDepth 100000
/-- as it would be without a clone, another secret or another number -/
def plainS (x : Sale) : Sale := if x.wrong % 24 = 4 ∨ x.wrong % 24 = 5 ∨ x.wrong % 24 = 6 then { x with wrong := 0 } else x
def plainAll (l : List Sale) : List Sale := l.map plainS
theorem plainAll_snoc (l : List Sale) (x : Sale) : plainAll (l ++ [x]) = plainAll l ++ [plainS x] := by simp [plainAll]
theorem plainS_wrong (x : Sale) : (plainS x).wrong % 24 ≠ 4 ∧ (plainS x).wrong % 24 ≠ 5 ∧ (plainS x).wrong % 24 ≠ 6 := by
  unfold plainS
  split
  · exact ⟨by show 0 % 24 ≠ 4; omega, by show 0 % 24 ≠ 5; omega, by show 0 % 24 ≠ 6; omega⟩
  · rename_i h
    omega
theorem plainS_kiosk (x : Sale) : (plainS x).kiosk = x.kiosk := by
  unfold plainS
  split <;> rfl
theorem gsales_plain (l : List Sale) : ∀ st, gsales st (plainAll l) = Mg.gen (fun x p => gfin (plainS x) p) (fun x p => gnext (plainS x) p) st l := by
  induction l with
  | nil => intro st; rfl
  | cons x l ih =>
    intro st
    have e1 : gextra (plainS x) (st ((plainS x).kiosk % 4)) = [] := by unfold gextra; rw [if_neg (plainS_wrong x).1]
    show gsales st (plainS x :: plainAll l) = _
    rw [gsales, e1, plainS_kiosk, ih]
    rfl
structure OrdA (A : List Rc) : Prop where
  sm : ∀ r ∈ A, RcSm r
  right : ∀ r ∈ A, ∃ n < 4, r.kiosk = ((n : Nat) : Int) ∧ 1 ≤ r.serial ∧ rver ((pubK n : Nat) : Int) r = true
  sole : Mg.Sole fun x => x ∈ A
  len : A.length ≤ 24
theorem ord_mem (l : List Sale) : ∀ st k, PosOk st k → k + l.length ≤ 24 → ∀ r ∈ gsales st (plainAll l), RcSm r ∧ ∃ n < 4, r.kiosk = ((n : Nat) : Int) ∧ 1 ≤ r.serial ∧ rver ((pubK n : Nat) : Int) r = true := by
  induction l with
  | nil => intro st k _ _ r hr; cases hr
  | cons x l ih =>
    intro st k hp hk r hr
    rw [List.length_cons] at hk
    obtain ⟨w4, w5, w6⟩ := plainS_wrong x
    have e1 : gextra (plainS x) (st ((plainS x).kiosk % 4)) = [] := by unfold gextra; rw [if_neg w4]
    change r ∈ gsales st (plainS x :: plainAll l) at hr
    rw [gsales, e1, List.nil_append] at hr
    generalize plainS x = y at hr w4 w5 w6
    rcases List.mem_cons.1 hr with rfl | hr
    · obtain ⟨a1, a2⟩ := hp.ser (y.kiosk % 4)
      obtain ⟨b1, b2⟩ := hp.seen (y.kiosk % 4)
      have hx3 : y.seen % 3 ≤ 2 := by omega
      have es : gsec (y.wrong % 24) (y.kiosk % 4) = 5000 + 3 * (y.kiosk % 4) := by unfold gsec; rw [if_neg w5]
      have sm := gbase_sm (x := y) hp (by omega)
      have sm2 := gbent_sm sm (y.wrong % 24) (by show (st (y.kiosk % 4)).serial + 1 ≤ 900; omega) (by show (st (y.kiosk % 4)).seen + ((y.seen % 3 : Nat) : Int) ≤ 900; omega)
      refine ⟨?_, y.kiosk % 4, Nat.mod_lt _ (by omega), gfin_kiosk _ _, ?_, ?_⟩
      · unfold gfin
        exact signed_sm 1152921504606845789 2305843009213691579 _ rfl rfl sm2
      · rw [gfin_serial _ _ w6]
        omega
      · unfold gfin
        rw [es]
        exact rver_k _ _
    · exact ih _ _ (hp.step y) (by omega) r hr
theorem gen_length {g : Sale → Pos → Rc} {nx : Sale → Pos → Pos} (l : List Sale) : ∀ st, (Mg.gen g nx st l).length = l.length := by
  induction l with
  | nil => intro st; rfl
  | cons x l ih => intro st; simp only [Mg.gen, List.length_cons, ih]
/-- the receipts of the law -/
def ordL (l : List Sale) : List Rc := gall (plainAll l)
theorem ordA (l : List Sale) : OrdA (ordL l) := by
  have e : ordL l = gsales pos0 (plainAll (l.take 24)) := by unfold ordL gall plainAll; rw [List.map_take]
  have hm := ord_mem (l.take 24) pos0 0 pos0_ok (by rw [List.length_take]; omega)
  refine ⟨fun r hr => (hm r (by rw [← e]; exact hr)).1, fun r hr => (hm r (by rw [← e]; exact hr)).2, ?_, ?_⟩
  · rw [e, gsales_plain]
    exact Mg.gen_sole (fun x p => ⟨by rw [gfin_kiosk, plainS_kiosk], gfin_serial _ _ (plainS_wrong x).2.2, rfl⟩) _ _
  · rw [e, gsales_plain, gen_length, List.length_take]
    omega
/-- some of the receipts have arrived, and some rounds are known -/
structure OrdS (A L : List Rc) (K : Int → Prop) (st : Mst) : Prop where
  keeps : Keeps st L
  sub : ∀ r ∈ L, r ∈ A ∧ r.kiosk ≠ 0
  outs : st.OutsAre outHash K
  pub : st.pub = pubOf (kiosksL 3)
  cl : st.clones = fun _ => none
theorem ord_new (A : List Rc) : OrdS A [] (fun _ => False) (newSt (kiosksL 3)) := ⟨new_keeps _, fun r hr => (by cases hr), new_outs _, rfl, rfl⟩
theorem ord_take {A L : List Rc} {K : Int → Prop} {st : Mst} (hA : OrdA A) (h : OrdS A L K st) {r : Rc} (hr : r ∈ A) :
    ∃ L' st' e, st.take rver rch r.kiosk [r] = (st', e) ∧ OrdS A L' K st' ∧ (∀ x ∈ L, x ∈ L') ∧ (r.kiosk ≠ 0 → r ∈ L') := by
  obtain ⟨n, hn, e, s1, v⟩ := hA.right r hr
  by_cases h0 : n = 0
  · subst h0
    have hp : st.pub r.kiosk = none := by
      have hk := keys3 h.pub
      cases hc : st.pub r.kiosk with
      | none => rfl
      | some y =>
        have := (hk.2 r.kiosk).2 ⟨(hA.sm r hr).ok.kiosk, by unfold pubF; rw [hc]; rfl⟩
        rw [e] at this
        simp at this
    exact ⟨L, st, 34, Mg.take_none hp, h, fun x hx => hx, fun h1 => absurd e h1⟩
  · have hp : st.pub r.kiosk = some ((pubK n : Nat) : Int) := by rw [h.pub, e]; exact pub3_k n (by omega) (by omega)
    obtain ⟨st1, t1, k1, p1, o1, n1⟩ := take_plain (l := [r]) (L' := L ++ [r]) h.keeps hp (fun x hx => by
      have : x = r := by simpa using hx
      subst this
      exact ⟨rfl, s1, v⟩) (hA.sole.sub fun x hx => by
      rcases hx with hx | hx
      · exact (h.sub x hx).1
      · have : x = r := by simpa using hx
        subst this
        exact hr) (fun x => List.mem_append)
    refine ⟨L ++ [r], st1, _, t1, ⟨k1, fun x hx => ?_, fun k y => by rw [o1]; exact h.outs k y, p1.trans h.pub, n1.trans h.cl⟩, fun x hx => List.mem_append.2 (.inl hx), fun _ => List.mem_append.2 (.inr (by simp))⟩
    rcases List.mem_append.1 hx with hx | hx
    · exact h.sub x hx
    · have : x = r := by simpa using hx
      subst this
      exact ⟨hr, by rw [e]; omega⟩
theorem ord_learn {A L : List Rc} {K : Int → Prop} {st : Mst} (h : OrdS A L K st) (rd : Int) : OrdS A L (fun k => K k ∨ (k = rd ∧ 1 ≤ rd)) (st.learn rd (outHash rd)).1 := by
  obtain ⟨h1, h2, h3, h4⟩ := Mg.learn_ok h.outs rd
  exact ⟨fun k s x => by rw [h3]; exact h.keeps k s x, h.sub, h1, h2.trans h.pub, h4.trans h.cl⟩
theorem OrdS.congr {A L : List Rc} {K K' : Int → Prop} {st : Mst} (h : OrdS A L K st) (e : ∀ k, K k ↔ K' k) : OrdS A L K' st := ⟨h.keeps, h.sub, Mg.outs_congr h.outs e, h.pub, h.cl⟩
/-- all have arrived, and all rounds are known -/
structure OrdE (A : List Rc) (st : Mst) : Prop where
  keeps : st.KeptIs fun r => r ∈ A ∧ r.kiosk ≠ 0
  outs : st.OutsAre outHash fun k => 1 ≤ k ∧ k ≤ 50
  pub : st.pub = pubOf (kiosksL 3)
  cl : st.clones = fun _ => none
theorem OrdE.eq {A : List Rc} {s t : Mst} (h : OrdE A s) (h' : OrdE A t) : s = t :=
  Mg.state_eq h.keeps h'.keeps h.outs h'.outs (h.pub.trans h'.pub.symm) (h.cl.trans h'.cl.symm)
theorem OrdS.done {A L : List Rc} {K : Int → Prop} {st : Mst} (h : OrdS A L K st) (hL : ∀ r ∈ A, r.kiosk ≠ 0 → r ∈ L) (hK : ∀ k, K k ↔ 1 ≤ k ∧ k ≤ 50) : OrdE A st :=
  ⟨Mg.KeptIs.congr h.keeps fun r => ⟨fun hr => h.sub r hr, fun hr => hL r hr.1 hr.2⟩, Mg.outs_congr h.outs hK, h.pub, h.cl⟩
/-- the rounds of the last loop, in either order -/
def roundOf (n k : Nat) : Nat := (k * (1 + n * 2)) % 50 + 1
theorem rounds_all {n : Nat} (hn : n < 2) (r : Int) : (∃ k < 50, r = ((roundOf n k : Nat) : Int)) ↔ 1 ≤ r ∧ r ≤ 50 := by
  constructor
  · rintro ⟨k, hk, rfl⟩
    unfold roundOf
    have := Nat.mod_lt (k * (1 + n * 2)) (show 0 < 50 by omega)
    omega
  · rintro ⟨h1, h2⟩
    have hn2 : n = 0 ∨ n = 1 := by omega
    rcases hn2 with rfl | rfl
    · exact ⟨(r - 1).toNat, by omega, by unfold roundOf; omega⟩
    · exact ⟨((r - 1).toNat * 17) % 50, by omega, by unfold roundOf; omega⟩
/-- the places of the middle loop, in either order -/
theorem places_all {N n j : Nat} (hj : j < N) : ∃ k < N, (k + 7 * n) % N = j := by
  refine ⟨(j + (N - (7 * n) % N)) % N, Nat.mod_lt _ (by omega), ?_⟩
  have hm : (7 * n) % N < N := Nat.mod_lt _ (by omega)
  rw [Nat.add_mod, Nat.mod_mod, ← Nat.add_mod, show j + (N - 7 * n % N) + 7 * n = j + 7 * n + (N - 7 * n % N) by omega]
  have e : 7 * n = N * (7 * n / N) + 7 * n % N := (Nat.div_add_mod _ _).symm
  rw [show j + 7 * n + (N - 7 * n % N) = j + N * (7 * n / N + 1) by rw [Nat.mul_add]; omega, Nat.add_mul_mod_self_left]
  exact Nat.mod_eq_of_lt hj
end Go.Proofs.YtpblfpnldbdncaaGreatDoor
