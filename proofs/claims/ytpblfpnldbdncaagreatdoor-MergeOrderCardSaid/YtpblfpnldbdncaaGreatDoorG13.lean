/- Plain: the judgement of a list grows by one; the cells of judged receipts. The contract of merge's judge. -/
import Derived.Test.YtpblfpnldbdncaaGreatDoorG11
import Derived.Test.YtpblfpnldbdncaaGreatDoorG12
import Derived.Carry
import Derived.Deep.Cut
namespace Go.Proofs.YtpblfpnldbdncaaGreatDoor
open Go.RowKit Go.Sort Go.Maps
open Sg (Rc)
open Mg (Mst Jd Pap)
set_option linter.unusedVariables false
set_option maxRecDepth 100000
theorem mostOf_append (fits : Rc → Bool) (last : Option Jd) (most : Int) (l m : List Pap) :
    Mg.mostOf fits last most (l ++ m) = Mg.mostOf fits (Mg.lastOf last (Mg.judge fits last most l)) (Mg.mostOf fits last most l) m := by
  induction l generalizing last most with
  | nil => simp [Mg.judge, Mg.lastOf, Mg.mostOf]
  | cons p l ih =>
    simp only [List.cons_append, Mg.judge, Mg.mostOf]
    rw [ih]
    congr 1
    unfold Mg.lastOf
    rw [List.getLast?_cons]
    cases (Mg.judge fits (some (Mg.step fits last most p)) (Mg.most' last most p) l).getLast? <;> simp
theorem lastOf_none (l : List Jd) : Mg.lastOf none l = l.getLast? := by
  unfold Mg.lastOf
  cases l.getLast? <;> rfl
theorem judge_snoc (fits : Rc → Bool) (l : List Pap) (p : Pap) : Mg.judge fits none 0 (l ++ [p]) = Mg.judge fits none 0 l ++ [Mg.step fits (Mg.judge fits none 0 l).getLast? (Mg.mostOf fits none 0 l) p] := by
  rw [Mg.judge_append, lastOf_none]
  rfl
theorem most_snoc (fits : Rc → Bool) (l : List Pap) (p : Pap) : Mg.mostOf fits none 0 (l ++ [p]) = Mg.most' (Mg.judge fits none 0 l).getLast? (Mg.mostOf fits none 0 l) p := by
  rw [mostOf_append, lastOf_none]
  rfl
theorem judge_rc (fits : Rc → Bool) (last : Option Jd) (most : Int) (l : List Pap) : (Mg.judge fits last most l).map (fun j => (⟨j.rc, j.h⟩ : Pap)) = l := by
  induction l generalizing last most with
  | nil => rfl
  | cons p l ih => simp only [Mg.judge, List.map_cons, ih]; rfl
/-- what was seen most is a number of one of them -/
theorem most_mem (fits : Rc → Bool) (l : List Pap) : ∀ (last : Option Jd) (most : Int), Mg.mostOf fits last most l = most ∨ ∃ p ∈ l, Mg.mostOf fits last most l = p.rc.seen := by
  induction l with
  | nil => intro last most; exact .inl rfl
  | cons p l ih =>
    intro last most
    rcases ih (some (Mg.step fits last most p)) (Mg.most' last most p) with h | ⟨q, hq, h⟩
    · have : Mg.mostOf fits last most (p :: l) = Mg.most' last most p := h
      rw [this]
      unfold Mg.most'
      split
      · exact .inr ⟨p, by simp, rfl⟩
      · exact .inl rfl
    · exact .inr ⟨q, by simp [hq], h⟩
/-! cells of a judged receipt -/
theorem jd_get {j : Jd} (hj : JdOk j) : (jdList j)[134]? = some (.bool j.sound) ∧ (jdList j)[135]? = some (.bool j.back) ∧ (jdList j)[136]? = some (.bool j.counts) := by
  have e : ∀ i, (jdList j)[134 + i]? = (jdTail j)[i]? := by
    intro i
    unfold jdList
    rw [List.getElem?_append_right (by rw [rcList_length hj.rc]; omega), List.getElem?_append_right (by rw [rcList_length hj.rc, hcl_length, hj.h]; omega), rcList_length hj.rc, hcl_length, hj.h]
    congr 1
    omega
  exact ⟨(e 0).trans rfl, (e 1).trans rfl, (e 2).trans rfl⟩
theorem jd_rcAt {w : World} {b : Nat} {j : Jd} {o : Nat} (h : w.rangeAt b o (jdList j)) : RcAt w b o j.rc := by
  intro i v hv
  exact h i v (by unfold jdList; rw [List.getElem?_append_left (List.getElem?_eq_some_iff.1 hv).1]; exact hv)
theorem jd_range {w : World} {b : Nat} {j : Jd} {t : TypeId} {fr : Nat × Nat} (h : w.heap[b]? = some (.cells (jdArr j) t fr)) : w.rangeAt b 0 (jdList j) := by
  intro i v hv
  rw [Nat.zero_add, cell_of_row _ _ _ _ _ _ h, jdArr, List.getElem?_toArray]
  exact hv
theorem jd_hash {w : World} {b : Nat} {j : Jd} {o : Nat} (hj : JdOk j) (h : w.rangeAt b o (jdList j)) : w.rangeAt b (o + 102) (hcl j.h) := by
  intro i v hv
  have := h (102 + i) v (by
    unfold jdList
    rw [List.getElem?_append_right (by rw [rcList_length hj.rc]; omega), rcList_length hj.rc, List.getElem?_append_left (by rw [show 102 + i - 102 = i by omega]; exact (List.getElem?_eq_some_iff.1 hv).1), show 102 + i - 102 = i by omega]
    exact hv)
  rw [Nat.add_assoc]; exact this
theorem jd_set {j : Jd} (hj : JdOk j) (b : Bool) : (jdArr j).setIfInBounds 134 (.bool b) = jdArr { j with sound := b } ∧ (jdArr j).setIfInBounds 135 (.bool b) = jdArr { j with back := b } ∧ (jdArr j).setIfInBounds 136 (.bool b) = jdArr { j with counts := b } := by
  have l0 : (rcList j.rc ++ hcl j.h).length = 134 := by rw [List.length_append, rcList_length hj.rc, hcl_length, hj.h]
  have e : jdArr j = ((rcList j.rc ++ hcl j.h) ++ [Value.bool j.sound, Value.bool j.back, Value.bool j.counts]).toArray := by unfold jdArr jdList; rw [List.append_assoc]; rfl
  refine ⟨?_, ?_, ?_⟩
  · rw [e, set_mid (rcList j.rc ++ hcl j.h) [.bool j.back, .bool j.counts] (.bool j.sound) (.bool b) 134 l0.symm]
    unfold jdArr jdList; rw [List.append_assoc]; rfl
  · have := set_mid ((rcList j.rc ++ hcl j.h) ++ [.bool j.sound]) [.bool j.counts] (.bool j.back) (.bool b) 135 (by rw [List.length_append, l0]; rfl)
    rw [e, show (rcList j.rc ++ hcl j.h) ++ [Value.bool j.sound, .bool j.back, .bool j.counts] = ((rcList j.rc ++ hcl j.h) ++ [.bool j.sound]) ++ .bool j.back :: [.bool j.counts] by simp, this]
    unfold jdArr jdList jdTail
    simp
  · have := set_mid ((rcList j.rc ++ hcl j.h) ++ [.bool j.sound, .bool j.back]) [] (.bool j.counts) (.bool b) 136 (by rw [List.length_append, l0]; rfl)
    rw [e, show (rcList j.rc ++ hcl j.h) ++ [Value.bool j.sound, .bool j.back, .bool j.counts] = ((rcList j.rc ++ hcl j.h) ++ [.bool j.sound, .bool j.back]) ++ .bool j.counts :: [] by simp, this]
    unfold jdArr jdList jdTail
    simp
/-- a judged receipt and its receipt, in blocks of the round's own -/
structure JAt (W wx : World) (jb rb : Nat) (j : Jd) (c : Rc) : Prop where
  j : wx.heap[jb]? = some (.cells (jdArr j) 107 (0, 0))
  c : wx.heap[rb]? = some (.cells (rcArr c) 31 (0, 0))
  below : Below W.heap.size W wx
theorem JAt.cells {W wx : World} {jb rb : Nat} {j : Jd} {c : Rc} (h : JAt W wx jb rb j c) (hj : JdOk j) (k : Nat) (v : Value) (hv : (jdList j)[k]? = some v) : wx.cell? ⟨jb, k, none⟩ = some v ∧ wx.frozen? ⟨jb, k, none⟩ = false := by
  refine ⟨?_, by simp [World.frozen?, h.j]⟩
  have := jd_range h.j k v hv
  rw [Nat.zero_add] at this
  exact this
theorem JAt.set {W wx : World} {jb rb : Nat} {j j' : Jd} {c : Rc} (h : JAt W wx jb rb j c) (o : Nat) (b : Bool) (he : (jdArr j).setIfInBounds o (.bool b) = jdArr j') (hne : rb ≠ jb) (hb : W.heap.size ≤ jb) : JAt W (wx.setCell ⟨jb, o, none⟩ (.bool b)) jb rb j' c :=
  ⟨by rw [heap_setCell_at h.j, he], (Below.heap_setCell _ _ _ _ hne).trans h.c, h.below.setCell (p := ⟨jb, o, none⟩) hb _⟩
theorem JAt.grow {W wx wy : World} {jb rb : Nat} {j : Jd} {c : Rc} (h : JAt W wx jb rb j c) (hb : Below wx.heap.size wx wy) : JAt W wy jb rb j c :=
  ⟨heap_below h.j hb, heap_below h.c hb, h.below.trans (hb.mono h.below.size)⟩
/-- the receipts of a kiosk, as a map by serial -/
def ownF (st : Mst) (k : Int) : Int → Option Value := fun s => (st.kept k s).map fun c => .agg (papArr c)
theorem own_list {st : Mst} (h : StOk st) {k : Int} {ks : List Int} (hk : KeysIs (ownF st k) ks) : ∃ L : List Rc, L.map (·.serial) = ks ∧ (∀ c ∈ L, st.kept k c.serial = some c) ∧ Mg.Own st k L := by
  obtain ⟨h1, h2⟩ := hk
  have key : ∀ ks : List Int, (∀ s ∈ ks, (ownF st k s).isSome = true) → ∃ L : List Rc, L.map (·.serial) = ks ∧ ∀ c ∈ L, st.kept k c.serial = some c := by
    intro ks
    induction ks with
    | nil => intro _; exact ⟨[], rfl, fun c hc => by cases hc⟩
    | cons s ks ih =>
      intro hs
      obtain ⟨L, l1, l2⟩ := ih fun x hx => hs x (by simp [hx])
      have := hs s (by simp)
      unfold ownF at this
      rw [Option.isSome_map, Option.isSome_iff_exists] at this
      obtain ⟨c, hc⟩ := this
      have es := (h.kept k s c hc).2.2
      refine ⟨c :: L, by rw [List.map_cons, l1, es], fun x hx => ?_⟩
      rcases List.mem_cons.1 hx with rfl | hx
      · rw [es]; exact hc
      · exact l2 x hx
  obtain ⟨L, l1, l2⟩ := key ks fun s hs => ((h2 s).1 hs).2
  refine ⟨L, l1, l2, ?_, fun r => ⟨fun hr => ⟨l2 r hr, (h.kept k _ r (l2 r hr)).2.1⟩, ?_⟩⟩
  · rw [← l1, List.pairwise_map] at h1
    exact h1
  · rintro ⟨hr, hk⟩
    have hs : r.serial ∈ ks := (h2 r.serial).2 ⟨(h.kept k _ r hr).1.serial, by unfold ownF; rw [hr]; rfl⟩
    rw [← l1] at hs
    obtain ⟨c, hc, e⟩ := List.mem_map.1 hs
    have := l2 c hc
    rw [e, hr] at this
    injection this with this
    rw [this]; exact hc
end Go.Proofs.YtpblfpnldbdncaaGreatDoor
namespace Go.Proofs.YtpblfpnldbdncaaGreatDoor
open Go.RowKit Go.Sort Go.Maps
open Sg (Rc)
open Mg (Mst Jd Pap)
set_option linter.unusedVariables false
set_option maxRecDepth 100000
attribute [local go_sem ↓] wp_alloc_pap wp_alloc_rc wp_alloc_jd wp_build_h0
theorem alloc_set (w : World) (a b : Array Value) (T : TypeId) (o : Obj) : ((w.alloc o).alloc (.cells a T)).setRow (w.heap.size + 1) b = (w.alloc o).alloc (.cells b T) := by
  have := World.setRow_alloc_new (w.alloc o) a b T
  rwa [World.size_alloc] at this
/-- a paper, judged by nothing yet -/
def jdOf : Value → Value
  | .agg cs => .agg (cs ++ #[.bool false, .bool false, .bool false])
  | v => v
def IsPap (v : Value) : Prop := ∃ c, RcOk c ∧ v = .agg (papArr c)
theorem jdOf_pap (c : Rc) : jdOf (.agg (papArr c)) = .agg (jdArr ⟨c, rch c, false, false, false⟩) := by
  show Value.agg ((papList c).toArray ++ #[_, _, _]) = Value.agg (jdList _).toArray
  rw [List.append_toArray]
  unfold papList jdList jdTail
  rw [List.append_assoc]
theorem wp_build_jd {d : Option Tmp} {x : Operand} {ty : TypeId} {pos : String} {after : Array Edge} {gd : Option (Nat × Bool)} {a : Act} {w : World} {K : Act → World → Prop} {Q : Exit → Act → World → Prop} (h0 : IsPap (a.eval x)) :
    Oper.wp Tryz.prog ⟨d, .build 107 #[(0, x)], ty, pos, after, gd⟩ a w K Q = K (a.put d (jdOf (a.eval x))) w := by
  obtain ⟨c, hc, e⟩ := h0
  have hr := run_build_jd hc w
  rw [e, jdOf_pap]
  unfold Oper.wp execOp
  simp only [List.map_toArray, List.map_cons, List.map_nil, Sem.run_bind, Sem.run_pure, e, hr, Result.andThen_ok]
  rfl
attribute [local go_sem ↓] wp_build_jd
/-- the own receipts that have been passed -/
def ownSoFar (st : Mst) (k : Int) (left : Int × Int → Prop) (s : Int) (v : Value) : Prop := ownF st k s = some v ∧ ¬ left (k, s)
set_option maxHeartbeats 8000000 in
theorem judge_any {w : World} {p : Nat} {vp vo vk vc : Value} {st : Mst} {n : Nat} (h : MrgAt w p vp vo vk vc st n) (k : Int) (hk : I64 k) (hn : n ≤ 10000) :
    Calls Tryz.prog 43 #[.pointer (some ⟨p, 0, none⟩), .int .i64 k] w fun e w' => ∃ v, e = .returned v ∧ OwnsR jdK w' w.heap.size v (st.judged rch k) ∧ Below w.heap.size w w' ∧ (st.judged rch k).length ≤ 10000 := by
  have b0 : Below w.heap.size w (w.alloc (.map #[] 0)) := (Below.refl _ _).alloc (Nat.le_refl _) _
  have M0 := h.below b0
  obtain ⟨v0, v1, v2, v3⟩ := M0.vals
  have HM := Lib.hid h
  have HB0 := Lib.hid b0
  have HK0 := Lib.hid M0.kept
  have HO0 := Lib.hid (MapB.made kInt w)
  have hmm := @run_makeMap Tryz.prog
  have HKI := Lib.hid hk
  clear v0 v1 v3 M0 h b0 hk
  go_enter Tryz.func43, Tryz.ntmps43
  go_wp2_with (at_range; refine wpList_rangeV rfl (.tmp 19) rfl Tryz.underlying79 rfl HK0.out ?_; intro w2 cnt hR hg2 hs2 hcn)
  have HO2 := Lib.hid (HO0.out.kept hg2 (by simp))
  have BW2 := Lib.hid (HB0.out.grown hg2 HB0.out.size (fun b e => by cases e))
  have HR := Lib.hid hR
  obtain ⟨r, hr⟩ : ∃ r, (w.alloc (.map #[] 0)).heap.size = r := ⟨_, rfl⟩
  have hbr : w.heap.size < r := by rw [← hr]; simp
  rw [hr] at HR
  clear hR hg2 hs2 v2
  go_frame
  rw [hr]
  clear hr
  go_loopw [6, 7] (fun _ _ wr => ∃ left c m f, MapR kPl wr vk r n (keptF st) left c ∧ MapB kInt wr w.heap.size m f ∧ (∀ s u, I64 s → (f s = some u ↔ ownSoFar st k left s u)) ∧ m + c ≤ n ∧ Below w.heap.size w wr) (fun _ _ wr => leftAt wr vk r)
  case atStart =>
    refine ⟨fun x => (keptF st x).isSome = true, cnt, 0, fun _ => none, HR.out, HO2.out, fun s u _ => ?_, by omega, BW2.out⟩
    constructor
    · intro h; cases h
    · rintro ⟨h1, h2⟩
      refine absurd ?_ h2
      show (keptF st (k, s)).isSome = true
      have : keptF st (k, s) = ownF st k s := rfl
      rw [this, h1]; rfl
  case round =>
    obtain ⟨left, c, m, f, hR, hO, hf, hlen, hb⟩ := hrel
    have HB := Lib.hid hb
    have HO := Lib.hid hO
    have HF := Lib.hid hf
    have HC := Lib.hid hlen
    clear hb hO hf hlen
    rcases hR.next with ⟨hdone, hrun⟩ | ⟨x, u, w', c', hx, hlx, hfx, hrun, hR', hlt, hg', hs', hen⟩
    · have HO3 : Hid (MapB kInt wr w.heap.size m (ownF st k)) := by
        refine HO.out.congr fun s hs => Option.ext fun u => ?_
        rw [HF.out s u hs]
        exact ⟨fun h => h.1, fun h => ⟨h, hdone (k, s) ⟨HKI.out, hs⟩⟩⟩
      have ml : m ≤ 10000 := by have := HC.out; omega
      have CO := Lib.hid (order_paper (MapIs.some HO3.out) ml)
      clear hdone hR ml hbr
      go_wp2_with fail
      refine CO.out.mono ?_
      rintro e w3 ⟨v35, ks, rfl, q1, q2, q3, q4⟩
      obtain ⟨L, l1, l2, l3⟩ := own_list HM.out.ok q1
      have EJ := Lib.hid (show st.judged rch k = Mg.judge st.fits none 0 (Mg.paps rch L) by unfold Mst.judged; rw [Mg.own_eq l3])
      have HL2 := Lib.hid l2
      have HL1 := Lib.hid l1
      obtain ⟨N, hN⟩ : ∃ N, L.length = N := ⟨_, rfl⟩
      have HN := Lib.hid hN
      have LK : Hid (LiesR intK w3 v35 ks) := q2.lies
      have kl : ks.length = N := by rw [← l1, List.length_map, hN]
      have N4 : N ≤ 10000 := by have := HC.out; omega
      obtain ⟨ao, cap, hv⟩ : ∃ ao cap, v35 = .slice ao N cap := by
        obtain ⟨ao, cap, h | h⟩ := LK.out.slice kl
        · exact ⟨ao, cap, h.1⟩
        · exact ⟨ao, cap, h.1⟩
      subst hv
      have MB3 := Lib.hid (HO3.out.below q4)
      have BW3 := Lib.hid (HB.out.trans (q4.mono HB.out.size))
      clear q1 q2 q3 q4 l1 l2 l3 hN kl
      go_wp2_with fail
      go_loopw [8, 9, 10, 11, 12, 13, 14, 37] (fun v8 v9 _ _ _ _ _ v37 wx => ∃ i : Nat, i ≤ N ∧ v37 = .int .i64 i ∧ v9 = .int .i64 (Mg.mostOf st.fits none 0 (Mg.paps rch (L.take i))) ∧ OwnsR jdK wx w3.heap.size v8 (Mg.judge st.fits none 0 (Mg.paps rch (L.take i))) ∧ Below w3.heap.size w3 wx) (fun _ _ _ _ _ _ _ v37 _ => N - (intOf v37).toNat)
      case atStart => exact ⟨0, Nat.zero_le _, rfl, rfl, OwnsR.nil _ _ _, Below.refl _ _⟩
      case round =>
        obtain ⟨i, hi, rfl, rfl, hJ, hbw⟩ := hrel
        have HJ := Lib.hid hJ
        have HMB := Lib.hid (MB3.out.below hbw)
        have HLK := Lib.hid (LK.out.below hbw)
        have HBW := Lib.hid (BW3.out.trans (hbw.mono BW3.out.size))
        have HB3 := Lib.hid hbw
        have WS := Lib.hid BW3.out.size
        clear hJ hbw MB3 BW3 LK
        by_cases hlt : i < N
        · obtain ⟨c, hcL⟩ : ∃ c, L[i]? = some c := ⟨L[i]'(by rw [HN.out]; exact hlt), List.getElem?_eq_getElem _⟩
          have hck := HL2.out c (List.mem_of_getElem? hcL)
          have cok := (HM.out.ok.kept _ _ _ hck).1
          have clow := HM.out.ok.low _ _ _ hck
          have ksi : ks[i]? = some c.serial := by rw [← HL1.out, List.getElem?_map, hcL]; rfl
          obtain ⟨g, oo, cap', e1, _, gl, rg, _⟩ := HLK.out.at ksi
          injection e1 with e1 e2 e3
          subst e1 e3
          clear e2
          have di : decide ((i : Int) < (N : Int)) = true := by simpa using hlt
          have CS : wr.cell? ⟨g, oo + i, none⟩ = some (.int .i64 c.serial) := by
            have := rg 0 _ rfl
            rw [show oo + i * intK.size + 0 = oo + i by show oo + i * 1 + 0 = _; omega] at this
            exact this
          have lkx : ∀ W, Below wr.heap.size wr W → (Instr.lookup 151 (.map (some w.heap.size)) (.int .i64 c.serial) false).run Tryz.prog W = .ok (.agg (papArr c)) W := by
            intro W hb
            have := (HMB.out.below hb).look Tryz.underlying151 (pap_zero W) (x := c.serial) cok.serial
            rw [show (ownF st k c.serial).getD (.agg pap0) = .agg (papArr c) by unfold ownF; rw [hck]; rfl] at this
            exact this
          have lk1 := lkx wr (Below.refl wr.heap.size wr)
          have a2 : IsPap (.agg (papArr c)) := ⟨c, cok, rfl⟩
          have jp := jdOf_pap c
          clear lkx
          have htake : L.take (i + 1) = L.take i ++ [c] := by rw [List.take_add_one, hcL]; rfl
          have hpt : Mg.paps rch (L.take (i + 1)) = Mg.paps rch (L.take i) ++ [⟨c, rch c⟩] := by rw [htake]; simp [Mg.paps]
          have HPT := Lib.hid hpt
          have jl : (Mg.judge st.fits none 0 (Mg.paps rch (L.take i))).length = i := by rw [Mg.judge_length, Mg.paps, List.length_map, List.length_take, HN.out]; omega
          have HJS := Lib.hid (judge_snoc st.fits (Mg.paps rch (L.take i)) ⟨c, rch c⟩)
          have HMS := Lib.hid (most_snoc st.fits (Mg.paps rch (L.take i)) ⟨c, rch c⟩)
          obtain ⟨Jl, hJl⟩ : ∃ Jl, Mg.judge st.fits none 0 (Mg.paps rch (L.take i)) = Jl := ⟨_, rfl⟩
          obtain ⟨mo, hmo⟩ : ∃ mo, Mg.mostOf st.fits none 0 (Mg.paps rch (L.take i)) = mo := ⟨_, rfl⟩
          rw [hJl] at HJ HJS HMS jl
          rw [hmo] at HJS HMS
          rw [hmo]
          have HJL := Lib.hid jl
          have COK := Lib.hid cok
          have CLW := Lib.hid clow
          have J0K : Hid (JdOk ⟨c, rch c, false, false, false⟩) := ⟨cok, rch_length c⟩
          clear hJl hmo htake hpt ksi hck hcL rg gl jl
          -- the new variables
          have E1 := Lib.hid (World.setRow_alloc_new wr (jdArr jd0) (jdArr ⟨c, rch c, false, false, false⟩) 107)
          have F1 := Lib.hid (heap_alloc_new wr (.cells (jdArr jd0) 107))
          have F2 := heap_alloc_new wr (.cells (jdArr ⟨c, rch c, false, false, false⟩) 107)
          have R2 := Lib.hid (jd_rcAt (jd_range F2))
          have E3 := Lib.hid (alloc_set wr (rcArr rc0) (rcArr c) 31 (.cells (jdArr ⟨c, rch c, false, false, false⟩) 107))
          have F3 := Lib.hid (heap_alloc2_new wr (.cells (jdArr ⟨c, rch c, false, false, false⟩) 107) (.cells (rcArr rc0) 31))
          have JI := Lib.hid (jd_info J0K.out)
          have JS := Lib.hid (show (jdArr jd0).size = (jdArr ⟨c, rch c, false, false, false⟩).size by rw [jdArr_size jd0_ok, jdArr_size J0K.out])
          have RI := Lib.hid (rc_info cok)
          have RS := Lib.hid (show (rcArr rc0).size = (rcArr c).size by rw [rcArr_size rc0_ok, rcArr_size cok])
          have JA0 : JAt wr ((wr.alloc (.cells (jdArr ⟨c, rch c, false, false, false⟩) 107)).alloc (.cells (rcArr c) 31)) wr.heap.size (wr.heap.size + 1) ⟨c, rch c, false, false, false⟩ c :=
            ⟨heap_alloc2_old wr _ _, heap_alloc2_new wr _ _, ((Below.refl _ _).alloc (Nat.le_refl _) _).alloc (by simp) _⟩
          have JA := Lib.hid JA0
          obtain ⟨S, hS⟩ : ∃ S, Mg.soundOf Jl.getLast? ⟨c, rch c⟩ = S := ⟨_, rfl⟩
          have HS := Lib.hid hS
          clear F2 JA0 hS
          go_upto_if 50 with (first
            | (refine wpList_store_row rfl 107 (.tmp 12) (.tmp 45) rfl wr.heap.size (jdArr ⟨c, rch c, false, false, false⟩) rfl rfl 107 _ F1.out JI.out JS.out (jdArr_one _) ?_; rw [E1.out])
            | (refine wpList_load_c rfl (.tmp 47) rfl wr.heap.size 0 rfl COK.out R2.out ?_)
            | (refine wpList_store_row rfl 31 (.tmp 13) (.tmp 48) rfl (wr.heap.size + 1) (rcArr c) rfl rfl 31 _ F3.out RI.out RS.out (rcArr_one c) ?_; rw [E3.out]; simp only [Act.put]))
          generalize (wr.alloc (.cells (jdArr ⟨c, rch c, false, false, false⟩) 107)).alloc (.cells (rcArr c) 31) = W1 at *
          have JNE : wr.heap.size + 1 ≠ wr.heap.size := by omega
          clear E1 F1 R2 E3 F3 JI JS RI RS lk1 a2 jp CS
          go_cut [] (fun wx => JAt wr wx wr.heap.size (wr.heap.size + 1) ⟨c, rch c, S, false, false⟩ c)
          case first =>
            have R0 := RcAt.of_row JA.out.c
            have P1 := R0.prev COK.out
            rw [Nat.zero_add] at P1
            have P0 := Lib.hid P1
            clear P1 R0
            by_cases s1 : c.serial = 1
            · have d1 : (c.serial == 1) = true := by simp [s1]
              have SS : Hid (S = (c.prev == Mg.zeroH)) := by
                show _ = _
                rw [← HS.out]; unfold Mg.soundOf; rw [if_pos s1, Bool.eq_iff_iff]; simp
              have E1x := hash_eql c.prev Mg.zeroH COK.out.prev zeroH_length
              obtain ⟨q0, q1⟩ := JA.out.cells J0K.out 134 _ (jd_get J0K.out).1
              clear s1
              go_wp2_with (refine wpList_load_h rfl (.tmp 51) rfl (wr.heap.size + 1) 68 rfl COK.out.prev P0.out ?_)
              go_meet
              rw [SS.out]
              exact JA.out.set 134 _ ((jd_set J0K.out _).1) JNE (Nat.le_refl _)
            · have d1 : (c.serial == 1) = false := by simpa using s1
              have S1 := Lib.hid s1
              clear s1
              by_cases i0 : i = 0
              · have d2 : decide ((0 : Int) < (i : Int)) = false := by simp; omega
                have d3 : decide (0 < i) = false := by simp; omega
                have SS : Hid (S = false) := by
                  show _ = _
                  rw [← HS.out]; unfold Mg.soundOf; rw [if_neg S1.out, List.eq_nil_of_length_eq_zero (HJL.out.trans i0)]; rfl
                clear i0
                go_wp2_with fail
                go_meet
                rw [SS.out]
                exact JA.out
              · have ip : 1 ≤ i := by omega
                obtain ⟨bj, hbj⟩ : ∃ bj, Jl[i - 1]? = some bj := ⟨Jl[i - 1]'(by rw [HJL.out]; omega), List.getElem?_eq_getElem _⟩
                have hgl : Jl.getLast? = some bj := by rw [List.getLast?_eq_getElem?, HJL.out]; exact hbj
                have HGL := Lib.hid hgl
                obtain ⟨g8, o8, cap8, e8, cl8, gl8, rg8, bok⟩ := HJ.out.lies.at hbj
                rw [HJL.out] at e8 cl8
                have BOK : Hid (JdOk bj) := bok
                have RB : Hid (W1.rangeAt g8 (o8 + (i - 1) * 137) (jdList bj)) := fun k v hv => (JA.out.below.cell (p := ⟨g8, _, none⟩) gl8).trans (rg8 k v hv)
                have HJ2 : Hid (OwnsR jdK wr w3.heap.size (.slice (some ⟨g8, o8, none⟩) i cap8) Jl) := by have := HJ.out; rwa [e8] at this
                subst e8
                have d2 : decide ((0 : Int) < (i : Int)) = true := by simp; omega
                have d3 : decide (0 < i) = true := by simp; omega
                have t1 : ((i : Int) - 1).toNat = i - 1 := by omega
                have t2 : (0 : Int) ≤ (i : Int) - 1 := by omega
                have t3 : (i : Int) - 1 < (i : Int) := by omega
                clear i0 hbj hgl gl8 rg8 bok HJ
                have E4 := Lib.hid (World.setRow_alloc_new W1 (jdArr jd0) (jdArr bj) 107)
                have F4 := Lib.hid (heap_alloc_new W1 (.cells (jdArr jd0) 107))
                have F5 := Lib.hid (jd_range (heap_alloc_new W1 (.cells (jdArr bj) 107)))
                have BI := Lib.hid (jd_info BOK.out)
                have BS := Lib.hid (show (jdArr jd0).size = (jdArr bj).size by rw [jdArr_size jd0_ok, jdArr_size BOK.out])
                have bw : Below W1.heap.size W1 (W1.alloc (.cells (jdArr bj) 107)) := (Below.refl _ _).alloc (Nat.le_refl _) _
                have J2 := Lib.hid (JA.out.grow bw)
                clear bw
                go_upto_region 18 with (first
                  | (refine wpList_load_j rfl (.tmp 61) rfl g8 (o8 + (i - 1) * 137) rfl BOK.out RB.out ?_)
                  | (refine wpList_store_row rfl 107 (.tmp 14) (.tmp 62) rfl W1.heap.size (jdArr bj) rfl rfl 107 _ F4.out BI.out BS.out (jdArr_one _) ?_; rw [E4.out]))
                obtain ⟨nb, hnb⟩ : ∃ nb, W1.heap.size = nb := ⟨_, rfl⟩
                rw [hnb] at F5
                rw [hnb]
                generalize W1.alloc (.cells (jdArr bj) 107) = W2 at *
                clear E4 F4 BI BS P0 RB JA
                have P1 := (RcAt.of_row J2.out.c).prev COK.out
                rw [Nat.zero_add] at P1
                have P0 := Lib.hid P1
                have y0 := F5.out 134 _ (jd_get BOK.out).1
                rw [Nat.zero_add] at y0
                have y1 := (jd_rcAt F5.out).serial
                rw [Nat.zero_add] at y1
                have H1 := jd_hash BOK.out F5.out
                rw [Nat.zero_add] at H1
                have H2 := Lib.hid H1
                obtain ⟨q0, q1⟩ := J2.out.cells J0K.out 134 _ (jd_get J0K.out).1
                have SS : Hid (S = (bj.sound && decide (bj.rc.serial = c.serial - 1) && decide (bj.h = c.prev))) := by
                  show _ = _
                  rw [← HS.out]; unfold Mg.soundOf; rw [if_neg S1.out, HGL.out]
                clear P1 H1 hnb
                have cs1 := COK.out.serial
                by_cases b1 : bj.sound = true
                · rw [b1] at y0
                  have B1 := Lib.hid b1
                  clear b1
                  by_cases b2 : bj.rc.serial = c.serial - 1
                  · have d4 : (bj.rc.serial == c.serial - 1) = true := by simp [b2]
                    have B2 := Lib.hid b2
                    have E1x := hash_eql bj.h c.prev BOK.out.h COK.out.prev
                    clear b2
                    go_wp2_with (first
                      | (refine wpList_load_hg (by rfl) (.tmp 76) rfl nb 102 rfl BOK.out.h H2.out ?_)
                      | (refine wpList_load_hg (by rfl) (.tmp 78) rfl (wr.heap.size + 1) 68 rfl COK.out.prev P0.out ?_))
                    go_meet
                    rw [SS.out, B1.out, decide_eq_true B2.out, show (true && true && decide (bj.h = c.prev)) = (bj.h == c.prev) by rw [Bool.eq_iff_iff]; simp]
                    exact J2.out.set 134 _ ((jd_set J0K.out _).1) JNE (Nat.le_refl _)
                  · have d4 : (bj.rc.serial == c.serial - 1) = false := by simpa using b2
                    have B2 := Lib.hid b2
                    clear b2
                    go_wp2_with fail
                    go_meet
                    rw [SS.out, decide_eq_false B2.out, Bool.and_false, Bool.false_and]
                    exact J2.out.set 134 _ ((jd_set J0K.out _).1) JNE (Nat.le_refl _)
                · have b3 : bj.sound = false := by simpa using b1
                  rw [b3] at y0
                  have B1 := Lib.hid b3
                  clear b1 b3
                  go_wp2_with fail
                  go_meet
                  rw [SS.out, B1.out, Bool.false_and, Bool.false_and]
                  exact J2.out.set 134 _ ((jd_set J0K.out _).1) JNE (Nat.le_refl _)
          case rest =>
            obtain ⟨B, hB⟩ : ∃ B, Mg.backOf Jl.getLast? mo ⟨c, rch c⟩ = B := ⟨_, rfl⟩
            have HBK := Lib.hid hB
            have HIS : Hid (Jl.getLast?.isSome = decide (0 < i)) := by
              show _ = _
              rw [← HJL.out]
              cases Jl with
              | nil => rfl
              | cons x l => simp
            have J1 := Lib.hid hcut
            have JK1 : Hid (JdOk ⟨c, rch c, S, false, false⟩) := ⟨COK.out, rch_length c⟩
            clear hB hcut
            go_upto_region 19 with fail
            go_cut [] (fun wx => JAt wr wx wr.heap.size (wr.heap.size + 1) ⟨c, rch c, S, B, false⟩ c)
            case first =>
              obtain ⟨q0, q1⟩ := J1.out.cells JK1.out 135 _ (jd_get JK1.out).2.1
              have y0 := (RcAt.of_row J1.out.c).seen
              rw [Nat.zero_add] at y0
              have cs1 := COK.out.seen
              by_cases i0 : i = 0
              · have d2 : decide ((0 : Int) < (i : Int)) = false := by simp; omega
                have d3 : decide (0 < i) = false := by simp; omega
                have SS : Hid (B = false) := by
                  show _ = _
                  rw [← HBK.out]; unfold Mg.backOf; rw [HIS.out, d3, Bool.false_and]
                clear i0
                go_wp2_with fail
                go_meet
                rw [SS.out]
                exact J1.out.set 135 _ ((jd_set JK1.out _).2.1) JNE (Nat.le_refl _)
              · have d2 : decide ((0 : Int) < (i : Int)) = true := by simp; omega
                have d3 : decide (0 < i) = true := by simp; omega
                have SS : Hid (B = decide (c.seen < mo)) := by
                  show _ = _
                  rw [← HBK.out]; unfold Mg.backOf; rw [HIS.out, d3, Bool.true_and]
                clear i0
                go_wp2_with fail
                go_meet
                rw [SS.out]
                exact J1.out.set 135 _ ((jd_set JK1.out _).2.1) JNE (Nat.le_refl _)
            case rest =>
              have J2 := Lib.hid hcut
              have JK2 : Hid (JdOk ⟨c, rch c, S, B, false⟩) := ⟨COK.out, rch_length c⟩
              clear hcut J1 JK1
              obtain ⟨M, hM⟩ : ∃ M, Mg.most' Jl.getLast? mo ⟨c, rch c⟩ = M := ⟨_, rfl⟩
              have HM' := Lib.hid hM
              clear hM
              have y0 := (RcAt.of_row J2.out.c).seen
              rw [Nat.zero_add] at y0
              have cs1 := COK.out.seen
              have HNO : Hid (Jl.getLast?.isNone = decide (i = 0)) := by
                show _ = _
                have h1 := HIS.out
                cases hg : Jl.getLast? with
                | none => rw [hg] at h1; simp at h1; simp [h1]
                | some x => rw [hg] at h1; simp at h1; simp; omega
              go_upto_region 20 with fail
              go_cut [99] (fun v99 wx => v99 = .bool (decide (i = 0) || decide (mo < c.seen)) ∧ wx = wc)
              case first =>
                by_cases i0 : i = 0
                · have d2 : ((i : Int) == 0) = true := by simp [i0]
                  have d3 : (i == 0) = true := by simp [i0]
                  have d4 := Lib.hid (decide_eq_true i0)
                  clear i0
                  go_wp2_with fail
                  go_meet
                  exact ⟨by rw [d4.out]; rfl, rfl⟩
                · have d2 : ((i : Int) == 0) = false := by simp; omega
                  have d3 : (i == 0) = false := by simp; omega
                  have d4 := Lib.hid (decide_eq_false i0)
                  clear i0
                  go_wp2_with fail
                  go_meet
                  exact ⟨by rw [d4.out]; rfl, rfl⟩
              case rest =>
                obtain ⟨e99, rfl⟩ := hcut
                obtain ⟨MB, hMB⟩ : ∃ MB, (decide (i = 0) || decide (mo < c.seen)) = MB := ⟨_, rfl⟩
                rw [hMB] at e99
                subst e99
                have ME : Hid ((if MB then c.seen else mo) = M) := by
                  show _ = _
                  rw [← HM'.out]; unfold Mg.most'
                  rw [HNO.out, hMB]
                clear hMB
                go_upto_if 99 with fail
                go_cut [9] (fun v9 wx => v9 = .int .i64 M ∧ wx = wc)
                case first =>
                  cases MB
                  · go_wp2_with fail
                    go_meet
                    exact ⟨by rw [← ME.out]; rfl, rfl⟩
                  · go_wp2_with fail
                    go_meet
                    exact ⟨by rw [← ME.out]; rfl, rfl⟩
                case rest =>
                  obtain ⟨e9, rfl⟩ := hcut
                  subst e9
                  clear y0 cs1 ME HNO
                  have MB2 := HMB.out.below J2.out.below
                  have FC := Lib.hid (fits_any (HM.out.below (HBW.out.trans (J2.out.below.mono HBW.out.size))) c COK.out)
                  have R0 := Lib.hid (RcAt.of_row J2.out.c)
                  obtain ⟨F, hF⟩ : ∃ F, st.fits c = F := ⟨_, rfl⟩
                  rw [hF] at FC
                  have HF := Lib.hid hF
                  have y1 := (J2.out.cells JK2.out 134 _ (jd_get JK2.out).1).1
                  have y2 := (J2.out.cells JK2.out 135 _ (jd_get JK2.out).2.1).1
                  clear hF MB2
                  go_upto_region 22 with fail
                  go_cut [] (fun wx => JAt wr wx wr.heap.size (wr.heap.size + 1) ⟨c, rch c, S, B, S && F && !B⟩ c)
                  case first =>
                    cases S
                    · obtain ⟨q0, q1⟩ := J2.out.cells JK2.out 136 _ (jd_get JK2.out).2.2
                      go_wp2_with fail
                      go_meet
                      exact J2.out.set 136 _ ((jd_set JK2.out _).2.2) JNE (Nat.le_refl _)
                    · go_wp2_with (refine wpList_load_cg (by rfl) (.tmp 13) rfl (wr.heap.size + 1) 0 rfl COK.out R0.out ?_)
                      refine FC.out.mono ?_
                      rintro e w5 ⟨rfl, hb5⟩
                      have J3 := Lib.hid (J2.out.grow hb5)
                      have y2 := (J3.out.cells JK2.out 135 _ (jd_get JK2.out).2.1).1
                      obtain ⟨q0, q1⟩ := J3.out.cells JK2.out 136 _ (jd_get JK2.out).2.2
                      clear hb5
                      cases F
                      · go_wp2_with fail
                        go_meet
                        exact J3.out.set 136 _ ((jd_set JK2.out _).2.2) JNE (Nat.le_refl _)
                      · go_wp2_with fail
                        go_meet
                        exact J3.out.set 136 _ ((jd_set JK2.out _).2.2) JNE (Nat.le_refl _)
                  case rest =>
                    have J4 := Lib.hid hcut
                    clear hcut y1 y2 FC R0 J2
                    have JK4 : Hid (JdOk ⟨c, rch c, S, B, S && F && !B⟩) := ⟨COK.out, rch_length c⟩
                    have JR4 := Lib.hid (jd_range J4.out.j)
                    have bz : Below wc.heap.size wc (wc.alloc (.cells (jdK.enc ⟨c, rch c, S, B, S && F && !B⟩).toArray jdK.ty)) := (Below.refl _ _).alloc (Nat.le_refl _) _
                    have OZ := Lib.hid ((HJ.out.below J4.out.below).below bz)
                    have BZ := Lib.hid ((HB3.out.trans (J4.out.below.mono HB3.out.size)).trans (bz.mono (HB3.out.trans (J4.out.below.mono HB3.out.size)).size))
                    have NZ := Lib.hid (heap_alloc_new wc (.cells (jdK.enc ⟨c, rch c, S, B, S && F && !B⟩).toArray jdK.ty))
                    have LZ : Hid (Jl.length ≤ 100000) := by show _ ≤ _; rw [HJL.out]; omega
                    have STEP : Hid (Mg.judge st.fits none 0 (Mg.paps rch (L.take (i + 1))) = Jl ++ [⟨c, rch c, S, B, S && F && !B⟩] ∧ Mg.mostOf st.fits none 0 (Mg.paps rch (L.take (i + 1))) = M) := by
                      refine ⟨?_, ?_⟩
                      · rw [HPT.out, HJS.out]; unfold Mg.step; rw [HS.out, HBK.out, HF.out]
                      · rw [HPT.out, HMS.out, HM'.out]
                    clear bz HS HBK HF HM' HPT HJS HMS HIS HMB HLK HBW J0K
                    go_wp2_with (first
                      | (refine wpList_load_j rfl (.tmp 12) rfl wr.heap.size 0 rfl JK4.out JR4.out ?_)
                      | (refine wpList_build_r jdK rfl (.tmp 116) rfl JK4.out (.agg (jdArr ⟨c, rch c, S, B, S && F && !B⟩)) rfl rfl ?_)
                      | (at_builtin; refine wpList_append_r jdK rfl (.tmp 115) (.tmp 117) rfl w3.heap.size u8 Jl ⟨c, rch c, S, B, S && F && !B⟩ wc.heap.size rfl rfl OZ.out JK4.out NZ.out LZ.out BZ.out.size ?_; intro v8' w6 hown6 hg6))
                    go_roundw
                    case rel =>
                      exact ⟨i + 1, hlt, rfl, by rw [STEP.out.2], by rw [STEP.out.1]; exact hown6, BZ.out.grown hg6 BZ.out.size (fun b e => (OZ.out.base_le b e).1)⟩
                    case measure => simp [intOf]; omega
        · have ei : i = N := by omega
          have ET := Lib.hid (show L.take i = L by rw [ei, ← HN.out]; exact List.take_length)
          have di : decide ((i : Int) < (N : Int)) = false := by simp; omega
          clear ei
          go_wp2_with fail
          go_ret
          exact ⟨_, rfl, by rw [EJ.out, ← ET.out]; exact HJ.out.mono WS.out, HBW.out, by rw [EJ.out, Mg.judge_length, Mg.paps, List.length_map, HN.out]; omega⟩
    · obtain ⟨xk, xs⟩ := x
      obtain ⟨cc, hcc, hu⟩ : ∃ cc, st.kept xk xs = some cc ∧ Value.agg (papArr cc) = u := by
        have : (st.kept xk xs).map (fun c => Value.agg (papArr c)) = some u := hfx
        obtain ⟨cc, h1, h2⟩ := Option.map_eq_some_iff.1 this
        exact ⟨cc, h1, h2⟩
      have hcok := (HM.out.ok.kept _ _ _ hcc).1
      have CO := Lib.hid hcok
      have ME := Lib.hid hcc
      have HO' := Lib.hid (HO.out.kept hg' (by intro e; injection e with e; omega))
      have HB' := Lib.hid (HB.out.grown hg' HB.out.size (fun b e => by injection e with e; omega))
      subst hu
      have hen' : (Instr.entry (.pointer (some ⟨r, 0, none⟩))).run Tryz.prog w' = .ok (.tuple #[.agg #[.int .i64 xk, .int .i64 xs], .agg (papArr cc)]) w' := hen
      have hrun' : ∀ ty, (Instr.next (.pointer (some ⟨r, 0, none⟩)) false ty).run Tryz.prog wr = .ok (.tuple #[.bool true, .agg #[.int .i64 xk, .int .i64 xs], .agg (papArr cc)]) w' := hrun
      have bA : Below w'.heap.size w' ((w'.alloc (.cells #[.int .i64 xk, .int .i64 xs] 149)).alloc (.cells (papArr cc) 105)) := ((Below.refl _ _).alloc (Nat.le_refl _) _).alloc (by simp) _
      have RA := Lib.hid (hR'.below bA)
      have OA := Lib.hid (HO'.out.below bA)
      have BA := Lib.hid (HB'.out.trans (bA.mono HB'.out.size))
      have PZ := Lib.hid (heap_alloc2_new w' (.cells #[.int .i64 xk, .int .i64 xs] 149) (.cells pap0 105))
      have PC := Lib.hid (heap_alloc2_new w' (.cells #[.int .i64 xk, .int .i64 xs] 149) (.cells (papArr cc) 105))
      have PI := Lib.hid (pap_info hcok)
      have PS := Lib.hid (show pap0.size = (papArr cc).size by rw [pap0_size, papArr_size hcok])
      have AS := Lib.hid (alloc_set w' pap0 (papArr cc) 105 (.cells #[.int .i64 xk, .int .i64 xs] 149))
      have LA := Lib.hid (show leftAt wr vk r = c from hR.left_eq)
      have HLX := Lib.hid hlx
      have HXI : Hid (I64 xk ∧ I64 xs) := hx
      clear hR hx hlx hfx hg' hs' hR' hen hrun hcok hcc bA
      by_cases ek : xk = k
      · have d1 : (xk == k) = true := by simp [ek]
        have EK := Lib.hid ek
        clear ek
        go_wp2_with (first
          | (refine wpList_store_row rfl 105 (.tmp 7) (.tmp 25) rfl (w'.heap.size + 1) (papArr cc) rfl rfl 105 _ PZ.out PI.out PS.out (papArr_one cc) ?_; rw [AS.out])
          | (refine wpList_load_row rfl 105 (.tmp 7) rfl (w'.heap.size + 1) rfl 105 (papArr cc) (0, 0) _ PC.out Tryz.underlying105 rfl PI.out ?_; simp only [Act.put, List.setIfInBounds_toArray, List.set_cons_zero, List.set_cons_succ])
          | (refine wpList_putV (y := xs) rfl rfl (.tmp 30) (.tmp 32) (.tmp 33) rfl Tryz.underlying151 rfl OA.out rfl HXI.out.2 (by unfold maxLen; have := HC.out; omega) (.agg (papArr cc)) rfl ?_; intro w6 mb6 g6))
        have R6 := RA.out.kept g6 (fun b hb e => by
          have hl := HM.out.lt b (.inr (.inr (.inr (.inl hb))))
          injection e with e
          omega) (by intro e; injection e with e; omega)
        refine ⟨⟨fun y => left y ∧ y ≠ (xk, xs), c', m + 1, _, R6, mb6, fun s u hs => ?_, by have := HC.out; omega, BA.out.grown g6 BA.out.size (fun b e => by injection e with e; omega)⟩, by rw [R6.left_eq, LA.out]; exact hlt⟩
        have e1 := EK.out
        subst e1
        unfold upd ownSoFar
        by_cases es : s = xs
        · subst es
          rw [if_pos rfl]
          constructor
          · intro h
            injection h with h
            subst h
            refine ⟨?_, fun h => h.2 rfl⟩
            unfold ownF
            rw [ME.out]; rfl
          · rintro ⟨h1, _⟩
            unfold ownF at h1
            rw [ME.out] at h1
            exact h1
        · rw [if_neg es, HF.out s u hs]
          unfold ownSoFar
          constructor
          · rintro ⟨h1, h2⟩; exact ⟨h1, fun h => h2 h.1⟩
          · rintro ⟨h1, h2⟩; exact ⟨h1, fun h => h2 ⟨h, fun e => es (by injection e)⟩⟩
      · have d1 : (xk == k) = false := by simpa using ek
        have EK := Lib.hid ek
        clear ek
        go_wp2_with (first
          | (refine wpList_store_row rfl 105 (.tmp 7) (.tmp 25) rfl (w'.heap.size + 1) (papArr cc) rfl rfl 105 _ PZ.out PI.out PS.out (papArr_one cc) ?_; rw [AS.out]))
        refine ⟨⟨fun y => left y ∧ y ≠ (xk, xs), c', m, f, RA.out, OA.out, fun s u hs => ?_, by have := HC.out; omega, BA.out⟩, by rw [RA.out.left_eq, LA.out]; exact hlt⟩
        rw [HF.out s u hs]
        unfold ownSoFar
        constructor
        · rintro ⟨h1, h2⟩; exact ⟨h1, fun h => h2 h.1⟩
        · rintro ⟨h1, h2⟩; exact ⟨h1, fun h => h2 ⟨h, fun e => EK.out (by injection e with e1 e2; exact e1.symm)⟩⟩
end Go.Proofs.YtpblfpnldbdncaaGreatDoor
