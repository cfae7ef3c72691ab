/- Lemmas for the walks of the laws of merges: a block beside, evidence in memory. Things beside each other, and rows of receipts: what the walks of the laws lean on. -/
import Derived.Test.YtpblfpnldbdncaaGreatDoorG19
namespace Go.Proofs.YtpblfpnldbdncaaGreatDoor
open Go.RowKit Go.Sort Go.Maps
open Sg (Rc)
open Mg (Mst Jd H Pap)
set_option linter.unusedVariables false
set_option maxRecDepth 100000
theorem Has.setBlk {T : Thing} {b : Nat} {o o' : Obj} {w0 w w' : World} (h : Has (T.both (BlkT b o)) w0 w) (ht : Turned (fun k => k = b) w w') (hg : w'.heap[b]? = some o') : Has (T.both (BlkT b o')) w0 w' := by
  obtain ⟨F, ⟨F1, F2, h1, h2, h3, h4⟩, h5, h6⟩ := h
  exact ⟨F, ⟨F1, F2, T.kept h1 ht (fun k hk e => h3 k hk ((h2.2 k).2 e)), ⟨hg, h2.2⟩, h3, h4⟩, h5, h6.trans (ht.below h6.size fun k e => h5 k ((h4 k).2 (.inr ((h2.2 k).2 e))))⟩
theorem SanS.at {c p g cap : Nat} {L : List Rc} {w : World} (h : SanS c p g cap L w) {k : Nat} {x : Rc} (hx : L[k]? = some x) {o : Nat} (ho : o = k * 102) : RcAt w g o x := by
  obtain ⟨h1, h2, h3⟩ := rc_row_at h.2 hx
  rw [ho]
  rw [Nat.zero_add] at h1
  exact h1
abbrev rcBlk (d : Rc) : Obj := .cells (rcArr d) 31 (0, 0)
abbrev SanQ2 (c p g cap : Nat) (L : List Rc) (ob : Nat) (d : Rc) : Thing := (SanQ c p g cap L).both (BlkT ob (rcBlk d))
def SanS2 (c p g cap : Nat) (L : List Rc) (ob : Nat) (d : Rc) (w : World) : Prop := SanS c p g cap L w ∧ w.heap[ob]? = some (rcBlk d)
theorem SanS2.of_has {c p g cap n ob : Nat} {L : List Rc} {d : Rc} {st : Mst} {w0 w : World} (h : Has ((MrgT p st n).both (SanQ2 c p g cap L ob d)) w0 w) : SanS2 c p g cap L ob d w :=
  ⟨⟨h.right.left.left.blk, h.right.left.right.rows.lies⟩, h.right.right.blk⟩
theorem SanS2.below {c p g cap ob : Nat} {L : List Rc} {d : Rc} {w w' : World} (h : SanS2 c p g cap L ob d w) (hb : Below w.heap.size w w') : SanS2 c p g cap L ob d w' := ⟨h.1.below hb, heap_below h.2 hb⟩
theorem SanS2.other {c p g cap ob : Nat} {L : List Rc} {d : Rc} {w : World} (h : SanS2 c p g cap L ob d w) (hd : RcOk d) : (loadVar 31 ⟨ob, 0, none⟩).run Tryz.prog w = .ok (.agg (rcArr d)) w :=
  load_rc_at hd (RcAt.of_row h.2)
theorem load_str {W : World} {b o : Nat} {s : ByteArray} (c0 : W.cell? ⟨b, o, none⟩ = some (.string s)) : (loadVar 9 ⟨b, o, none⟩).run Tryz.prog W = .ok (.string s) W := by go_simp
/-- evidence in memory -/
theorem ev_cell {w : World} {g n cap : Nat} {xs : List Ev} (h : LiesR evK w (.slice (some ⟨g, 0, none⟩) n cap) xs) {k j o : Nat} {e : Ev} (hx : xs[k]? = some e) (ho : o = k * 19 + j) {v : Value} (hv : (evList e)[j]? = some v) : w.cell? ⟨g, o, none⟩ = some v := by
  obtain ⟨g', o', c', e1, _, lt, rg, ok⟩ := h.at hx
  injection e1 with e1
  injection e1 with e1
  injection e1 with e1 e2
  subst e1
  have := rg j v hv
  rw [← e2, Nat.zero_add] at this
  rw [ho]
  exact this
def SanS3 (c p g cap : Nat) (L : List Rc) (ob : Nat) (d : Rc) (ge ce : Nat) (E : List Ev) (w : World) : Prop := SanS2 c p g cap L ob d w ∧ LiesR evK w (.slice (some ⟨ge, 0, none⟩) E.length ce) E
theorem SanS3.below {c p g cap ob ge ce : Nat} {L : List Rc} {d : Rc} {E : List Ev} {w w' : World} (h : SanS3 c p g cap L ob d ge ce E w) (hb : Below w.heap.size w w') : SanS3 c p g cap L ob d ge ce E w' := ⟨h.1.below hb, h.2.below hb⟩
theorem SanS3.kind {c p g cap ob ge ce : Nat} {L : List Rc} {d : Rc} {E : List Ev} {w : World} (h : SanS3 c p g cap L ob d ge ce E w) {k o : Nat} {e : Ev} (hx : E[k]? = some e) (ho : o = k * 19) {z : Int} (hz : e.kind = z) : (loadVar 3 ⟨ge, o, none⟩).run Tryz.prog w = .ok (.int .i64 z) w :=
  load_i64 (ev_cell h.2 hx (j := 0) (by omega) (by rw [← hz]; rfl))
theorem SanS3.ta {c p g cap ob ge ce : Nat} {L : List Rc} {d : Rc} {E : List Ev} {w : World} (h : SanS3 c p g cap L ob d ge ce E w) {k o : Nat} {e : Ev} (hx : E[k]? = some e) (ho : o = k * 19 + 3) {s : ByteArray} (hs : bstr e.ta = s) : (loadVar 9 ⟨ge, o, none⟩).run Tryz.prog w = .ok (.string s) w :=
  load_str (ev_cell h.2 hx (j := 3) ho (by rw [← hs]; rfl))
theorem SanS3.tb {c p g cap ob ge ce : Nat} {L : List Rc} {d : Rc} {E : List Ev} {w : World} (h : SanS3 c p g cap L ob d ge ce E w) {k o : Nat} {e : Ev} (hx : E[k]? = some e) (ho : o = k * 19 + 7) {s : ByteArray} (hs : bstr e.tb = s) : (loadVar 9 ⟨ge, o, none⟩).run Tryz.prog w = .ok (.string s) w :=
  load_str (ev_cell h.2 hx (j := 7) ho (by rw [← hs]; rfl))
theorem keys_nil_slice {v : Value} {n : Nat} {w : World} {B : Nat} {P : Program} {α : Type} {R : Rk P α} {xs : List α} (h : OwnsR R w B v xs) (hn : xs.length = n) (h0 : 0 < n) : ∃ g cap, v = .slice (some ⟨g, 0, none⟩) n cap := by
  rcases h.2.2 with ⟨rfl, h⟩ | ⟨g, cap, cur, rfl, _⟩
  · omega
  · exact ⟨g, cap, by rw [hn]⟩
end Go.Proofs.YtpblfpnldbdncaaGreatDoor
namespace Go.Proofs.YtpblfpnldbdncaaGreatDoor
open Go.RowKit Go.Sort Go.Maps
open Sg (Rc)
open Mg (Mst Jd H Pap Sale Pos zeroH)
set_option linter.unusedVariables false
set_option maxRecDepth 100000
section
variable {α : Type} {P : Program} {ops : Array Oper} {rest : List Oper} {o : Oper} {a : Act} {w : World} {Q : Exit → Act → World → Prop}
/-- a part of a list, appended -/
theorem wpList_append_rs (R : Rk P α) (hgd : o.guard = none) (s x : Operand) (ho : o.op = Op.call { callee := Callee.builtin Builtin.append, args := #[s, x], argTypes := #[R.sl, R.sl] })
    (base : Nat) (v : Value) (xs ys : List α) (ad : Addr) (m c : Nat) (hsv : a.eval s = v) (hx : a.eval x = .slice (some ad) m c) (hown : OwnsR R w base v xs) (hy : ∀ y ∈ ys, R.ok y) (hm : ys.length = m) (hr : ∀ j u, (R.cells ys)[j]? = some u → w.cell? (ad.add j) = some u) (hl : xs.length + m ≤ 100000) (hb : base ≤ w.heap.size)
    (h : ∀ v' w', OwnsR R w' base v' (xs ++ ys) → w.grownBy w' v.ownBlock → wpList P ops Q rest (a.put o.dst v') w') :
    wpList P ops Q (o :: rest) a w := by
  obtain ⟨i0, hi, hz0, hz1, hz2⟩ := info_parts R.info
  have hsm := R.small
  refine wpList_append_own (P := P) w hgd s x R.sl ho base R.ty i0 _ R.size R.bytes R.und hi hz0 hz1 hz2 R.zsize R.pos v xs.length (R.cells xs) hsv hown.2 ad m c (R.cells ys) hx (by rw [R.cells_length hy, hm]) hr
    (fun u hu => R.cells_one ys u hu) (by unfold maxLen; omega) (by have := Nat.mul_le_mul (show xs.length + m ≤ 100001 by omega) hsm.1; omega) hb (fun v' w' h1 h2 _ => h v' w' ⟨?_, ?_⟩ h2)
  · intro z hz
    rcases List.mem_append.1 hz with hz | hz
    · exact hown.1 z hz
    · exact hy z hz
  · rw [R.cells_append, List.length_append, hm]
    exact h1
end
theorem Has.rot {A B C : Thing} {w0 w : World} (h : Has (A.both (B.both C)) w0 w) : Has (B.both (C.both A)) w0 w := h.swap.assoc
/-- a merge that is made of a list of kiosks -/
theorem new_has {T : Thing} {w0 w : World} (h : Has T w0 w) {v : Value} {B n : Nat} (ho : OwnsR memK w B v (kiosksL n)) (hn : (kiosksL n).length ≤ 1000) :
    Calls Tryz.prog 14 #[v] w fun e w' => ∃ p, e = .returned (.pointer (some ⟨p, 0, none⟩)) ∧ Has ((MrgT p (newSt (kiosksL n)) (kiosksL n).length).both T) w0 w' := by
  refine (new_any ho.lies hn).mono ?_
  rintro e w' ⟨p, b, rfl, hm, hb, np, nb⟩
  refine ⟨p, rfl, (h.newMrg hb hm (fun k hk => ?_)).swap⟩
  rcases hk with rfl | hk | hk | hk | hk
  · exact np
  · injection hk with hk; rw [← hk]; exact nb
  · cases hk
  · cases hk
  · cases hk
/-- a receipt in a list that the call owns -/
theorem OwnsR.rcAt {w : World} {B g n cap : Nat} {L : List Rc} (h : OwnsR rcK w B (.slice (some ⟨g, 0, none⟩) n cap) L) {k : Nat} {x : Rc} (hx : L[k]? = some x) : RcAt w g (k * 102) x := by
  have h1 := (rc_row_at h.lies hx).1
  rwa [Nat.zero_add] at h1
theorem lies_part {w : World} {B g n cap : Nat} {L : List Rc} (h : OwnsR rcK w B (.slice (some ⟨g, 0, none⟩) n cap) L) (hn : L.length = n) (i j : Nat) (hij : i ≤ j) (hj : j ≤ n) (hg : g < w.heap.size) (cap' : Nat) (hcap : j - i ≤ cap') :
    LiesR rcK w (.slice (some ⟨g, i * 102, none⟩) (j - i) cap') ((L.take j).drop i) := by
  have := h.lies.part hn i j hij hj hg cap' hcap
  rw [Nat.zero_add] at this
  exact this
/-- rows of receipts lie in no block of a merge -/
theorem foot_not {w : World} {p : Nat} {vp vo vk vc : Value} {st : Mst} {n : Nat} (h : MrgAt w p vp vo vk vc st n) {b : Nat} {cs : Array Value} {t : TypeId} {fr : Nat × Nat} (hb : w.heap[b]? = some (.cells cs t fr)) (ht : t ≠ 82) : ¬ FootM p vp vo vk vc b := by
  have key : ∀ {k : TypeId} {κ : Type} {K : Kk Tryz.prog k κ} {mv : Value} {m : Nat} {f : κ → Option Value}, MapIs K w mv m f → mapBlk mv ≠ some b := by
    intro k κ K mv m f hm e
    rcases hm with ⟨rfl, _⟩ | ⟨c, rfl, D, ⟨es, clock, hc, r⟩, h2⟩
    · cases e
    · have : c = b := by injection e
      rw [this, hb] at hc
      cases hc
  rintro (rfl | e | e | e | e)
  · have := h.cells
    rw [hb] at this
    injection this with this
    injection this with _ e _
    exact ht e
  · exact key h.pub e
  · exact key h.outs e
  · exact key h.kept e
  · exact key h.clones e
theorem take_rows {p : Nat} {st : Mst} {n : Nat} {Q : Thing} {w0 w : World} (h : Has ((MrgT p st n).both Q) w0 w) (hE : Env w0) (k : Int) (hk : I64 k) {v : Value} {cs : List Rc} (hA : LiesR rcK w v cs) (hs : ∀ b, sliceBlk v = some b → ∃ cs fr, w.heap[b]? = some (.cells cs 31 fr)) (hn : n + cs.length ≤ 10000) :
    Calls Tryz.prog 18 #[.pointer (some ⟨p, 0, none⟩), .agg #[.int .i64 k, v]] w (Out1 ((MrgT p (st.take rver rch k cs).1 (n + cs.length)).both Q) w0 (.int .i64 (st.take rver rch k cs).2)) := by
  obtain ⟨vp, vo, vk, vc, F2, hm, h2, hd, h1, h3, hb⟩ := has_split h
  refine (take_any hm k hk hA (fun b hb' hf => ?_) hn (fun W hW => env_turned hE hb h1 hW)).mono ?_
  · obtain ⟨cs', fr, hc⟩ := hs b hb'
    exact foot_not hm hc (by decide) hf
  · rintro e w' ⟨rfl, vk', vc', hm', ht, g1, g2⟩
    exact ⟨rfl, has_join hm' h2 hd h1 h3 hb ht (foot_later g1 g2)⟩
/-- where a row of receipts lies -/
theorem OwnsR.typed {w : World} {B : Nat} {v : Value} {L : List Rc} (h : OwnsR rcK w B v L) : ∀ b, v.ownBlock = some b → ∃ cs fr, w.heap[b]? = some (.cells cs 31 fr) := by
  intro b hb
  rcases h.2.2 with ⟨rfl, _⟩ | ⟨g, cap, cur, rfl, _, h2, _⟩
  · cases hb
  · have e : g = b := by simpa [Value.ownBlock] using hb
    subst e
    exact ⟨cur, (0, 0), h2⟩
theorem OwnsR.typed' {w : World} {B : Nat} {v : Value} {L : List Rc} (h : OwnsR rcK w B v L) : ∀ b, sliceBlk v = some b → ∃ cs fr, w.heap[b]? = some (.cells cs 31 fr) := by
  intro b hb
  refine h.typed b ?_
  rcases h.2.2 with ⟨rfl, _⟩ | ⟨g, cap, cur, rfl, _, h2, _⟩
  · cases hb
  · exact hb
/-- a row grows, and is used up: the rest stays -/
theorem Has.dropGrown {T : Thing} {P : Program} {α : Type} {R : Rk P α} {v : Value} {xs : List α} {w0 w w' : World} (h : Has (T.both (RowsT R v xs)) w0 w) (hg : w.grownBy w' v.ownBlock) : Has T w0 w' := by
  obtain ⟨F, ⟨F1, F2, h1, h2, h3, h4⟩, h5, h6⟩ := h
  have ht : Turned (fun k => v.ownBlock = some k) w w' := (Turned.of_below (F := fun k => v.ownBlock = some k) (Below.refl _ w)).more hg (fun k e => .inl e)
  refine ⟨F1, T.kept h1 ht (fun k hk e => h3 k hk ((h2.2 k).2 e)), fun k hk => h5 k ((h4 k).2 (.inl hk)), h6.trans (ht.below h6.size fun k e => h5 k ((h4 k).2 (.inr ((h2.2 k).2 e))))⟩
theorem part_cells {w : World} {B g n cap : Nat} {L : List Rc} (h : OwnsR rcK w B (.slice (some ⟨g, 0, none⟩) n cap) L) (hn : L.length = n) {i j : Nat} (hij : i ≤ j) (hj : j ≤ n) {ad : Addr} (had : i < j → ad = ⟨g, i * 102, none⟩) :
    ∀ q u, (rcK.cells ((L.take j).drop i))[q]? = some u → w.cell? (ad.add q) = some u := by
  intro q u hu
  by_cases e : i < j
  · have hg : g < w.heap.size := by
      rcases h.2.2 with ⟨e1, _⟩ | ⟨g', c', cur, e1, _, h2, _⟩
      · cases e1
      · injection e1 with e1
        injection e1 with e1
        injection e1 with e1
        subst e1
        exact (Array.getElem?_eq_some_iff.1 h2).1
    obtain ⟨h1, h2⟩ := lies_part h hn i j hij hj hg (j - i) (Nat.le_refl _)
    rcases h2 with ⟨e1, _⟩ | ⟨g', o', c', e1, _, _, h3⟩
    · rw [e1] at hu; simp [Rk.cells] at hu
    · injection e1 with e1
      injection e1 with e1
      injection e1 with e1 e2
      subst e1 e2
      rw [had e]
      have := h3 q u hu
      by_cases e0 : q = 0
      · subst e0; simpa [Addr.add] using this
      · simpa [Addr.add, e0] using this
  · have : (L.take j).drop i = [] := List.drop_of_length_le (by rw [List.length_take]; omega)
    rw [this] at hu
    simp [Rk.cells] at hu
theorem OwnsR.empty {P : Program} {α : Type} (R : Rk P α) (w : World) : OwnsR R (w.alloc (.cells #[] R.ty)) w.heap.size (.slice (some ⟨w.heap.size, 0, none⟩) 0 0) [] :=
  ⟨by simp, by simp [Rk.cells], .inr ⟨w.heap.size, 0, #[], rfl, Nat.le_refl _, heap_alloc_new w _, Nat.le_refl _, Nat.zero_le _, by simp, by simp [Rk.cells]⟩⟩
theorem Has.mapRight {A B B' : Thing} {w0 w : World} (f : ∀ {w : World} {F : Nat → Prop}, B.On w F → B'.On w F) (h : Has (A.both B) w0 w) : Has (A.both B') w0 w := by
  obtain ⟨F, ⟨F1, F2, h1, h2, h3, h4⟩, h5⟩ := h
  exact ⟨F, ⟨F1, F2, h1, f h2, h3, h4⟩, h5⟩
theorem Has.assoc3 {X Y Z W : Thing} {w0 w : World} (h : Has ((X.both (Y.both Z)).both W) w0 w) : Has (X.both (Y.both (Z.both W))) w0 w := h.assoc.mapRight Thing.assoc
theorem Has.assoc4 {X Y Z V W : Thing} {w0 w : World} (h : Has ((X.both (Y.both (Z.both V))).both W) w0 w) : Has (X.both (Y.both ((Z.both V).both W))) w0 w := h.assoc.mapRight Thing.assoc
theorem form_app {w : World} {B n : Nat} {v : Value} {R : List Rc} {b : Rc} (h : OwnsR rcK w B v (R ++ [b])) (hn : R.length + 1 = n) : ∃ ao cap, v = .slice ao n cap := by
  obtain ⟨ao, cap, h | h⟩ := h.lies.slice (n := n) (by rw [List.length_append]; simpa using hn)
  · exact ⟨ao, cap, h.1⟩
  · exact ⟨ao, cap, h.1⟩
end Go.Proofs.YtpblfpnldbdncaaGreatDoor
