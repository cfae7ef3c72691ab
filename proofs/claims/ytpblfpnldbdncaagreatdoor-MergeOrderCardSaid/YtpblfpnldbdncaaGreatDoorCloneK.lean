/- For the walk of the law of clones: both orders in one shape; blocks beside each other; a batch of one. -/
import Derived.Test.YtpblfpnldbdncaaGreatDoorG24
import Derived.Test.YtpblfpnldbdncaaGreatDoorClash28
namespace Go.Proofs.YtpblfpnldbdncaaGreatDoor
open Go.RowKit Go.Sort Go.Maps
open Sg (Rc)
open Mg (Mst Jd H Pap Sale Pos zeroH)
set_option linter.unusedVariables false
set_option maxRecDepth 100000
structure ClonesU (first : Bool) (L : List Rc) (k : Nat) (a c A B : Rc) (st0 stX stY stZ : Mst) (e f : Int) : Prop where
  x1 : first = true → ∃ e0, st0.take rver rch 1 [c] = (stX, e0)
  x0 : first = false → stX = st0
  a1 : first = true → A = c ∧ B = a
  a0 : first = false → A = a ∧ B = c
  t1 : stX.take rver rch 1 L = (stY, e)
  t2 : stY.take rver rch 1 [c] = (stZ, f)
  ev : evids stZ [1, 2, 3] = [evOf 7 1 A B]
  le : cnt stZ 3 ≤ 72
  base : Base stZ
  fin0 : first = false → e = 0 ∧ f = 51 ∧ cnt stZ 3 = L.length
  fin1 : first = true → e = 51 ∧ (rch c ≠ rch a → (f = 0 ↔ k + 1 = L.length) ∧ cnt stZ 3 = k + 1)
theorem clonesU_plain (first : Bool) {L : List Rc} (hL : OwnL 1 L) {k : Nat} {a c : Rc} (ha : L[k]? = some a) (hb1 : c.kiosk = 1) (hb2 : c.serial = a.serial) (hb3 : c.seen = a.seen) (hb6 : c.prev = a.prev) (hb7 : HonRc c) (hb4 : c ≠ a) (hb5 : rver ((pubK 1 : Nat) : Int) c = true) {st0 : Mst} (h0 : Base st0) (hk : Keeps st0 []) (hc : st0.clones = fun _ => none) :
    ∃ A B stX stY stZ e f, ClonesU first L k a c A B st0 stX stY stZ e f := by
  cases first
  · obtain ⟨st1, st2, h⟩ := clonesA_plain hL ha hb1 hb2 hb3 (Ne.symm hb4) hb5 h0 hk hc
    exact ⟨a, c, st0, st1, st2, 0, 51, fun h => (by cases h), fun _ => rfl, fun h => (by cases h), fun _ => ⟨rfl, rfl⟩, h.t1, h.t2, h.ev, by rw [h.c2]; have := hL.len; omega, h.b2, fun _ => ⟨rfl, rfl, h.c2⟩, fun h => (by cases h)⟩
  · obtain ⟨st1, st2, st3, e, f, h⟩ := clonesB_plain hL ha hb1 hb2 hb3 hb6 hb7 hb4 hb5 h0 hk hc
    exact ⟨c, a, st1, st2, st3, 51, f, fun _ => ⟨e, h.t0⟩, fun h => (by cases h), fun _ => ⟨rfl, rfl⟩, fun h => (by cases h), h.t1, h.t2, h.ev, h.le, h.b3, fun h => (by cases h), fun _ => ⟨rfl, h.ok⟩⟩
/-! blocks beside each other -/
theorem Has.setBlk2 {T Q : Thing} {b : Nat} {o o' : Obj} {w0 w w' : World} (h : Has ((T.both (BlkT b o)).both Q) w0 w) (ht : Turned (fun k => k = b) w w') (hg : w'.heap[b]? = some o') : Has ((T.both (BlkT b o')).both Q) w0 w' := by
  obtain ⟨F, ⟨F1, F2, ⟨G1, G2, g1, g2, g3, g4⟩, h2, h3, h4⟩, h5, h6⟩ := h
  exact ⟨F, ⟨F1, F2, ⟨G1, G2, T.kept g1 ht (fun k hk e => g3 k hk ((g2.2 k).2 e)), ⟨hg, g2.2⟩, g3, g4⟩, Q.kept h2 ht (fun k hk e => h3 k ((g4 k).2 (.inr ((g2.2 k).2 e))) hk), h3, h4⟩, h5,
    h6.trans (ht.below h6.size fun k e => h5 k ((h4 k).2 (.inl ((g4 k).2 (.inr ((g2.2 k).2 e))))))⟩
theorem Has.swap3 {T X Y : Thing} {w0 w : World} (h : Has ((T.both X).both Y) w0 w) : Has ((T.both Y).both X) w0 w := (h.assoc.mapRight Thing.swap).assoc'
/-- what the walk looks at: a receipt in the list, a receipt in a variable -/
def AtS (g k : Nat) (a : Rc) (ob : Nat) (c : Rc) (W : World) : Prop := (RcAt W g (k * 102) a ∧ g < W.heap.size) ∧ W.heap[ob]? = some (rcBlk c)
theorem AtS.below {g k ob : Nat} {a c : Rc} {W W' : World} (h : AtS g k a ob c W) (hb : Below W.heap.size W W') : AtS g k a ob c W' :=
  ⟨⟨fun j v hv => (hb.cell (p := ⟨g, k * 102 + j, none⟩) h.1.2).trans (h.1.1 j v hv), Nat.lt_of_lt_of_le h.1.2 hb.size⟩, heap_below h.2 hb⟩
theorem AtS.one {g k ob : Nat} {a c : Rc} {W : World} (h : AtS g k a ob c W) (ha : RcOk a) : (loadVar 31 ⟨g, k * 102, none⟩).run Tryz.prog W = .ok (.agg (rcArr a)) W := load_rc_at ha h.1.1
theorem AtS.var {g k ob : Nat} {a c : Rc} {W : World} (h : AtS g k a ob c W) (hc : RcOk c) : (loadVar 31 ⟨ob, 0, none⟩).run Tryz.prog W = .ok (.agg (rcArr c)) W := load_rc_at hc (RcAt.of_row h.2)
abbrev RB (g n cap : Nat) (L : List Rc) (ob : Nat) (c : Rc) : Thing := (RowsT rcK (.slice (some ⟨g, 0, none⟩) n cap) L).both (BlkT ob (rcBlk c))
theorem AtS.of_has {g n cap k ob : Nat} {L : List Rc} {a c : Rc} {w0 w : World} (h : Has (RB g n cap L ob c) w0 w) (ha : L[k]? = some a) : AtS g k a ob c w := by
  refine ⟨⟨h.left.rows.rcAt ha, ?_⟩, h.right.blk⟩
  obtain ⟨cs, fr, h⟩ := h.left.rows.typed g rfl
  exact (Array.getElem?_eq_some_iff.1 h).1
/-- evidence, and two receipts in variables -/
def EvS (ra rb : Nat) (A B : Rc) (ge ce : Nat) (E : List Ev) (W : World) : Prop := (W.heap[ra]? = some (rcBlk A) ∧ W.heap[rb]? = some (rcBlk B)) ∧ LiesR evK W (.slice (some ⟨ge, 0, none⟩) E.length ce) E
theorem EvS.below {ra rb ge ce : Nat} {A B : Rc} {E : List Ev} {w w' : World} (h : EvS ra rb A B ge ce E w) (hb : Below w.heap.size w w') : EvS ra rb A B ge ce E w' := ⟨⟨heap_below h.1.1 hb, heap_below h.1.2 hb⟩, h.2.below hb⟩
theorem EvS.kind {ra rb ge ce : Nat} {A B : Rc} {E : List Ev} {w : World} (h : EvS ra rb A B ge ce E w) {k o : Nat} {e : Ev} (hx : E[k]? = some e) (ho : o = k * 19) {z : Int} (hz : e.kind = z) : (loadVar 3 ⟨ge, o, none⟩).run Tryz.prog w = .ok (.int .i64 z) w :=
  load_i64 (ev_cell h.2 hx (j := 0) (by omega) (by rw [← hz]; rfl))
theorem EvS.who {ra rb ge ce : Nat} {A B : Rc} {E : List Ev} {w : World} (h : EvS ra rb A B ge ce E w) {k o : Nat} {e : Ev} (hx : E[k]? = some e) (ho : o = k * 19 + 1) {z : Int} (hz : e.who = z) : (loadVar 3 ⟨ge, o, none⟩).run Tryz.prog w = .ok (.int .i64 z) w :=
  load_i64 (ev_cell h.2 hx (j := 1) ho (by rw [← hz]; rfl))
theorem EvS.ta {ra rb ge ce : Nat} {A B : Rc} {E : List Ev} {w : World} (h : EvS ra rb A B ge ce E w) {k o : Nat} {e : Ev} (hx : E[k]? = some e) (ho : o = k * 19 + 3) {s : ByteArray} (hs : bstr e.ta = s) : (loadVar 9 ⟨ge, o, none⟩).run Tryz.prog w = .ok (.string s) w :=
  load_str (ev_cell h.2 hx (j := 3) ho (by rw [← hs]; rfl))
theorem EvS.tb {ra rb ge ce : Nat} {A B : Rc} {E : List Ev} {w : World} (h : EvS ra rb A B ge ce E w) {k o : Nat} {e : Ev} (hx : E[k]? = some e) (ho : o = k * 19 + 7) {s : ByteArray} (hs : bstr e.tb = s) : (loadVar 9 ⟨ge, o, none⟩).run Tryz.prog w = .ok (.string s) w :=
  load_str (ev_cell h.2 hx (j := 7) ho (by rw [← hs]; rfl))
theorem EvS.va {ra rb ge ce : Nat} {A B : Rc} {E : List Ev} {w : World} (h : EvS ra rb A B ge ce E w) (hA : RcOk A) : (loadVar 31 ⟨ra, 0, none⟩).run Tryz.prog w = .ok (.agg (rcArr A)) w := load_rc_at hA (RcAt.of_row h.1.1)
theorem EvS.vb {ra rb ge ce : Nat} {A B : Rc} {E : List Ev} {w : World} (h : EvS ra rb A B ge ce E w) (hB : RcOk B) : (loadVar 31 ⟨rb, 0, none⟩).run Tryz.prog w = .ok (.agg (rcArr B)) w := load_rc_at hB (RcAt.of_row h.1.2)
/-- a batch of one -/
theorem take_one {p : Nat} {st : Mst} {n : Nat} {Q : Thing} {w0 w : World} (h : Has ((MrgT p st n).both Q) w0 w) (hE : Env w0) (k : Int) (hk : I64 k) {c : Rc} (hc : RcOk c) (hn : n + 1 ≤ 10000) {r : Mst × Int} (hr : st.take rver rch k [c] = r) :
    Calls Tryz.prog 18 #[.pointer (some ⟨p, 0, none⟩), .agg #[.int .i64 k, .slice (some ⟨w.heap.size, 0, none⟩) 1 1]] (w.alloc (.cells (rcK.enc c).toArray rcK.ty)) (Out1 ((MrgT p r.1 (n + 1)).both Q) w0 (.int .i64 r.2)) := by
  have bz : Below w.heap.size w (w.alloc (.cells (rcK.enc c).toArray rcK.ty)) := (Below.refl _ _).alloc (Nat.le_refl _) _
  have hb := heap_alloc_new w (.cells (rcK.enc c).toArray rcK.ty)
  have hl : LiesR rcK (w.alloc (.cells (rcK.enc c).toArray rcK.ty)) (.slice (some ⟨w.heap.size, 0, none⟩) 1 1) [c] := lies_new (R := rcK) (xs := [c]) (by rw [cells_one]; exact hb) rfl (fun x hx => by simp only [List.mem_cons, List.not_mem_nil, or_false] at hx; subst hx; exact hc)
  have := take_rows (h.below bz) hE k hk hl (fun b hb' => by
    have e : w.heap.size = b := by simpa [sliceBlk] using hb'
    rw [← e]
    exact ⟨_, _, hb⟩) hn
  rw [hr] at this
  exact this
end Go.Proofs.YtpblfpnldbdncaaGreatDoor
