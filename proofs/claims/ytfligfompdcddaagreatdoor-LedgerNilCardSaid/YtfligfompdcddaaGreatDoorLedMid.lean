/- In the middle of Post: facts on the memory of a ledger. -/
import Derived.Test.YtfligfompdcddaaGreatDoorLedOps
import Derived.Deep.Cut
import Derived.WalkSpells
import Derived.Deep.CutBlock
import Derived.Deep.DeepCutAuto
import Derived.Deep.AppendLies
namespace Go.Proofs.YtfligfompdcddaaGreatDoor
open Go.RowKit Go.Sort Go.Maps
set_option linter.unusedVariables false
/-- what a call of Post gives: the code, the postings -/
def Posted (p : Nat) (r : Int × List Pst) (c : Nat) (F : Nat → Prop) (w : World) (e : Ending) (w' : World) : Prop :=
  ∃ F', e = .returned (.int .i64 r.1) ∧ LedIn w' p r.2 c F' ∧ Turned F w w' ∧ ∀ k, F' k → F k ∨ w.heap.size ≤ k
theorem Posted.same {p : Nat} {L : List Pst} {c c' : Nat} {vs vk vb : Value} {w w' : World} {n : Int} (h : LedAt w p vs vk vb L c) (hc : c ≤ c') (hb : Below w.heap.size w w') : Posted p (n, L) c' (Foot p vs vk vb) w (.returned (.int .i64 n)) w' := by
  refine ⟨Foot p vs vk vb, rfl, ⟨vs, vk, vb, ?_, rfl⟩, Turned.of_below hb, fun k hk => .inl hk⟩
  have h2 := h.below hb
  refine ⟨h2.cells, h2.row, h2.ok, ?_⟩
  rcases h2.maps with h1 | ⟨bk, bb, f, e1, e2, hne, m1, m2, hf⟩
  · exact .inl h1
  · exact .inr ⟨bk, bb, f, e1, e2, hne, m1.mono hc, m2.mono hc, hf⟩
theorem LedAt.slice {w : World} {p : Nat} {vs vk vb : Value} {L : List Pst} {c : Nat} (h : LedAt w p vs vk vb L c) : ∃ ao cap, vs = .slice ao L.length cap := by
  rcases h.row.2 with ⟨h1, h2⟩ | ⟨g, cap, cur, h1, _⟩
  · exact ⟨none, 0, by rw [h1, h2]⟩
  · exact ⟨_, cap, h1⟩
theorem grownBy_setCellP (w : World) (b o : Nat) (v : Value) : w.grownBy (w.setCell ⟨b, o, none⟩ v) (some b) :=
  ⟨rfl, rfl, rfl, by simp, fun k hk hne => heap_setCell_other _ _ _ _ (fun e => hne (by rw [e]))⟩
/-- in the middle of Post: both maps are made -/
structure Mid (w : World) (p : Nat) (vs : Value) (n : Nat) (xs : List Value) (q : Pst) (F : Nat → Prop) (wx : World) (bk bb : Nat) (ck cb : Nat) (fk f : Sf) : Prop where
  cells : wx.heap[p]? = some (.cells #[vs, .map (some bk), .map (some bb)] 51 (0, 0))
  row : wx.ownsRow 0 24 4 vs n xs
  ne : bk ≠ bb
  m1 : MapAt wx bk ck fk
  m2 : MapAt wx bb cb f
  box : wx.heap[w.heap.size]? = some (.cells q.arr 24 (0, 0))
  turned : Turned F w wx
  fk : F bk ∨ w.heap.size < bk
  fb : F bb ∨ w.heap.size < bb
  fp : F p
  fs : ∀ k, blkOf vs = some k → F k ∨ w.heap.size < k
  lt : ∀ k, F k → k < w.heap.size
theorem row_ne {w : World} {p : Nat} {vs : Value} {n : Nat} {xs : List Value} {cs : Array Value} (hc : w.heap[p]? = some (.cells cs 51 (0, 0))) (hr : w.ownsRow 0 24 4 vs n xs) : vs.ownBlock ≠ some p := by
  rcases hr.2 with ⟨rfl, _⟩ | ⟨g, cap, cur, rfl, _, hg, _⟩
  · simp [Value.ownBlock]
  · intro e
    have : g = p := by simpa [Value.ownBlock] using e
    subst this
    rw [hc] at hg
    injection hg with hg
    injection hg with _ hg
    exact absurd hg (by decide)
theorem map_ne {w : World} {p b n : Nat} {f : Sf} {cs : Array Value} {ty : TypeId} (hc : w.heap[p]? = some (.cells cs ty (0, 0))) (hm : MapAt w b n f) : b ≠ p := by
  rintro rfl
  obtain ⟨D, ⟨es, clock, e1, _⟩, _⟩ := hm
  rw [hc] at e1; cases e1
theorem map_ne_row {w : World} {b c n : Nat} {f : Sf} {vs : Value} {xs : List Value} (hm : MapAt w b c f) (hr : w.ownsRow 0 24 4 vs n xs) : vs.ownBlock ≠ some b := by
  rcases hr.2 with ⟨rfl, _⟩ | ⟨g, cap, cur, rfl, _, hg, _⟩
  · simp [Value.ownBlock]
  · intro e
    have : g = b := by simpa [Value.ownBlock] using e
    subst this
    exact map_ne hg hm rfl
theorem own_blk {w : World} {vs : Value} {n : Nat} {xs : List Value} (hr : w.ownsRow 0 24 4 vs n xs) : vs.ownBlock = blkOf vs := by
  rcases hr.2 with ⟨rfl, _⟩ | ⟨g, cap, cur, rfl, _⟩ <;> rfl

theorem Turned.more {F : Nat → Prop} {w wx w1 : World} {row : Option Nat} (h : Turned F w wx) (hg : wx.grownBy w1 row) (hr : ∀ k, row = some k → F k ∨ w.heap.size ≤ k) : Turned F w w1 :=
  h.trans (Turned.of_grown (F := fun k => row = some k) hg (fun k e => e)) hr
theorem Mid.box_lt {w : World} {p : Nat} {vs : Value} {n : Nat} {xs : List Value} {q : Pst} {F : Nat → Prop} {wx : World} {bk bb ck cb : Nat} {fk f : Sf} (h : Mid w p vs n xs q F wx bk bb ck cb fk f) : w.heap.size < wx.heap.size := (Array.getElem?_eq_some_iff.1 h.box).1
theorem Mid.bk_ne {w : World} {p : Nat} {vs : Value} {n : Nat} {xs : List Value} {q : Pst} {F : Nat → Prop} {wx : World} {bk bb ck cb : Nat} {fk f : Sf} (h : Mid w p vs n xs q F wx bk bb ck cb fk f) : bk ≠ w.heap.size ∧ bb ≠ w.heap.size := by
  refine ⟨?_, ?_⟩
  · rcases h.fk with g | g
    · have := h.lt _ g; omega
    · omega
  · rcases h.fb with g | g
    · have := h.lt _ g; omega
    · omega
theorem Mid.map1 {w : World} {p : Nat} {vs : Value} {n : Nat} {xs : List Value} {q : Pst} {F : Nat → Prop} {wx w1 : World} {bk bb ck cb ck' : Nat} {fk f fk' : Sf} (h : Mid w p vs n xs q F wx bk bb ck cb fk f)
    (hg : wx.grownBy w1 (some bk)) (m : MapAt w1 bk ck' fk') : Mid w p vs n xs q F w1 bk bb ck' cb fk' f := by
  refine ⟨?_, h.row.kept hg (.inr (map_ne_row h.m1 h.row)), h.ne, m, h.m2.kept hg (by intro e; injection e with e; exact h.ne e.symm), ?_, ?_, h.fk, h.fb, h.fp, h.fs, h.lt⟩
  · rw [hg.block p (Array.getElem?_eq_some_iff.1 h.cells).1 (by intro e; injection e with e; exact map_ne h.cells h.m1 e.symm)]
    exact h.cells
  · rw [hg.block _ h.box_lt (by intro e; injection e with e; exact h.bk_ne.1 e.symm)]
    exact h.box
  · exact h.turned.more hg (fun k e => by injection e with e; subst e; rcases h.fk with g | g; exact .inl g; exact .inr (by omega))
theorem Mid.map2 {w : World} {p : Nat} {vs : Value} {n : Nat} {xs : List Value} {q : Pst} {F : Nat → Prop} {wx w1 : World} {bk bb ck cb cb' : Nat} {fk f f' : Sf} (h : Mid w p vs n xs q F wx bk bb ck cb fk f)
    (hg : wx.grownBy w1 (some bb)) (m : MapAt w1 bb cb' f') : Mid w p vs n xs q F w1 bk bb ck cb' fk f' := by
  refine ⟨?_, h.row.kept hg (.inr (map_ne_row h.m2 h.row)), h.ne, h.m1.kept hg (by intro e; injection e with e; exact h.ne e), m, ?_, ?_, h.fk, h.fb, h.fp, h.fs, h.lt⟩
  · rw [hg.block p (Array.getElem?_eq_some_iff.1 h.cells).1 (by intro e; injection e with e; exact map_ne h.cells h.m2 e.symm)]
    exact h.cells
  · rw [hg.block _ h.box_lt (by intro e; injection e with e; exact h.bk_ne.2 e.symm)]
    exact h.box
  · exact h.turned.more hg (fun k e => by injection e with e; subst e; rcases h.fb with g | g; exact .inl g; exact .inr (by omega))
theorem Mid.below {w : World} {p : Nat} {vs : Value} {n : Nat} {xs : List Value} {q : Pst} {F : Nat → Prop} {wx w1 : World} {bk bb ck cb : Nat} {fk f : Sf} (h : Mid w p vs n xs q F wx bk bb ck cb fk f)
    (hb : Below wx.heap.size wx w1) : Mid w p vs n xs q F w1 bk bb ck cb fk f := by
  have hg : wx.grownBy w1 none := ⟨hb.os, hb.tape, hb.output, hb.size, fun k hk _ => hb.block k hk⟩
  refine ⟨heap_below h.cells hb, ?_, h.ne, h.m1.below hb, h.m2.below hb, heap_below h.box hb, h.turned.more hg (fun k e => by cases e), h.fk, h.fb, h.fp, h.fs, h.lt⟩
  exact h.row.kept hg (by rcases h.row.2 with ⟨rfl, _⟩ | ⟨g, cap, cur, rfl, _⟩; exact .inl rfl; exact .inr (by simp [Value.ownBlock]))
theorem Mid.mono1 {w : World} {p : Nat} {vs : Value} {n : Nat} {xs : List Value} {q : Pst} {F : Nat → Prop} {wx : World} {bk bb ck cb ck' : Nat} {fk f : Sf} (h : Mid w p vs n xs q F wx bk bb ck cb fk f) (hc : ck ≤ ck') : Mid w p vs n xs q F wx bk bb ck' cb fk f :=
  ⟨h.cells, h.row, h.ne, h.m1.mono hc, h.m2, h.box, h.turned, h.fk, h.fb, h.fp, h.fs, h.lt⟩
/-- the append, and the store of the new slice -/
theorem Mid.push {w : World} {p : Nat} {vs v' : Value} {n : Nat} {xs : List Value} {q : Pst} {F : Nat → Prop} {wx w1 : World} {bk bb ck cb : Nat} {fk f : Sf} {n' : Nat} {xs' : List Value} (h : Mid w p vs n xs q F wx bk bb ck cb fk f)
    (hg : wx.grownBy w1 vs.ownBlock) (hr : w1.ownsRow 0 24 4 v' n' xs') (hv : v'.ownBlock = vs.ownBlock ∨ ∃ k, v'.ownBlock = some k ∧ wx.heap.size ≤ k) : Mid w p v' n' xs' q F (w1.setCell ⟨p, 0, none⟩ v') bk bb ck cb fk f := by
  have hpl := (Array.getElem?_eq_some_iff.1 h.cells).1
  have rn := row_ne h.cells h.row
  have ob := own_blk h.row
  have fs' : ∀ k, vs.ownBlock = some k → F k ∨ w.heap.size < k := fun k e => h.fs k (by rw [← ob]; exact e)
  have c1 : w1.heap[p]? = _ := (hg.block p hpl (Ne.symm rn)).trans h.cells
  have c2 := heap_setCell_same w1 p 0 _ _ v' c1
  have g2 := grownBy_setCellP w1 p 0 v'
  have vn : v'.ownBlock ≠ some p := row_ne c1 hr
  have nb1 : vs.ownBlock ≠ some w.heap.size := fun e => by rcases fs' _ e with g | g; have := h.lt _ g; omega; omega
  have n1 := map_ne h.cells h.m1
  have n2 := map_ne h.cells h.m2
  have pf := h.lt _ h.fp
  refine ⟨c2, hr.kept g2 (.inr vn), h.ne, (h.m1.kept hg (Ne.symm (map_ne_row h.m1 h.row))).kept g2 (by intro e; injection e with e; exact n1 e), (h.m2.kept hg (Ne.symm (map_ne_row h.m2 h.row))).kept g2 (by intro e; injection e with e; exact n2 e), ?_, ?_, h.fk, h.fb, h.fp, ?_, h.lt⟩
  · rw [g2.block _ (by have := hg.size; have := h.box_lt; omega) (by intro e; injection e with e; omega), hg.block _ h.box_lt (Ne.symm nb1)]
    exact h.box
  · exact (h.turned.more hg (fun k e => by rcases fs' _ e with g | g; exact .inl g; exact .inr (by omega))).more g2 (fun k e => by injection e with e; subst e; exact .inl h.fp)
  · intro k hk
    rw [← own_blk hr] at hk
    rcases hv with e | ⟨j, e, hj⟩
    · exact fs' k (by rw [← e]; exact hk)
    · rw [e] at hk
      injection hk with hk
      exact .inr (by have := h.box_lt; omega)
/-- .. at the end -/
theorem Mid.posted {w : World} {p : Nat} {vs : Value} {L : List Pst} {q : Pst} {F : Nat → Prop} {wx : World} {bk bb c : Nat} {fk f : Sf} (h : Mid w p vs (L ++ [q]).length (rowP (L ++ [q])) q F wx bk bb c c fk f)
    (hk : ∀ s, fk s = keysF (L ++ [q]) s) (hf : ∀ a, (f a).getD 0 = Led.bal (L ++ [q]) a) (hok : Led.Ok (L ++ [q])) : Posted p (0, L ++ [q]) c F w (.returned (.int .i64 0)) wx := by
  refine ⟨Foot p vs (.map (some bk)) (.map (some bb)), rfl, ⟨vs, _, _, ⟨h.cells, h.row, hok, .inr ⟨bk, bb, f, rfl, rfl, h.ne, h.m1.congr hk, h.m2, hf⟩⟩, rfl⟩, h.turned, ?_⟩
  rintro k (rfl | hk | hk | hk)
  · exact .inl h.fp
  · rcases h.fs k hk with g | g
    · exact .inl g
    · exact .inr (by omega)
  · injection hk with hk; subst hk
    rcases h.fk with g | g
    · exact .inl g
    · exact .inr (by omega)
  · injection hk with hk; subst hk
    rcases h.fb with g | g
    · exact .inl g
    · exact .inr (by omega)
theorem mid_some {w wc : World} {p bk bb : Nat} {vs : Value} {L : List Pst} {c : Nat} {q : Pst} {F : Nat → Prop} {f : Sf} (h : LedAt wc p vs (.map (some bk)) (.map (some bb)) L c) (hne : bk ≠ bb) (m1 : MapAt wc bk c (keysF L)) (m2 : MapAt wc bb c f) 
    (hb : Below w.heap.size w wc) (hq : wc.heap[w.heap.size]? = some (.cells q.arr 24 (0, 0))) (hF : Foot p vs (.map (some bk)) (.map (some bb)) = F) (hlt : ∀ k, F k → k < w.heap.size) : Mid w p vs L.length (rowP L) q F wc bk bb c c (keysF L) f := by
  subst hF
  exact ⟨h.cells, h.row, hne, m1, m2, hq, Turned.of_below hb, .inl (.inr (.inr (.inl rfl))), .inl (.inr (.inr (.inr rfl))), .inl rfl, fun k hk => .inl (.inr (.inl hk)), hlt⟩
theorem mid_nil {w wc : World} {p : Nat} {vs : Value} {L : List Pst} {c : Nat} {q : Pst} {F : Nat → Prop} (h : LedAt wc p vs (.map none) (.map none) L c) (hL : L = [])
    (hb : Below w.heap.size w wc) (hq : wc.heap[w.heap.size]? = some (.cells q.arr 24 (0, 0))) (hF : Foot p vs (.map none) (.map none) = F) (hlt : ∀ k, F k → k < w.heap.size) :
    Mid w p vs L.length (rowP L) q F ((((wc.alloc (.map #[] 0)).setCell ⟨p, 1, none⟩ (.map (some wc.heap.size))).alloc (.map #[] 0)).setCell ⟨p, 2, none⟩ (.map (some (wc.heap.size + 1)))) wc.heap.size (wc.heap.size + 1) c c (keysF L) (fun _ => none) := by
  subst hF hL
  have hpl := (Array.getElem?_eq_some_iff.1 h.cells).1
  have hwl := (Array.getElem?_eq_some_iff.1 hq).1
  have h1 : (wc.alloc (.map #[] 0)).heap[p]? = some (.cells #[vs, .map none, .map none] 51 (0, 0)) := (Below.heap_alloc _ _ _ hpl).trans h.cells
  have h2 := heap_setCell_same (wc.alloc (.map #[] 0)) p 1 _ _ (.map (some wc.heap.size)) h1
  have h3 : (((wc.alloc (.map #[] 0)).setCell ⟨p, 1, none⟩ (.map (some wc.heap.size))).alloc (.map #[] 0)).heap[p]? = _ := (Below.heap_alloc _ _ _ (by simp; omega)).trans h2
  have h4 := heap_setCell_same _ p 2 _ _ (.map (some (wc.heap.size + 1))) h3
  have g1 : wc.grownBy (wc.alloc (.map #[] 0)) none := World.grownBy_alloc _ _ none
  have g2 := grownBy_setCellP (wc.alloc (.map #[] 0)) p 1 (.map (some wc.heap.size))
  have g3 : ((wc.alloc (.map #[] 0)).setCell ⟨p, 1, none⟩ (.map (some wc.heap.size))).grownBy (((wc.alloc (.map #[] 0)).setCell ⟨p, 1, none⟩ (.map (some wc.heap.size))).alloc (.map #[] 0)) none := World.grownBy_alloc _ _ none
  have g4 := grownBy_setCellP (((wc.alloc (.map #[] 0)).setCell ⟨p, 1, none⟩ (.map (some wc.heap.size))).alloc (.map #[] 0)) p 2 (.map (some (wc.heap.size + 1)))
  have rn := row_ne h.cells h.row
  have hsz : ((wc.alloc (.map #[] 0)).setCell ⟨p, 1, none⟩ (.map (some wc.heap.size))).heap.size = wc.heap.size + 1 := by simp
  have hpw : p < w.heap.size := hlt p (.inl rfl)
  refine ⟨h4, ?_, by omega, ?_, ?_, ?_, ?_, .inr ?_, .inr ?_, .inl rfl, fun k hk => .inl (.inr (.inl hk)), hlt⟩
  · have r0 := h.row.kept g1 (by rcases h.row.2 with ⟨rfl, _⟩ | ⟨g, cap, cur, rfl, _⟩; exact .inl rfl; exact .inr (by simp [Value.ownBlock]))
    have r1 := r0.kept g2 (.inr rn)
    have r2 := r1.kept g3 (by rcases r1.2 with ⟨rfl, _⟩ | ⟨g, cap, cur, rfl, _⟩; exact .inl rfl; exact .inr (by simp [Value.ownBlock]))
    exact r2.kept g4 (.inr rn)
  · have m0 := (MapAt.made wc).mono (Nat.zero_le c)
    have m1 := m0.kept g2 (by intro e; injection e with e; omega)
    have m2 := m1.kept g3 (by simp)
    exact m2.kept g4 (by intro e; injection e with e; omega)
  · have m0 := (MapAt.made ((wc.alloc (.map #[] 0)).setCell ⟨p, 1, none⟩ (.map (some wc.heap.size)))).mono (Nat.zero_le c)
    rw [hsz] at m0
    exact m0.kept g4 (by intro e; injection e with e; omega)
  · rw [g4.block _ (by simp; omega) (by intro e; injection e with e; omega), g3.block _ (by simp; omega) (by simp), g2.block _ (by simp; omega) (by intro e; injection e with e; omega), g1.block _ hwl (by simp)]
    exact hq
  · have t0 : Turned (Foot p vs (.map none) (.map none)) w wc := Turned.of_below hb
    have step : ∀ {A B : World} {row : Option Nat}, A.grownBy B row → (∀ k, row = some k → k = p) → Turned (Foot p vs (.map none) (.map none)) A B := fun hg hr => Turned.of_grown hg (fun k e => .inl (hr k e))
    exact (((t0.trans (step g1 (fun k e => by cases e)) (fun k h => .inl h)).trans (step g2 (fun k e => by injection e with e; exact e.symm)) (fun k h => .inl h)).trans (step g3 (fun k e => by cases e)) (fun k h => .inl h)).trans (step g4 (fun k e => by injection e with e; exact e.symm)) (fun k h => .inl h)
  · exact hwl
  · omega

theorem find_snoc (L : List Pst) (q : Pst) (s : ByteArray) : Led.find (L ++ [q]) s = match Led.find L s with | some i => some i | none => if q.key = s then some L.length else none := by
  unfold Led.find
  rw [List.findIdx?_append]
  cases List.findIdx? (fun p => decide (p.key = s)) L with
  | some i => rfl
  | none =>
    by_cases h : q.key = s <;> simp [List.findIdx?_cons, h]
theorem keysF_snoc {L : List Pst} {q : Pst} (h : Led.find L q.key = none) (s : ByteArray) : setS (keysF L) q.key L.length s = keysF (L ++ [q]) s := by
  unfold setS keysF
  rw [find_snoc]
  by_cases e : s = q.key
  · subst e
    rw [if_pos rfl, h]
    simp
  · rw [if_neg e]
    cases Led.find L s with
    | some i => rfl
    | none => simp only [if_neg (Ne.symm e)]
theorem bal_after {L : List Pst} {q : Pst} {f : Sf} (hf : ∀ a, (f a).getD 0 = Led.bal L a) (hne : q.src ≠ q.dst) (a : ByteArray) :
    (setS (setS f q.src (Led.bal L q.src - q.amt)) q.dst (Led.bal L q.dst + q.amt) a).getD 0 = Led.bal (L ++ [q]) a := by
  rw [Led.bal_snoc]
  unfold setS Led.turn
  by_cases e : a = q.dst
  · subst e
    rw [if_pos rfl, if_pos rfl, if_neg hne]
    simp
  · rw [if_neg e, if_neg (Ne.symm e)]
    by_cases e2 : a = q.src
    · subst e2
      rw [if_pos rfl, if_pos rfl]
      simp; omega
    · rw [if_neg e2, if_neg (Ne.symm e2), hf]
      omega
theorem right_ne {q : Pst} (h : Led.right q = true) : q.src ≠ q.dst := by
  simp only [Led.right, Bool.and_eq_true, Bool.not_eq_true', decide_eq_false_iff_not] at h
  exact h.1.1.2
theorem find_none {L : List Pst} {k : ByteArray} (h : Led.find L k = none) : ∀ p ∈ L, p.key ≠ k := by
  intro p hp e
  have := List.findIdx?_eq_none_iff.1 h p hp
  simp [e] at this
theorem ok_snoc {L : List Pst} {q : Pst} (h : Led.Ok L) (hq : Led.right q = true) (hl : L.length < 100000) (hf : Led.find L q.key = none) : Led.Ok (L ++ [q]) :=
  ⟨fun p hp => by rcases List.mem_append.1 hp with h1 | h1; exact h.1 p h1; rw [List.mem_singleton.1 h1]; exact hq, by simp; omega,
    List.pairwise_append.2 ⟨h.2.2, List.pairwise_singleton _ _, fun a ha b hb => by rw [List.mem_singleton.1 hb]; exact find_none hf a ha⟩⟩
theorem ok_prefix {L : List Pst} {q : Pst} (h : Led.Ok (L ++ [q])) : Led.Ok L ∧ Led.right q = true ∧ Led.find L q.key = none ∧ L.length < 100000 := by
  refine ⟨⟨fun p hp => h.1 p (by simp [hp]), by have := h.2.1; simp at this; omega, (List.pairwise_append.1 h.2.2).1⟩, h.1 q (by simp), ?_, by have := h.2.1; simp at this; omega⟩
  unfold Led.find
  rw [List.findIdx?_eq_none_iff]
  intro p hp
  simpa using (List.pairwise_append.1 h.2.2).2.2 p hp q (by simp)
theorem owns_prefix {w : World} {base : Nat} {e : TypeId} {size : Nat} {ao : Option Addr} {n m cap : Nat} {xs ys : List Value} (h : w.ownsRow base e size (.slice ao (n + m) cap) (n + m) (xs ++ ys)) (hm : 0 < m) (hx : xs.length = n * size) : w.ownsRow base e size (.slice ao n cap) n xs := by
  refine ⟨hx, ?_⟩
  rcases h.2 with ⟨h1, h2⟩ | ⟨g, cap', cur, h1, h2, h3, h4, h5, h6, h7⟩
  · omega
  · injection h1 with h1 _ hc
    subst h1 hc
    refine .inr ⟨g, cap, cur, rfl, h2, h3, by omega, h5, h6, ?_⟩
    have : (cur.toList.take ((n + m) * size)).take (n * size) = (xs ++ ys).take (n * size) := by rw [h7]
    rw [List.take_take, Nat.min_eq_left (Nat.mul_le_mul_right _ (by omega)), ← hx, List.take_left] at this
    rw [← hx]
    exact this
/-- in the middle of undo: the last posting is struck from the row -/
theorem mid_undo {w : World} {p bk bb : Nat} {ao : Option Addr} {n cap : Nat} {L : List Pst} {c : Nat} {q : Pst} {f : Sf} (h : LedAt w p (.slice ao (n + 1) cap) (.map (some bk)) (.map (some bb)) (L ++ [q]) c) (hn : L.length = n)
    (hne : bk ≠ bb) (m1 : MapAt w bk c (keysF (L ++ [q]))) (m2 : MapAt w bb c f) :
    Mid w p (.slice ao n cap) L.length (rowP L) q (Foot p (.slice ao (n + 1) cap) (.map (some bk)) (.map (some bb))) ((w.alloc (.cells q.arr 24)).setCell ⟨p, 0, none⟩ (.slice ao n cap)) bk bb c c (keysF (L ++ [q])) f := by
  have hb : Below w.heap.size w (w.alloc (.cells q.arr 24)) := (Below.refl _ _).alloc (Nat.le_refl _) _
  have h1 := h.below hb
  have g2 := grownBy_setCellP (w.alloc (.cells q.arr 24)) p 0 (.slice ao n cap)
  have fl := h.foot_lt
  have row1 := h1.row
  rw [rowP_snoc, List.length_append, List.length_singleton, hn] at row1
  have row2 : (w.alloc (.cells q.arr 24)).ownsRow 0 24 4 (.slice ao n cap) n (rowP L) := owns_prefix row1 (by omega) (by rw [rowP_length, hn])
  have rn := row_ne h1.cells row2
  have n1 := map_ne h.cells m1
  have n2 := map_ne h.cells m2
  have pf : p < w.heap.size := fl p (.inl rfl)
  rw [hn]
  refine ⟨heap_setCell_same _ p 0 _ _ _ h1.cells, row2.kept g2 (.inr rn), hne, (m1.below hb).kept g2 (by intro e; injection e with e; exact n1 e), (m2.below hb).kept g2 (by intro e; injection e with e; exact n2 e), ?_, ?_, .inl (.inr (.inr (.inl rfl))), .inl (.inr (.inr (.inr rfl))), .inl rfl, fun k hk => .inl (.inr (.inl (by cases ao <;> exact hk))), fl⟩
  · rw [g2.block _ (by simp) (by intro e; injection e with e; omega)]
    exact heap_alloc_new w _
  · exact (Turned.of_below hb).more g2 (fun k e => by injection e with e; subst e; exact .inl (.inl rfl))
theorem keysF_undo {L : List Pst} {q : Pst} (h : Led.find L q.key = none) (s : ByteArray) : delS (keysF (L ++ [q])) q.key s = keysF L s := by
  unfold delS
  by_cases e : s = q.key
  · subst e; rw [if_pos rfl, keysF, h]; rfl
  · rw [if_neg e]
    unfold keysF
    rw [find_snoc]
    cases Led.find L s with
    | some i => rfl
    | none => simp only [if_neg (Ne.symm e)]
theorem bal_undo {L : List Pst} {q : Pst} {f : Sf} (hf : ∀ a, (f a).getD 0 = Led.bal (L ++ [q]) a) (hne : q.src ≠ q.dst) (a : ByteArray) :
    (setS (setS f q.src (Led.bal (L ++ [q]) q.src + q.amt)) q.dst (Led.bal (L ++ [q]) q.dst - q.amt) a).getD 0 = Led.bal L a := by
  have hb := Led.bal_snoc L q a
  unfold setS
  by_cases e : a = q.dst
  · subst e
    rw [if_pos rfl]
    unfold Led.turn at hb
    rw [if_pos rfl, if_neg hne] at hb
    simp; omega
  · rw [if_neg e]
    unfold Led.turn at hb
    rw [if_neg (Ne.symm e)] at hb
    by_cases e2 : a = q.src
    · subst e2
      rw [if_pos rfl] at hb ⊢
      simp; omega
    · rw [if_neg e2, hf]
      rw [if_neg (Ne.symm e2)] at hb
      omega
/-- what a step leaves: the ledger's postings, and what may have turned -/
def Step (p : Nat) (L : List Pst) (c : Nat) (F : Nat → Prop) (w w' : World) : Prop := ∃ F', LedIn w' p L c F' ∧ Turned F w w' ∧ ∀ k, F' k → F k ∨ w.heap.size ≤ k
theorem Mid.step {w : World} {p : Nat} {vs : Value} {L : List Pst} {q : Pst} {F : Nat → Prop} {wx : World} {bk bb c : Nat} {fk f : Sf} (h : Mid w p vs L.length (rowP L) q F wx bk bb c c fk f)
    (hk : ∀ s, fk s = keysF L s) (hf : ∀ a, (f a).getD 0 = Led.bal L a) (hok : Led.Ok L) : Step p L c F w wx := by
  refine ⟨Foot p vs (.map (some bk)) (.map (some bb)), ⟨vs, _, _, ⟨h.cells, h.row, hok, .inr ⟨bk, bb, f, rfl, rfl, h.ne, h.m1.congr hk, h.m2, hf⟩⟩, rfl⟩, h.turned, ?_⟩
  rintro k (rfl | hk | hk | hk)
  · exact .inl h.fp
  · rcases h.fs k hk with g | g
    · exact .inl g
    · exact .inr (by omega)
  · injection hk with hk; subst hk
    rcases h.fk with g | g
    · exact .inl g
    · exact .inr (by omega)
  · injection hk with hk; subst hk
    rcases h.fb with g | g
    · exact .inl g
    · exact .inr (by omega)
def MidX (w : World) (p : Nat) (vs : Value) (L : List Pst) (c : Nat) (q : Pst) (F : Nat → Prop) (wx : World) : Prop :=
  ∃ bk bb f, Mid w p vs L.length (rowP L) q F wx bk bb c c (keysF L) f ∧ ∀ a, (f a).getD 0 = Led.bal L a
theorem step_append_pst {ops : Array Oper} {o : Oper} {a : Act} {w : World} {K : Act → World → Prop} {Q : Exit → Act → World → Prop} {E : Prop} (hgd : o.guard = none) (s x : Operand)
    (ho : o.op = Op.call { callee := Callee.builtin Builtin.append, args := #[s, x], argTypes := #[30, 30] })
    (v : Value) (L : List Pst) (q : Pst) (B : Nat) (hsv : a.eval s = v) (hx : a.eval x = .slice (some ⟨B, 0, none⟩) 1 1) (hown : w.ownsRow 0 24 4 v L.length (rowP L)) (hB : w.heap[B]? = some (.cells q.arr 24 (0, 0))) (hl : L.length ≤ 100000)
    (h : ∀ v' w', w'.ownsRow 0 24 4 v' (L ++ [q]).length (rowP (L ++ [q])) → w.grownBy w' v.ownBlock → (v'.ownBlock = v.ownBlock ∨ ∃ k, v'.ownBlock = some k ∧ w.heap.size ≤ k) → (∃ g cap, v' = .slice (some ⟨g, 0, none⟩) (L.length + 1) cap) → K (a.put o.dst v') w') :
    if Region.wanted o (yielded ops a.tmps) = true then Oper.wp Tryz.prog o a w K Q else E := by
  obtain ⟨i0, hi, hz0, hz1, hz2⟩ := info_parts (show (Tryz.prog.info? 24).map (fun i => (i.zero, i.size, i.bytes)) = some (some (.agg #[.string ⟨#[]⟩, .string ⟨#[]⟩, .string ⟨#[]⟩, .int .i64 0]), 4, 56) by kernel_rfl)
  refine step_append_lies (P := Tryz.prog) w hgd s x 30 ho 0 24 i0 _ 4 56 Tryz.underlying30 hi hz0 hz1 hz2 rfl (by omega) v L.length (rowP L) hsv hown ⟨B, 0, none⟩ 1 1 q.arr.toList hx rfl (World.news_of_block hB)
    (by intro u hu; simp [Pst.arr] at hu; rcases hu with rfl | rfl | rfl | rfl <;> rfl) (by omega) (by unfold maxLen; omega) (by omega) (Nat.zero_le _) w.heap.size rfl ?_
  intro g cap w' hown' hgrow hat hlt
  refine h _ w' ?_ hgrow ?_ ⟨g, cap, rfl⟩
  · rw [rowP_snoc, List.length_append]
    exact hown'
  · rcases hat with e | e
    · exact .inl (by rw [e]; rfl)
    · exact .inr ⟨g, rfl, by omega⟩
end Go.Proofs.YtfligfompdcddaaGreatDoor
