/- The contracts of CheckPath's closures. -/
import Derived.Test.YtjedhmoehepbnaaDoorTreeKept
namespace Go.Proofs.YtjedhmoehepbnaaDoor
open Go.RowKit Go.Sort
set_option linter.unusedVariables false

/-- what a call of the first closure gives -/
def Takes (w0 : World) (U E P : Nat) (vp : Value) (r : Tree.H × Nat × Bool) (w : World) (ed : Ending) (w' : World) : Prop :=
  ed = .returned (.agg (hashArr r.1)) ∧ Kept U E w w' ∧ Vars w0 U E P r.2.1 r.2.2 vp w'
theorem take1_any (w0 : World) (U E P u : Nat) (e : Bool) (vp : Value) (hs : List Tree.H) (w : World) (hp : IsHs w0 vp hs) (hu : u ≤ hs.length) (hv : Vars w0 U E P u e vp w) :
    Calls Tryd.prog 57 #[.pointer (some ⟨U, 0, none⟩), .pointer (some ⟨P, 0, none⟩), .pointer (some ⟨E, 0, none⟩)] w (Takes w0 U E P vp (Tree.takeH hs (u, e)) w) := by
  obtain ⟨he, ⟨rfl, a, c, rfl, _⟩ | ⟨b, o, c, rfl, h1, hc, hcm, ha⟩⟩ := hp
  · obtain rfl : u = 0 := by simpa using hu
    exact take1_none w0 U E P 0 c e a w hv
  · by_cases hul : u = hs.length
    · subst hul
      have er : Tree.takeH hs (hs.length, e) = (Tree.zero, hs.length, false) := by simp [Tree.takeH]
      rw [er]
      exact take1_none w0 U E P hs.length c e _ w hv
    · have er : Tree.takeH hs (u, e) = (hs.getD u [], u + 1, e) := by simp [Tree.takeH, hul]
      rw [er]
      exact take1_some w0 U E P hs.length c u b o e hs _ w hv (by omega) rfl hcm hc ha he rfl
theorem take_le (hs : List Tree.H) (u : Nat) (e : Bool) (hu : u ≤ hs.length) : (Tree.takeH hs (u, e)).2.1 ≤ hs.length := by
  unfold Tree.takeH
  split
  · exact hu
  · rename_i h; simp at h ⊢; omega
theorem take_length (hs : List Tree.H) (u : Nat) (e : Bool) (he : Each hs) (hu : u ≤ hs.length) : (Tree.takeH hs (u, e)).1.length = 32 := by
  unfold Tree.takeH
  split
  · exact zero_length
  · rename_i h; exact he.getD u (by simp at h; omega)
/-- the boxes of the string and of the two closures -/
structure Boxes (w0 : World) (U E P L G K : Nat) (s : ByteArray) (w : World) : Prop where
  l : w.cell? ⟨L, 0, none⟩ = some (.string s)
  g : w.cell? ⟨G, 0, none⟩ = some (.func (.func 58) #[] #[.pointer (some ⟨L, 0, none⟩), .pointer (some ⟨G, 0, none⟩), .pointer (some ⟨K, 0, none⟩)])
  k : w.cell? ⟨K, 0, none⟩ = some (.func (.func 57) #[] #[.pointer (some ⟨U, 0, none⟩), .pointer (some ⟨P, 0, none⟩), .pointer (some ⟨E, 0, none⟩)])
  lu : L ≠ U ∧ L ≠ E
  gu : G ≠ U ∧ G ≠ E
  ku : K ≠ U ∧ K ≠ E
theorem Boxes.kept {w0 : World} {U E P L G K : Nat} {s : ByteArray} {w w' : World} (h : Boxes w0 U E P L G K s w) (k : Kept U E w w') : Boxes w0 U E P L G K s w' :=
  ⟨k.cell h.l h.lu.1 h.lu.2, k.cell h.g h.gu.1 h.gu.2, k.cell h.k h.ku.1 h.ku.2, h.lu, h.gu, h.ku⟩
attribute [local go_sem ↓] wp_alloc_hash
set_option maxHeartbeats 2000000 in
theorem walk1_one (w0 : World) (U E P L G K u n : Nat) (i : Int) (e : Bool) (vp : Value) (s : ByteArray) (x : Tree.H) (w : World) (hn : n = 1) (hT : Tabs w) (hs : s.size ≤ 140737488354000) (hv : Vars w0 U E P u e vp w) (hb : Boxes w0 U E P L G K s w) (hx : Tree.leaf s = x) :
    Calls Tryd.prog 58 #[.int .i64 (n : Int), .int .i64 i, .pointer (some ⟨L, 0, none⟩), .pointer (some ⟨G, 0, none⟩), .pointer (some ⟨K, 0, none⟩)] w (Takes w0 U E P vp (x, u, e) w) := by
  have b0 : Below w.heap.size w (w.alloc (.cells (hashArr Tree.zero) 24)) := (Below.refl _ _).alloc (Nat.le_refl _) _
  have hl := (hb.kept (Kept.of_below b0)).l
  have LX : Hid (x.length = 32) := by show _ = _; rw [← hx]; exact Tree.leaf_length s
  have HT0 := Lib.hid (hT.below b0)
  have HV := Lib.hid hv
  have HB0 := Lib.hid b0
  have HX := Lib.hid hx
  have BR := Lib.hid (heap_alloc_new w (.cells (hashArr Tree.zero) 24))
  have hd1 : ((n : Int) == 1) = true := by simp; omega
  clear hT hv hb hx b0 hn
  go_enter Tryd.func58, Tryd.ntmps58
  go_wp2_with fail
  with_reducible refine (leaf_any s x _ hs HT0.out HX.out).mono ?_
  rintro ed w1 ⟨rfl, hb1⟩
  have BR1 := Lib.hid (heap_below BR.out hb1)
  go_wp2_with (refine wpList_store_row rfl 24 (.tmp 7) (.tmp 14) rfl w.heap.size (hashArr x) rfl rfl 24 _ BR1.out (hash_info _ LX.out) (by rw [hashArr_size, hashArr_size, LX.out]; rfl) (hashArr_one _) ?_)
  have l1 := lt_of_block HV.out.atU
  have l2 := lt_of_block HV.out.atE
  have l3 := lt_of_block HV.out.atP
  have hb2 := HB0.out.trans (hb1.mono HB0.out.size)
  refine bodyPost_ret (v := .agg (hashArr x)) (results_cell_row Tryd.results58 _ _ w.heap.size 24 (hashArr x) (0, 0) _ rfl (setRow_heap _ _ _ _ _ _ BR1.out) Tryd.underlying24 rfl (hash_info _ LX.out)) rfl ⟨rfl, (Kept.of_below hb2).setRow (Nat.le_refl _) _, (HV.out.mono hb2).setRow HV.out.below.size (by omega) (by omega) (by omega) _⟩
theorem step_load_hash {ops : Array Oper} {o : Oper} {a : Act} {w : World} {K : Act → World → Prop} {Q : Exit → Act → World → Prop} {E : Prop} (hgd : o.guard = none) (x : Operand) (ho : o.op = .load 24 x)
    (g : Nat) (hx : a.eval x = .pointer (some ⟨g, 0, none⟩)) (l : Tree.H) (hl : l.length = 32) (hg : w.heap[g]? = some (.cells (hashArr l) 24 (0, 0))) (h : K (a.put o.dst (.agg (hashArr l))) w) :
    if Region.wanted o (yielded ops a.tmps) = true then Oper.wp Tryd.prog o a w K Q else E := by
  have hw : Region.wanted o (yielded ops a.tmps) = true := by simp [Region.wanted, hgd]
  rw [if_pos hw]
  exact wp_load_row 24 x ho g hx 24 (hashArr l) (0, 0) _ hg Tryd.underlying24 rfl (hash_info l hl) h
theorem step_store_hash {ops : Array Oper} {o : Oper} {a : Act} {w : World} {K : Act → World → Prop} {Q : Exit → Act → World → Prop} {E : Prop} (hgd : o.guard = none) (x y : Operand) (ho : o.op = .store 24 x y)
    (g : Nat) (l old : Tree.H) (hx : a.eval x = .pointer (some ⟨g, 0, none⟩)) (hy : a.eval y = .agg (hashArr l)) (hl : l.length = 32) (hold : old.length = 32) (hg : w.heap[g]? = some (.cells (hashArr old) 24 (0, 0))) (h : K (a.put o.dst undef) (w.setRow g (hashArr l))) :
    if Region.wanted o (yielded ops a.tmps) = true then Oper.wp Tryd.prog o a w K Q else E := by
  have hw : Region.wanted o (yielded ops a.tmps) = true := by simp [Region.wanted, hgd]
  rw [if_pos hw]
  exact wp_store_row 24 x y ho g (hashArr l) hx hy 24 (hashArr old) hg (hash_info l hl) (by rw [hashArr_size, hashArr_size, hl, hold]) (hashArr_one _) h
theorem load_hash {w : World} {g : Nat} {l : Tree.H} (hl : l.length = 32) (hg : w.heap[g]? = some (.cells (hashArr l) 24 (0, 0))) : (loadVar 24 ⟨g, 0, none⟩).run Tryd.prog w = .ok (.agg (hashArr l)) w :=
  run_loadVar_row w g 24 24 (hashArr l) (0, 0) _ hg Tryd.underlying24 rfl (hash_info l hl)
/-- a variable that holds a hash, and what it holds -/
def hashOf (w : World) : Value → Array Value
  | .pointer (some a) => match w.heap[a.block]? with | some (.cells cs _ _) => cs | _ => #[]
  | _ => #[]
def IsHashAt (w : World) (v : Value) : Prop := ∃ g l, v = .pointer (some ⟨g, 0, none⟩) ∧ l.length = 32 ∧ w.heap[g]? = some (.cells (hashArr l) 24 (0, 0))
theorem hashOf_at {w : World} {g : Nat} {l : Tree.H} (hg : w.heap[g]? = some (.cells (hashArr l) 24 (0, 0))) : hashOf w (.pointer (some ⟨g, 0, none⟩)) = hashArr l := by simp [hashOf, hg]
theorem isHashAt {w : World} {g : Nat} {l : Tree.H} (hl : l.length = 32) (hg : w.heap[g]? = some (.cells (hashArr l) 24 (0, 0))) : IsHashAt w (.pointer (some ⟨g, 0, none⟩)) := ⟨g, l, rfl, hl, hg⟩
/-- the load of a hash: a rule of the walk -/
theorem wp_load_at {d : Option Tmp} {x : Operand} {ty : TypeId} {pos : String} {after : Array Edge} {gd : Option (Nat × Bool)} {a : Act} {w : World} {K : Act → World → Prop} {Q : Exit → Act → World → Prop} (h0 : IsHashAt w (a.eval x)) :
    Oper.wp Tryd.prog ⟨d, .load 24 x, ty, pos, after, gd⟩ a w K Q = K (a.put d (.agg (hashOf w (a.eval x)))) w := by
  obtain ⟨g, l, e, hl, hg⟩ := h0
  unfold Oper.wp execOp
  simp only [e, hashOf_at hg, Instr.loadAt, Instr.sureAddr, Sem.run_bind, Sem.run_pure, Result.andThen_ok, load_hash hl hg]
  rfl
def blockOf : Value → Nat
  | .pointer (some a) => a.block
  | _ => 0
theorem blockOf_at (g : Nat) : blockOf (.pointer (some ⟨g, 0, none⟩)) = g := rfl
def IsHash (v : Value) : Prop := ∃ l : Tree.H, v = .agg (hashArr l) ∧ l.length = 32
theorem isHash {l : Tree.H} (hl : l.length = 32) : IsHash (.agg (hashArr l)) := ⟨l, rfl, hl⟩
/-- the store of a hash: a rule of the walk -/
theorem wp_store_at {d : Option Tmp} {x y : Operand} {ty : TypeId} {pos : String} {after : Array Edge} {gd : Option (Nat × Bool)} {a : Act} {w : World} {K : Act → World → Prop} {Q : Exit → Act → World → Prop} (h0 : IsHashAt w (a.eval x)) (h1 : IsHash (a.eval y)) :
    Oper.wp Tryd.prog ⟨d, .store 24 x y, ty, pos, after, gd⟩ a w K Q = K (a.put d undef) (w.setRow (blockOf (a.eval x)) (a.eval y).cells) := by
  obtain ⟨g, l, e, hl, hg⟩ := h0
  obtain ⟨l', e', hl'⟩ := h1
  unfold Oper.wp execOp
  simp only [e, e', blockOf_at, Value.cells, Instr.storeAt, Instr.sureAddr, Sem.run_bind, Sem.run_pure, Result.andThen_ok, run_storeVar_row w g 24 24 (hashArr l) (hashArr l') hg (hash_info l' hl') (by rw [hashArr_size, hashArr_size, hl, hl']) (hashArr_one _)]
  rfl
theorem walk_end {w0 w W2 w3 w4 : World} {U E P tu : Nat} {te : Bool} {vp : Value} {h : Tree.H} (k0 : Kept U E w W2) (k3 : Kept U E W2.drew w3) (hv3 : Vars w0 U E P tu te vp w3) (hb4 : Below w3.heap.size w3 w4) (hU : U < w.heap.size) (hE : E < w.heap.size) (hP : P < w.heap.size) (hw0 : w0.heap.size ≤ w.heap.size) :
    Takes w0 U E P vp (h, tu, te) w (.returned (.agg (hashArr h))) (w4.setRow w.heap.size (hashArr h)) :=
  ⟨rfl, (((k0.trans (Kept.of_below (Below.refl _ _).drew)).trans k3).trans (Kept.of_below hb4)).setRow (Nat.le_refl _) _, (hv3.mono hb4).setRow hw0 (by omega) (by omega) (by omega) _⟩
theorem walk_le : ∀ (f : Nat) (x : Tree.H) (hs : List Tree.H) (i n u : Nat) (e : Bool), u ≤ hs.length → (Tree.walk f x hs i n (u, e)).2.1 ≤ hs.length
  | 0, x, hs, i, n, u, e, h => h
  | f + 1, x, hs, i, n, u, e, h => by
    rw [Tree.walk]
    split
    · exact h
    · split
      · exact take_le hs _ _ (walk_le f x hs _ _ u e h)
      · exact take_le hs _ _ (walk_le f x hs _ _ u e h)
theorem walk_length (f : Nat) (x : Tree.H) (hs : List Tree.H) (i n u : Nat) (e : Bool) (hx : x.length = 32) : (Tree.walk f x hs i n (u, e)).1.length = 32 := by
  cases f with
  | zero => exact hx
  | succ f =>
    rw [Tree.walk]
    split
    · exact hx
    · split
      · exact Tree.node_length _ _
      · exact Tree.node_length _ _
attribute [local go_sem ↓] Go.wp_at_zero Go.wp_at_succ wp_load_at wp_store_at
set_option maxHeartbeats 4000000 in
set_option maxRecDepth 100000 in
theorem walk1_any (w0 : World) (U E P L G K : Nat) (vp : Value) (hs : List Tree.H) (s : ByteArray) (x : Tree.H) (hp : IsHs w0 vp hs) (hT0 : Tabs w0) (hsz : s.size ≤ 140737488354000) (hx : Tree.leaf s = x) :
    ∀ (f n i u : Nat) (e : Bool) (r : Tree.H × Nat × Bool) (w : World), 1 ≤ n → i < n → n ≤ 2 ^ f → n ≤ 9223372036854775807 → u ≤ hs.length → Vars w0 U E P u e vp w → Boxes w0 U E P L G K s w → Hid (Tree.walk f x hs i n (u, e) = r) →
    Calls Tryd.prog 58 #[.int .i64 (n : Int), .int .i64 (i : Int), .pointer (some ⟨L, 0, none⟩), .pointer (some ⟨G, 0, none⟩), .pointer (some ⟨K, 0, none⟩)] w (Takes w0 U E P vp r w) := by
  intro f
  induction f with
  | zero =>
    intro n i u e r w h1 hi hf hnm hu hv hb hr
    obtain rfl : r = (x, u, e) := hr.out.symm
    have : (2 : Nat) ^ 0 = 1 := rfl
    exact walk1_one w0 U E P L G K u n i e vp s x w (by omega) (hT0.below hv.below) hsz hv hb hx
  | succ f ih =>
    intro n i u e r w h1 hi hf hnm hu hv hb hr
    by_cases hn1 : n = 1
    · obtain rfl : r = (x, u, e) := by rw [← hr.out, Tree.walk, if_pos (by omega)]
      exact walk1_one w0 U E P L G K u n i e vp s x w hn1 (hT0.below hv.below) hsz hv hb hx
    · have hd1 : ((n : Int) == 1) = false := by simp; omega
      have lx : x.length = 32 := by rw [← hx]; exact Tree.leaf_length s
      have hk0 := Tree.half_pos n
      have hk1 := Tree.half_lt n (by omega)
      have HF1 := Lib.hid (Tree.half_pow n f (by omega) hf)
      have HF2 := Lib.hid (Tree.rest_pow n f (by omega) hf)
      have ch := fun W => half_any n W (by omega) (by omega)
      have er := hr.out
      rw [Tree.walk, if_neg (by omega)] at er
      obtain ⟨k, ek⟩ : ∃ k, Tree.half n = k := ⟨_, rfl⟩
      rw [ek] at hk0 hk1 HF1 HF2 ch er
      have CH := Lib.hid ch
      clear ek ch
      have b0 : Below w.heap.size w (w.alloc (.cells (hashArr Tree.zero) 24)) := (Below.refl _ _).alloc (Nat.le_refl _) _
      have hv1 := hv.mono b0
      have hb1 := hb.kept (Kept.of_below b0)
      have hg1 := hb1.g
      by_cases hik : i < k
      · rw [if_pos hik] at er
        have hdi : decide ((i : Int) < (k : Int)) = true := by simp; omega
        obtain ⟨⟨ra, ru, re⟩, era⟩ : ∃ y, Tree.walk f x hs i k (u, e) = y := ⟨_, rfl⟩
        have lra : ra.length = 32 := by have := walk_length f x hs i k u e lx; rw [era] at this; exact this
        have lru : ru ≤ hs.length := by have := walk_le f x hs i k u e hu; rw [era] at this; exact this
        rw [era] at er
        obtain ⟨⟨ta, tu, te⟩, eta⟩ : ∃ y, Tree.takeH hs (ru, re) = y := ⟨_, rfl⟩
        have lta : ta.length = 32 := by have := take_length hs ru re hp.1 lru; rw [eta] at this; exact this
        simp only [eta] at er
        subst er
        have CA := Lib.hid (ih k i u e _ _ hk0 hik HF1.out (by omega) hu hv1 hb1 (Lib.hid era))
        have CT := Lib.hid (fun W (hW : Vars w0 U E P ru re vp W) => take1_any w0 U E P ru re vp hs W hp lru hW)
        rw [eta] at CT
        have HV := Lib.hid hv
        have HB := Lib.hid hb1
        have B0 := Lib.hid b0
        clear ih era eta hv hv1 hb hb1 HF1 HF2 hr lx
        go_enter Tryd.func58, Tryd.ntmps58
        go_wp2_with fail
        with_reducible refine (CH.out _).mono ?_
        rintro e w' ⟨rfl, rfl⟩
        go_wp2_with fail
        with_reducible refine CA.out.mono ?_
        rintro ed w1 ⟨rfl, hkw1, hv1⟩
        have LRA := Lib.hid lra
        have LZ : Hid ((hashArr Tree.zero).size = 32) := by show _ = _; rw [hashArr_size]; exact zero_length
        go_wp2_with ((with_reducible refine op_is ⟨none, .store 24 (.tmp 9) (.tmp 23), _, _, _, _⟩ ?_); refine store_hash LRA.out LZ.out (.tmp 9) (.tmp 23) rfl rfl rfl rfl rfl ?_)
        have bw : Below w1.heap.size w1 (w1.alloc (.cells (hashArr ra) 24)) := (Below.refl _ _).alloc (Nat.le_refl _) _
        have HR := Lib.hid (heap_alloc_new w1 (.cells (hashArr ra) 24))
        have hne : w.heap.size ≠ U ∧ w.heap.size ≠ E ∧ w1.heap.size ≠ U ∧ w1.heap.size ≠ E := by
          have l1 := lt_of_block HV.out.atU
          have l2 := lt_of_block HV.out.atE
          have l3 := hkw1.size
          simp at l3
          omega
        have BR0 := Lib.hid (heap_below (hkw1.heap (heap_alloc_new w (.cells (hashArr Tree.zero) 24)) hne.1 hne.2.1) bw)
        have hv2 := Lib.hid (hv1.mono bw)
        have hk2 := (HB.out.kept (hkw1.trans (Kept.of_below bw))).k
        have KW := Lib.hid (hkw1.trans (Kept.of_below bw))
        have HNE := Lib.hid hne
        clear hkw1 hv1 hne bw
        generalize w1.alloc (.cells (hashArr ra) 24) = W2 at *
        have hl2 := isHashAt LRA.out (heap_below HR.out (Below.refl _ _).drew)
        have ho2 := hashOf_at (heap_below HR.out (Below.refl _ _).drew)
        go_region_law (first
          | (go_simp; go_at_call 57; (with_reducible refine (CT.out _ (hv2.out.mono (Below.refl _ _).drew)).mono ?_); rintro ed w3 ⟨rfl, hkw3, hv3⟩; have hl3 := isHashAt LRA.out (hkw3.heap (heap_below HR.out (Below.refl _ _).drew) HNE.out.2.2.1 HNE.out.2.2.2); have ho3 := hashOf_at (hkw3.heap (heap_below HR.out (Below.refl _ _).drew) HNE.out.2.2.1 HNE.out.2.2.2))
          | (go_simp; go_at_call 18; (with_reducible refine (node_any ra ta _ lra lta _ (hT0.below hv3.below) rfl).mono ?_); rintro ed w4 ⟨rfl, hb4⟩; have hl4 := isHashAt zero_length (heap_below (hkw3.heap (heap_below BR0.out (Below.refl _ _).drew) HNE.out.1 HNE.out.2.1) hb4); have hn4 := isHash (Tree.node_length ra ta); have hbk := blockOf_at w.heap.size))
        all_goals
          go_wp2_with fail
          refine bodyPost_ret (v := .agg (hashArr (Tree.node ra ta))) (results_cell_row Tryd.results58 _ _ w.heap.size 24 (hashArr (Tree.node ra ta)) (0, 0) _ rfl (setRow_heap _ _ _ _ _ _ (heap_below (hkw3.heap (heap_below BR0.out (Below.refl _ _).drew) HNE.out.1 HNE.out.2.1) hb4)) Tryd.underlying24 rfl (hash_info _ (Tree.node_length ra ta))) rfl ?_
          exact walk_end ((Kept.of_below B0.out).trans KW.out) hkw3 hv3 hb4 (lt_of_block HV.out.atU) (lt_of_block HV.out.atE) (lt_of_block HV.out.atP) HV.out.below.size
      · rw [if_neg hik] at er
        have hdi : decide ((i : Int) < (k : Int)) = false := by simp; omega
        obtain ⟨⟨ra, ru, re⟩, era⟩ : ∃ y, Tree.walk f x hs (i - k) (n - k) (u, e) = y := ⟨_, rfl⟩
        have lra : ra.length = 32 := by have := walk_length f x hs (i - k) (n - k) u e lx; rw [era] at this; exact this
        have lru : ru ≤ hs.length := by have := walk_le f x hs (i - k) (n - k) u e hu; rw [era] at this; exact this
        rw [era] at er
        obtain ⟨⟨ta, tu, te⟩, eta⟩ : ∃ y, Tree.takeH hs (ru, re) = y := ⟨_, rfl⟩
        have lta : ta.length = 32 := by have := take_length hs ru re hp.1 lru; rw [eta] at this; exact this
        simp only [eta] at er
        subst er
        have q7 : IntKind.i64.wrap ((i : Int) - (k : Int)) = (i : Int) - (k : Int) := IntWalk.i64_in _ (by omega)
        have q8 : IntKind.i64.wrap ((n : Int) - (k : Int)) = (n : Int) - (k : Int) := IntWalk.i64_in _ (by omega)
        have CA := Lib.hid (ih (n - k) (i - k) u e _ _ (by omega) (by omega) HF2.out (by omega) hu hv1 hb1 (Lib.hid era))
        rw [show ((n - k : Nat) : Int) = (n : Int) - (k : Int) by omega, show ((i - k : Nat) : Int) = (i : Int) - (k : Int) by omega] at CA
        have CT := Lib.hid (fun W (hW : Vars w0 U E P ru re vp W) => take1_any w0 U E P ru re vp hs W hp lru hW)
        rw [eta] at CT
        have HV := Lib.hid hv
        have HB := Lib.hid hb1
        have B0 := Lib.hid b0
        clear ih era eta hv hv1 hb hb1 HF1 HF2 hr lx
        go_enter Tryd.func58, Tryd.ntmps58
        go_wp2_with fail
        with_reducible refine (CH.out _).mono ?_
        rintro e w' ⟨rfl, rfl⟩
        go_wp2_with fail
        with_reducible refine CA.out.mono ?_
        rintro ed w1 ⟨rfl, hkw1, hv1⟩
        have LRA := Lib.hid lra
        have LZ : Hid ((hashArr Tree.zero).size = 32) := by show _ = _; rw [hashArr_size]; exact zero_length
        go_wp2_with ((with_reducible refine op_is ⟨none, .store 24 (.tmp 10) (.tmp 35), _, _, _, _⟩ ?_); refine store_hash LRA.out LZ.out (.tmp 10) (.tmp 35) rfl rfl rfl rfl rfl ?_)
        have bw : Below w1.heap.size w1 (w1.alloc (.cells (hashArr ra) 24)) := (Below.refl _ _).alloc (Nat.le_refl _) _
        have HR := Lib.hid (heap_alloc_new w1 (.cells (hashArr ra) 24))
        have hne : w.heap.size ≠ U ∧ w.heap.size ≠ E ∧ w1.heap.size ≠ U ∧ w1.heap.size ≠ E := by
          have l1 := lt_of_block HV.out.atU
          have l2 := lt_of_block HV.out.atE
          have l3 := hkw1.size
          simp at l3
          omega
        have BR0 := Lib.hid (heap_below (hkw1.heap (heap_alloc_new w (.cells (hashArr Tree.zero) 24)) hne.1 hne.2.1) bw)
        have hv2 := Lib.hid (hv1.mono bw)
        have hk2 := (HB.out.kept (hkw1.trans (Kept.of_below bw))).k
        have KW := Lib.hid (hkw1.trans (Kept.of_below bw))
        have HNE := Lib.hid hne
        clear hkw1 hv1 hne bw
        generalize w1.alloc (.cells (hashArr ra) 24) = W2 at *
        have hl2 := isHashAt LRA.out (heap_below HR.out (Below.refl _ _).drew)
        have ho2 := hashOf_at (heap_below HR.out (Below.refl _ _).drew)
        go_region_law (first
          | (go_simp; go_at_call 57; (with_reducible refine (CT.out _ (hv2.out.mono (Below.refl _ _).drew)).mono ?_); rintro ed w3 ⟨rfl, hkw3, hv3⟩; have hl3 := isHashAt LRA.out (hkw3.heap (heap_below HR.out (Below.refl _ _).drew) HNE.out.2.2.1 HNE.out.2.2.2); have ho3 := hashOf_at (hkw3.heap (heap_below HR.out (Below.refl _ _).drew) HNE.out.2.2.1 HNE.out.2.2.2))
          | (go_simp; go_at_call 18; (with_reducible refine (node_any ta ra _ lta lra _ (hT0.below hv3.below) rfl).mono ?_); rintro ed w4 ⟨rfl, hb4⟩; have hl4 := isHashAt zero_length (heap_below (hkw3.heap (heap_below BR0.out (Below.refl _ _).drew) HNE.out.1 HNE.out.2.1) hb4); have hn4 := isHash (Tree.node_length ta ra); have hbk := blockOf_at w.heap.size))
        all_goals
          go_wp2_with fail
          refine bodyPost_ret (v := .agg (hashArr (Tree.node ta ra))) (results_cell_row Tryd.results58 _ _ w.heap.size 24 (hashArr (Tree.node ta ra)) (0, 0) _ rfl (setRow_heap _ _ _ _ _ _ (heap_below (hkw3.heap (heap_below BR0.out (Below.refl _ _).drew) HNE.out.1 HNE.out.2.1) hb4)) Tryd.underlying24 rfl (hash_info _ (Tree.node_length ta ra))) rfl ?_
          exact walk_end ((Kept.of_below B0.out).trans KW.out) hkw3 hv3 hb4 (lt_of_block HV.out.atU) (lt_of_block HV.out.atE) (lt_of_block HV.out.atP) HV.out.below.size
end Go.Proofs.YtjedhmoehepbnaaDoor
