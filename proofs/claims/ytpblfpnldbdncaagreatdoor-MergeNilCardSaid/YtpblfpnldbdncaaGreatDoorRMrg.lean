/- The reference's merge with outputs alone: what lies in memory, New of no kiosks, Learn. -/
import Derived.Test.YtpblfpnldbdncaaGreatDoorRLearnP
import Derived.Test.YtpblfpnldbdncaaGreatDoorG21
import Derived.Laws.AppendOwnNone
namespace Go.Proofs.YtpblfpnldbdncaaGreatDoor
open Go.RowKit Go.Sort Go.Maps
open Sg (Rc)
open Mg (Mst Jd H)
set_option linter.unusedVariables false
set_option maxRecDepth 100000
theorem take_get1 {α : Type} {l : List α} {i : Nat} {x : α} (h : l[i]? = some x) : l.take (i + 1) = l.take i ++ [x] := by rw [List.take_add_one, h]; rfl
theorem otList_one (o : Ot) : ∀ u ∈ otList o, u.oneCell' = true := by
  intro v hv
  rcases List.mem_append.1 hv with h | h
  · simp only [List.mem_cons, List.not_mem_nil, or_false] at h
    rcases h with rfl | rfl | rfl <;> rfl
  · rcases List.mem_append.1 h with h | h <;> exact hcl_one _ v h
def otK : Rk Tryz.prog Ot where
  ty := 42
  sl := 117
  size := 67
  bytes := 96
  zero := .agg (otArr ot0)
  enc := otList
  ok := OtOk
  len h := otList_length h
  one u hu := otList_one _ u hu
  und := Tryz.underlying117
  info := ot_infos
  zsize := otArr_size ot0_ok
  pos := by omega
  small := by decide
theorem ot_range {w : World} {g b : Nat} {x : Ot} (hx : OtOk x) (h : w.rangeAt g b (otList x)) : w.cell? ⟨g, b, none⟩ = some (.int .i64 x.rd) ∧ w.rangeAt g (b + 35) (hcl x.hash) := by
  refine ⟨h 0 _ rfl, fun j v hv => ?_⟩
  have e1 : 35 + j - [Value.int .i64 x.rd, .int .i64 x.val, .string x.fin].length = 32 + j := by simp; omega
  have e2 : 32 + j - (hcl x.locked).length = j := by rw [hcl_length, hx.locked]; omega
  have := h (35 + j) v (by
    unfold otList
    rw [List.getElem?_append_right (by simp; omega), e1, List.getElem?_append_right (by rw [hcl_length, hx.locked]; omega), e2]
    exact hv)
  rw [show b + 35 + j = b + (35 + j) by omega]
  exact this
abbrev rmArr (vo : Value) : Array Value := #[.slice none 0 0, vo, .slice none 0 0, .slice none 0 0, .slice none 0 0]
structure RMAt (w : World) (p : Nat) (vo : Value) (L : List Ot) : Prop where
  cells : w.heap[p]? = some (.cells (rmArr vo) 121 (0, 0))
  outs : OwnsR otK w 0 vo L
  none : L = [] → vo = .slice none 0 0
def FootR (p : Nat) (vo : Value) (k : Nat) : Prop := k = p ∨ vo.ownBlock = some k
theorem RMAt.ne {w : World} {p : Nat} {vo : Value} {L : List Ot} (h : RMAt w p vo L) : vo.ownBlock ≠ some p := own_ne_blk h.outs h.cells (by decide)
theorem RMAt.lt {w : World} {p : Nat} {vo : Value} {L : List Ot} (h : RMAt w p vo L) : ∀ k, FootR p vo k → k < w.heap.size := by
  rintro k (rfl | hk)
  · exact (Array.getElem?_eq_some_iff.1 h.cells).1
  · exact (h.outs.base_le k hk).2
theorem RMAt.turned {w w' : World} {p : Nat} {vo : Value} {L : List Ot} {G : Nat → Prop} (h : RMAt w p vo L) (ht : Turned G w w') (hd : ∀ k, FootR p vo k → ¬ G k) : RMAt w' p vo L :=
  ⟨(ht.block p (Array.getElem?_eq_some_iff.1 h.cells).1 (hd p (.inl rfl))).trans h.cells, ⟨h.outs.1, row_turned h.outs.2 ht fun k hk => hd k (.inr hk)⟩, h.none⟩
theorem RMAt.below {w w' : World} {p : Nat} {vo : Value} {L : List Ot} (h : RMAt w p vo L) (hb : Below w.heap.size w w') : RMAt w' p vo L := h.turned (G := fun _ => False) (Turned.of_below hb) (fun _ _ f => f)
def RMT (p : Nat) (L : List Ot) : Thing where
  On w F := ∃ vo, RMAt w p vo L ∧ ∀ k, F k ↔ FootR p vo k
  lt := by
    rintro w F ⟨vo, h1, h2⟩ k hk
    exact h1.lt k ((h2 k).1 hk)
  kept := by
    rintro w w' F G ⟨vo, h1, h2⟩ ht hd
    exact ⟨vo, h1.turned ht fun k hk => hd k ((h2 k).2 hk), h2⟩
theorem Has.rm {p : Nat} {L : List Ot} {w0 w : World} (h : Has (RMT p L) w0 w) : ∃ vo, RMAt w p vo L := let ⟨_, ⟨vo, h, _⟩, _⟩ := h; ⟨vo, h⟩
set_option maxHeartbeats 1000000 in
theorem rnew_has {T : Thing} {w0 w : World} (h : Has T w0 w) :
    Calls Tryz.prog 26 #[.slice none 0 0] w fun e w' => ∃ p, e = .returned (.pointer (some ⟨p, 0, none⟩)) ∧ Has ((RMT p []).both T) w0 w' := by
  have bz : Below w.heap.size w (w.alloc (.cells (rmArr (.slice none 0 0)) 121)) := (Below.refl _ _).alloc (Nat.le_refl _) _
  have hg := heap_alloc_new w (.cells (rmArr (.slice none 0 0)) 121)
  have HN : Hid (Has ((RMT w.heap.size []).both T) w0 (w.alloc (.cells (rmArr (.slice none 0 0)) 121))) :=
    (h.new bz (Q := RMT w.heap.size []) (G := FootR w.heap.size (.slice none 0 0)) ⟨_, ⟨hg, OwnsR.nil _ _ _, fun _ => rfl⟩, fun k => Iff.rfl⟩ (fun k hk => by
      rcases hk with rfl | hk
      · exact Nat.le_refl _
      · cases hk)).swap
  clear bz hg h
  go_enter Tryz.func26, Tryz.ntmps26
  go_wp2_with fail
  go_loopw [4] (fun v4 wx => v4 = .int .i64 0 ∧ wx = w.alloc (.cells (rmArr (.slice none 0 0)) 121)) (fun _ _ => 0)
  case atStart => exact ⟨rfl, rfl⟩
  case round =>
    obtain ⟨rfl, rfl⟩ := hrel
    go_wp2_with fail
    go_ret
    exact ⟨_, rfl, HN.out⟩
/-- what the reference's Learn leaves -/
def RLearned (p : Nat) (vo : Value) (r : List Ot × Nat) (w : World) (e : Ending) (w' : World) : Prop :=
  e = .returned (.int .i64 (learnErr r.2)) ∧ ∃ vo', RMAt w' p vo' r.1 ∧ Turned (fun k => k = p) w w' ∧ ∀ k, vo'.ownBlock = some k → vo.ownBlock = some k ∨ w.heap.size ≤ k
theorem rlearned_same {p : Nat} {vo : Value} {L : List Ot} {w w' : World} (h : RMAt w p vo L) (hb : Below w.heap.size w w') {r : List Ot × Nat} {c : Nat} (hr : r = (L, c)) : RLearned p vo r w (.returned (.int .i64 (learnErr c))) w' := by
  subst hr
  exact ⟨rfl, vo, h.below hb, Turned.of_below hb, fun k hk => .inl hk⟩
theorem find_ot {L : List Ot} {rd : Int} {k : Nat} {x : Ot} (hx : L[k]? = some x) (h : ∀ y ∈ L.take k, y.rd ≠ rd) (hr : x.rd = rd) : L.find? (fun a => decide (a.rd = rd)) = some x := by
  rw [List.find?_eq_some_iff_append]
  have hk := (List.getElem?_eq_some_iff.1 hx).1
  refine ⟨by simpa using hr, L.take k, L.drop (k + 1), ?_, fun y hy => by simpa using h y hy⟩
  have e := (List.take_append_drop k L).symm
  rw [List.drop_eq_getElem_cons hk, (List.getElem?_eq_some_iff.1 hx).2] at e
  exact e
theorem rm_set {w : World} {p : Nat} {vo : Value} (h : w.heap[p]? = some (.cells (rmArr vo) 121 (0, 0))) (v : Value) : (w.setCell ⟨p, 1, none⟩ v).heap[p]? = some (.cells (rmArr v) 121 (0, 0)) := by
  have := heap_setCell_at (o := 1) h v
  exact this
/-- what may be appended to a row -/
def SrcR {P : Program} {α : Type} (R : Rk P α) (w : World) (u : Value) (ys : List α) : Prop :=
  (u = .slice none 0 0 ∧ ys = []) ∨ ∃ ad m c, u = .slice (some ad) m c ∧ ys.length = m ∧ ∀ q v, (R.cells ys)[q]? = some v → w.cell? (ad.add q) = some v
theorem wpList_append_src {P : Program} {α : Type} {ops : Array Oper} {rest : List Oper} {o : Oper} {a : Act} {w : World} {Q : Exit → Act → World → Prop} (R : Rk P α) (hgd : o.guard = none) (s x : Operand) (ho : o.op = Op.call { callee := Callee.builtin Builtin.append, args := #[s, x], argTypes := #[R.sl, R.sl] })
    (base : Nat) (v : Value) (xs ys : List α) (u : Value) (hsv : a.eval s = v) (hx : a.eval x = u) (hown : OwnsR R w base v xs) (hy : ∀ y ∈ ys, R.ok y) (hsrc : SrcR R w u ys) (hl : xs.length + ys.length ≤ 100000) (hb : base ≤ w.heap.size)
    (h : ∀ v' w', OwnsR R w' base v' (xs ++ ys) → w.grownBy w' v.ownBlock → wpList P ops Q rest (a.put o.dst v') w') :
    wpList P ops Q (o :: rest) a w := by
  rcases hsrc with ⟨rfl, rfl⟩ | ⟨ad, m, c, rfl, hm, hr⟩
  · obtain ⟨i0, hi, hz0, hz1, hz2⟩ := info_parts R.info
    refine wpList_append_own_none hgd s x R.sl ho base R.ty i0 R.size R.und hi v xs.length _ hsv hown.2 hx (h v w ?_ ⟨rfl, rfl, rfl, Nat.le_refl _, fun _ _ _ => rfl⟩)
    rw [List.append_nil]
    exact hown
  · exact wpList_append_rs R hgd s x ho base v xs ys ad m c hsv hx hown hy hm hr (by omega) hb h
theorem src_of_own {P : Program} {α : Type} {R : Rk P α} {w : World} {B : Nat} {v : Value} {xs : List α} (h : OwnsR R w B v xs) : SrcR R w v xs := by
  have hl := h.lies
  rcases h.2.2 with ⟨rfl, h0⟩ | ⟨g, cap, cur, rfl, _⟩
  · exact .inl ⟨rfl, List.eq_nil_of_length_eq_zero h0⟩
  · refine .inr ⟨_, _, _, rfl, rfl, fun q u hu => ?_⟩
    rcases hl.2 with ⟨rfl, _⟩ | ⟨g', o', c', e, _, _, h3⟩
    · simp [Rk.cells] at hu
    · injection e with e
      injection e with e
      injection e with e1 e2
      subst e1 e2
      have := h3 q u hu
      rw [Addr.add_mid]
      exact this
theorem src_turned {P : Program} {α : Type} {R : Rk P α} {w w' : World} {B : Nat} {v : Value} {xs : List α} {G : Nat → Prop} (h : OwnsR R w B v xs) (ht : Turned G w w') (hn : ∀ k, v.ownBlock = some k → ¬ G k) : SrcR R w' v xs :=
  src_of_own ⟨h.1, row_turned h.2 ht hn⟩
/-- a part of a row that may be appended -/
theorem src_part {P : Program} {α : Type} {R : Rk P α} {w : World} {B g n cap : Nat} {L : List α} (h : OwnsR R w B (.slice (some ⟨g, 0, none⟩) n cap) L) (hn : L.length = n) {i j : Nat} (hij : i ≤ j) (hj : j ≤ n) {ad : Addr} {c : Nat} (had : i < j → ad = ⟨g, i * R.size, none⟩) :
    SrcR R w (.slice (some ad) (j - i) c) ((L.take j).drop i) := by
  refine .inr ⟨_, _, _, rfl, by rw [List.length_drop, List.length_take]; omega, fun q u hu => ?_⟩
  by_cases e : i < j
  · have hg : g < w.heap.size := by
      rcases h.2.2 with ⟨e1, _⟩ | ⟨g', c', cur, e1, _, h2, _⟩
      · cases e1
      · injection e1 with e1
        injection e1 with e1
        injection e1 with e1
        subst e1
        exact (Array.getElem?_eq_some_iff.1 h2).1
    obtain ⟨h1, h2⟩ := h.lies.part hn i j hij hj hg (j - i) (Nat.le_refl _)
    rcases h2 with ⟨e1, _⟩ | ⟨g', o', c', e1, _, _, h3⟩
    · rw [e1] at hu; simp [Rk.cells] at hu
    · injection e1 with e1
      injection e1 with e1
      injection e1 with e1 e2
      subst e1 e2
      rw [had e]
      have := h3 q u hu
      rw [Nat.zero_add] at this
      rw [Addr.add_mid]
      exact this
  · have : (L.take j).drop i = [] := List.drop_of_length_le (by rw [List.length_take]; omega)
    rw [this] at hu
    simp [Rk.cells] at hu
theorem OwnsR.lit1 {P : Program} {α : Type} (R : Rk P α) {x : α} (hx : R.ok x) (w : World) : OwnsR R (w.alloc (.cells (R.enc x).toArray R.ty)) w.heap.size (.slice (some ⟨w.heap.size, 0, none⟩) 1 1) [x] :=
  ⟨fun y hy => by simp only [List.mem_cons, List.not_mem_nil, or_false] at hy; subst hy; exact hx, by simp [Rk.cells, R.len hx], .inr ⟨w.heap.size, 1, (R.enc x).toArray, rfl, Nat.le_refl _, heap_alloc_new w _, Nat.le_refl _, by unfold maxLen; omega, by simp [R.len hx], by
    show List.take (1 * R.size) (R.enc x) = R.enc x ++ []
    rw [List.append_nil]
    exact List.take_of_length_le (by rw [R.len hx]; omega)⟩⟩
theorem own_slice {P : Program} {α : Type} {R : Rk P α} {w : World} {B : Nat} {v : Value} {xs : List α} (h : OwnsR R w B v xs) : ∃ ao n c, v = .slice ao n c := by
  rcases h.2.2 with ⟨rfl, _⟩ | ⟨g, cap, cur, rfl, _⟩
  · exact ⟨_, _, _, rfl⟩
  · exact ⟨_, _, _, rfl⟩
theorem own_is {z k n c : Nat} (e : (Value.slice (some ⟨z, 0, none⟩) n c).ownBlock = some k) : k = z := by
  have e : z = k := by simpa [Value.ownBlock] using e
  exact e.symm
theorem rlearn_fin {w w4 : World} {p z : Nat} {vo v4 : Value} {L R : List Ot} (hm : RMAt w p vo L) (hb : Below w.heap.size w w4) (ho : OwnsR otK w4 z v4 R) (hz : w.heap.size ≤ z) (hne : R ≠ []) : RLearned p vo (R, 0) w (.returned (.int .i64 0)) (w4.setCell ⟨p, 1, none⟩ v4) := by
  have hp : p < w.heap.size := (Array.getElem?_eq_some_iff.1 hm.cells).1
  have ht : Turned (fun k => k = p) w4 (w4.setCell ⟨p, 1, none⟩ v4) := (Turned.of_below (Below.refl _ _)).setCell (F := fun k => k = p) (.inl rfl) _ _
  refine ⟨rfl, v4, ⟨rm_set (hm.below hb).cells v4, ⟨ho.1, row_turned (ownsRow_base_a ho.2 (Nat.zero_le _)) ht fun k hk e => ?_⟩, fun e => absurd e hne⟩, (Turned.of_below hb).trans ht (fun k hk => .inl hk), fun k hk => .inr ?_⟩
  · have := (ho.base_le k hk).1
    omega
  · have := (ho.base_le k hk).1
    omega
set_option maxHeartbeats 8000000 in
theorem rlearn_any {w : World} {p : Nat} {vo : Value} {L : List Ot} (h : RMAt w p vo L) (o : Ot) (ho : OtOk o) (hs : L.Pairwise (fun a b => a.rd < b.rd)) (hn : L.length ≤ 1000) :
    Calls Tryz.prog 28 #[.pointer (some ⟨p, 0, none⟩), .agg (otArr o)] w (RLearned p vo (rlearnO L o) w) := by
  obtain ⟨N, hN⟩ : ∃ N, L.length = N := ⟨_, rfl⟩
  obtain ⟨ao, cap, hv⟩ : ∃ ao cap, vo = .slice ao N cap := by
    obtain ⟨ao, cap, h | h⟩ := h.outs.lies.slice hN
    · exact ⟨ao, cap, h.1⟩
    · exact ⟨ao, cap, h.1⟩
  subst hv
  obtain ⟨n, hnl, hsp, htk, hdr⟩ := splitO o.rd L hs
  rw [hN] at hn hnl
  have hb0 : Below w.heap.size w (w.alloc (.cells (otArr o) 42)) := (Below.refl _ _).alloc (Nat.le_refl _) _
  have RW := heap_alloc_new w (.cells (otArr o) 42)
  obtain ⟨W1, hW1⟩ : ∃ W1, w.alloc (.cells (otArr o) 42) = W1 := ⟨_, rfl⟩
  obtain ⟨q, hq⟩ : ∃ q, w.heap.size = q := ⟨_, rfl⟩
  have HW1 := Lib.hid hW1
  have HQ := Lib.hid hq
  rw [hW1] at hb0 RW
  rw [hq] at RW
  have HRW := Lib.hid RW
  have MX : Hid (∀ W, Below w.heap.size w W → RMAt W p (.slice ao N cap) L) := fun W hb => h.below hb
  have HB1 := Lib.hid hb0
  have HN := Lib.hid hN
  have HSP := Lib.hid hsp
  have HTK := Lib.hid htk
  have HDR := Lib.hid hdr
  have HO := Lib.hid ho
  have HM := Lib.hid h
  have QX : Hid (∀ W, Below W1.heap.size W1 W → W.cell? ⟨q, 0, none⟩ = some (.int .i64 o.rd) ∧ W.rangeAt q 35 (hcl o.hash)) := fun W hb => ot_cells HO.out (heap_below RW hb)
  have QL : Hid (q < W1.heap.size) := (Array.getElem?_eq_some_iff.1 RW).1
  obtain ⟨R, hR⟩ : ∃ R, rlearnO L o = R := ⟨_, rfl⟩
  rw [hR]
  have HR := Lib.hid hR
  have x0 := (QX.out W1 (Below.refl _ _)).1
  obtain ⟨rd, hrd⟩ : ∃ rd, o.rd = rd := ⟨_, rfl⟩
  rw [hrd] at x0
  have HRD := Lib.hid hrd
  have rd1 : I64 rd := by rw [← hrd]; exact ho.rd
  obtain ⟨rdl, rdh⟩ := rd1
  clear h ho hs hN hsp htk hdr hb0 RW hW1 hq hR hrd
  by_cases h1 : rd < 1
  · have d1 : decide (rd < 1) = true := decide_eq_true h1
    have FIN : Hid (RLearned p (.slice ao N cap) R w (.returned (.int .i64 (learnErr 1))) W1) := rlearned_same HM.out HB1.out (by rw [← HR.out]; unfold rlearnO; rw [HRD.out, if_pos h1])
    clear h1
    go_enter Tryz.func28, Tryz.ntmps28
    go_upto_region 1 with fail
    rw [HW1.out, HQ.out]
    go_wp2_with fail
    go_ret
    exact FIN.out
  · have d1 : decide (rd < 1) = false := decide_eq_false h1
    have H1 := Lib.hid h1
    clear h1
    go_enter Tryz.func28, Tryz.ntmps28
    go_upto_region 1 with fail
    rw [HW1.out, HQ.out]
    go_wp2_with fail
    clear x0 d1
    go_loopw [5, 6] (fun v5 v6 wx => ∃ k a : Nat, k ≤ N ∧ v6 = .int .i64 k ∧ v5 = .int .i64 a ∧ a = min k n ∧ (∀ x ∈ L.take k, x.rd ≠ rd) ∧ Below W1.heap.size W1 wx) (fun _ v6 _ => N - (intOf v6).toNat)
    case atStart => exact ⟨0, 0, Nat.zero_le _, rfl, rfl, by omega, fun x hx => by simp at hx, Below.refl _ _⟩
    case round =>
      obtain ⟨k, a, hk, rfl, rfl, ha, hall, hb⟩ := hrel
      have HA := Lib.hid ha
      have HALL := Lib.hid hall
      have HBW := Lib.hid hb
      have HBX := Lib.hid (HB1.out.trans (hb.mono HB1.out.size))
      have cp : wr.cell? ⟨p, 1, none⟩ = some (.slice ao N cap) := (cell_of_row _ _ 1 _ _ _ (MX.out wr HBX.out).cells).trans rfl
      have al : a ≤ 1000 := by omega
      clear hall hb ha
      by_cases hlt : k < N
      · have di : decide ((k : Int) < (N : Int)) = true := decide_eq_true (by omega)
        have di' : decide (k < N) = true := decide_eq_true hlt
        obtain ⟨x, hx⟩ : ∃ x, L[k]? = some x := ⟨L[k]'(by rw [HN.out]; exact hlt), List.getElem?_eq_getElem _⟩
        obtain ⟨g, capg, e⟩ := keys_nil_slice HM.out.outs HN.out (by omega)
        injection e with e4 e5 e6
        subst e4
        clear e5 e6
        have hat := (MX.out wr HBX.out).outs.lies.at hx
        obtain ⟨g', o', c', e', _, glt, rg, xok⟩ := hat
        injection e' with e' _ _
        injection e' with e'
        injection e' with e1 e2 _
        subst e1 e2
        rw [Nat.zero_add] at rg
        obtain ⟨c1, rgh⟩ := ot_range xok rg
        have cq := (QX.out wr HBW.out).1
        rw [HRD.out] at cq
        have z0 : (0 : Int) ≤ (k : Int) := by omega
        have z1 : (k : Int) < (N : Int) := by omega
        obtain ⟨xr, hxr⟩ : ∃ z, x.rd = z := ⟨_, rfl⟩
        have c1 : wr.cell? ⟨g, k * 67, none⟩ = some (.int .i64 xr) := by rw [← hxr]; exact c1
        have HXR := Lib.hid hxr
        have HX := Lib.hid hx
        have GL := Lib.hid glt
        have RGH := Lib.hid rgh
        have XOK := Lib.hid xok
        clear hx glt rg rgh xok hxr
        have BD : Hid (Below W1.heap.size W1 wr.drew) := HBW.out.drew
        by_cases he : xr = rd
        · have de : (xr == rd) = true := by simpa using he
          have FND : Hid (R = (L, if x.hash = o.hash then 2 else 3)) := by
            show _ = _
            rw [← HR.out]
            unfold rlearnO
            rw [HRD.out, if_neg (by have := H1.out; omega), find_ot HX.out HALL.out (by rw [HXR.out]; exact he)]
          obtain ⟨cd, hcd⟩ : ∃ c : Bool, (x.hash == o.hash) = c := ⟨_, rfl⟩
          have HCD := Lib.hid hcd
          clear he hcd
          go_upto_region 7 with fail
          go_region
          go_upto_region 8 with fail
          refine wp_region_tree (fun W => Below wr.heap.size wr W) (.one [0, 4, 8, 9] 1 (.last [2, 3, 5, 6, 7, 10])) (by kernel_rfl) (by kernel_rfl) (by kernel_rfl) (Below.refl _ _).drew.drew ?_
          have FRv0 : Hid (Below wr.heap.size wr wr.drew.drew) := (Below.refl _ _).drew.drew
          generalize wr.drew.drew = v0 at *
          have QH : Hid (∀ W, Below wr.heap.size wr W → (loadVar 27 ⟨q, 35, none⟩).run Tryz.prog W = .ok (.agg (hashArr o.hash)) W) := fun W hb => load_hash_at HO.out.hash (QX.out W (HBW.out.trans (hb.mono HBW.out.size))).2
          have XH : Hid (∀ W, Below wr.heap.size wr W → (loadVar 27 ⟨g, k * 67 + 35, none⟩).run Tryz.prog W = .ok (.agg (hashArr x.hash)) W) := fun W hb => load_hash_at XOK.out.hash (fun j v hv => (hb.cell (p := ⟨g, k * 67 + 35 + j, none⟩) GL.out).trans (RGH.out j v hv))
          have VX : Hid (∀ W, Below wr.heap.size wr W → (loadVar 117 ⟨p, 1, none⟩).run Tryz.prog W = .ok (.slice (some ⟨g, 0, none⟩) N cap) W) := fun W hb => by
            have c0 : W.cell? ⟨p, 1, none⟩ = some (.slice (some ⟨g, 0, none⟩) N cap) := (cell_of_row _ _ 1 _ _ _ (MX.out W (HBX.out.trans (hb.mono HBX.out.size))).cells).trans rfl
            go_simp
          have EH := hash_eql x.hash o.hash XOK.out.hash HO.out.hash
          rw [HCD.out] at EH
          obtain ⟨h1, hh1⟩ : ∃ z, hashArr x.hash = z := ⟨_, rfl⟩
          obtain ⟨h2, hh2⟩ : ∃ z, hashArr o.hash = z := ⟨_, rfl⟩
          rw [hh1] at XH EH
          rw [hh2] at QH EH
          clear hh1 hh2 cp c1 cq
          refine tree_one ?_
          simp only [List.map_cons, List.map_nil, opN, List.getD_cons_succ, List.getD_cons_zero]
          repeat (first
            | (refine quiet_load_row (by rfl) _ (.tmp 39) rfl _ _ rfl (.agg h2) (fun w' h => QH.out w' h) ?_; simp only [Act.put, List.setIfInBounds_toArray, List.set_cons_zero, List.set_cons_succ])
            | go_big_quiet_step (fail)
            | (go_big_quiet_want; go_big_quiet_op; refine ⟨_, fun _ _ => rfl, ?_⟩; go_big_quiet_on))
          refine wpQuiet_nil ?_
          refine tree_step (by rfl) fun K hK => ?_
          go_simp
          refine hK _ _ FRv0.out ?_
          clear hK K
          refine tree_last ?_
          simp only [List.map_cons, List.map_nil, opN, List.getD_cons_succ, List.getD_cons_zero]
          repeat (first
            | (refine quiet_load_row (by rfl) _ (.tmp 33) rfl _ _ rfl (.slice (some ⟨g, 0, none⟩) N cap) (fun w' h => VX.out w' h) ?_; simp only [Act.put, List.setIfInBounds_toArray, List.set_cons_zero, List.set_cons_succ])
            | (refine quiet_load_row (by rfl) _ (.tmp 37) rfl _ _ rfl (.agg h1) (fun w' h => XH.out w' h) ?_; simp only [Act.put, List.setIfInBounds_toArray, List.set_cons_zero, List.set_cons_succ])
            | go_big_quiet_step (fail)
            | (go_big_quiet_want; go_big_quiet_op; refine ⟨_, fun _ _ => EH _, ?_⟩; go_big_quiet_on)
            | (go_big_quiet_want; go_big_quiet_op; refine ⟨_, fun _ _ => rfl, ?_⟩; go_big_quiet_on))
          refine wpQuiet_nil ?_
          refine NoPanic.normal ?_
          have BV : Hid (Below w.heap.size w v0) := HBX.out.trans (FRv0.out.mono HBX.out.size)
          cases cd
          · have FIN : Hid (RLearned p (.slice (some ⟨g, 0, none⟩) N cap) R w (.returned (.int .i64 (learnErr 3))) v0) := rlearned_same HM.out BV.out (by rw [FND.out, if_neg (beq_eq_false_iff_ne.1 HCD.out)])
            go_wp2_with fail
            go_ret
            exact FIN.out
          · have FIN : Hid (RLearned p (.slice (some ⟨g, 0, none⟩) N cap) R w (.returned (.int .i64 (learnErr 2))) v0) := rlearned_same HM.out BV.out (by rw [FND.out, if_pos (by simpa using HCD.out)])
            go_wp2_with fail
            go_ret
            exact FIN.out
        · have de : (xr == rd) = false := beq_eq_false_iff_ne.2 he
          have HE := Lib.hid he
          have HKN : Hid (xr < rd ↔ k < n) := by
            have := HSP.out k x HX.out
            rw [HXR.out, HRD.out] at this
            exact this
          have ALL2 : Hid (∀ y ∈ L.take (k + 1), y.rd ≠ rd) := fun y hy => by
            rw [take_get1 HX.out] at hy
            rcases List.mem_append.1 hy with hy | hy
            · exact HALL.out y hy
            · have : y = x := by simpa using hy
              subst this
              rw [HXR.out]
              exact HE.out
          clear he
          go_upto_region 7 with fail
          go_region
          by_cases hlr : xr < rd
          · have dl : decide (xr < rd) = true := decide_eq_true hlr
            have kn := HKN.out.1 hlr
            go_upto_region 11 with fail
            go_region
            go_wp2_with fail
            refine ⟨⟨k + 1, k + 1, hlt, rfl, rfl, by omega, ALL2.out, BD.out.drew⟩, by simp [intOf]; omega⟩
          · have dl : decide (xr < rd) = false := decide_eq_false hlr
            have kn : ¬ k < n := fun h => hlr (HKN.out.2 h)
            have HA' := HA.out
            go_upto_region 11 with fail
            go_region
            go_wp2_with fail
            refine ⟨⟨k + 1, a, hlt, rfl, rfl, by omega, ALL2.out, BD.out.drew⟩, by simp [intOf]; omega⟩
      · have ek : k = N := by omega
        have di : decide ((k : Int) < (N : Int)) = false := decide_eq_false (by omega)
        have di' : decide (k < N) = false := decide_eq_false hlt
        have ea : a = n := by have := HA.out; omega
        have FND : Hid (R = (L.take n ++ o :: L.drop n, 0)) := by
          show _ = _
          have hf : L.find? (fun a => decide (a.rd = rd)) = none := by
            rw [List.find?_eq_none]
            intro y hy
            have := HALL.out y (by rw [ek, ← HN.out, List.take_length]; exact hy)
            simpa using this
          have t1 := HTK.out
          have t2 := HDR.out
          rw [HRD.out] at t1 t2
          rw [← HR.out]
          unfold rlearnO
          rw [HRD.out, if_neg (by have := H1.out; omega), hf, t1, t2]
        have VR := HRW.out
        have BRW := Lib.hid (heap_below VR HBW.out)
        obtain ⟨V, hV⟩ : ∃ V, otArr o = V := ⟨_, rfl⟩
        have RI := Lib.hid (ot_info HO.out)
        rw [hV] at RI BRW
        have HV := Lib.hid hV
        have VX : Hid (∀ W, Below wr.heap.size wr W → W.cell? ⟨p, 1, none⟩ = some (.slice ao N cap)) := fun W hb => (cell_of_row _ _ 1 _ _ _ (MX.out W (HBX.out.trans (hb.mono HBX.out.size))).cells).trans rfl
        have EK := Lib.hid ek
        clear ek HA HALL hk hlt hV VR
        subst ea
        rcases Nat.eq_zero_or_pos N with N0 | N0
        · have L0 : L = [] := List.eq_nil_of_length_eq_zero (by rw [HN.out]; exact N0)
          have hvn := HM.out.none L0
          injection hvn with e1 e2 e3
          subst e1 e3
          have a0 : a = 0 := by omega
          have AC : ((a : Nat) : Int) = 0 := by rw [a0]; rfl
          rw [AC]
          have NC : ((N : Nat) : Int) = 0 := by rw [N0]; rfl
          have NN : Hid (N = 0) := N0
          have DL : Hid (L.drop a = []) := by show _ = _; rw [L0]; simp
          have TL : Hid (L.take a = []) := by show _ = _; rw [L0]; simp
          have VX : Hid (∀ W, Below wr.heap.size wr W → W.cell? ⟨p, 1, none⟩ = some (.slice none 0 0)) := fun W hb => by rw [VX.out W hb, NN.out]
          have di : decide ((0 : Int) < 0) = false := rfl
          have cp : wr.cell? ⟨p, 1, none⟩ = some (.slice none 0 0) := VX.out wr (Below.refl _ _)
          have KC : ((k : Nat) : Int) = 0 := by have := EK.out; omega
          rw [KC]
          clear a0 N0 AC NC
          have LX : Hid (∀ W, Below wr.heap.size wr W → (loadVar 117 ⟨p, 1, none⟩).run Tryz.prog W = .ok (.slice none 0 0) W) := fun W hb => by
            have c0 := VX.out W hb
            go_simp
          have LV : Hid (∀ W, Below wr.heap.size wr W → (loadVar 42 ⟨q, 0, none⟩).run Tryz.prog W = .ok (.agg V) W) := fun W hb => by
            have hr := heap_below BRW.out hb
            have := run_loadVar_mid W q 0 42 (otList o) _ (fun j v hv => by
              rw [Nat.zero_add, cell_of_row _ _ _ _ _ _ hr, ← HV.out, otArr, List.getElem?_toArray]; exact hv) Tryz.underlying42 rfl (by rw [RI.out, ← HV.out]; simp [otArr])
            rw [show (otList o).toArray = V from HV.out] at this
            exact this
          go_upto_region 13 with fail
          go_cut [7] (fun v7 wx => OwnsR otK wx wr.heap.size v7 (o :: L.drop a) ∧ Below wr.heap.size wr wx)
          case first =>
            refine wp_region_tree (fun W => Below wr.heap.size wr W) (.two [0, 2, 6] 1 (.one [] 3 (.one [4, 5, 7] 8 (.last [9]))) 3 (.one [4, 5, 7] 1 (.one [] 8 (.last [9])))) (by kernel_rfl) (by kernel_rfl) (by kernel_rfl) (Below.refl _ _).drew ?_
            have FRv0 : Hid (Below wr.heap.size wr wr.drew) := (Below.refl _ _).drew
            generalize wr.drew = v0 at *
            refine tree_two ?_
            simp only [List.map_cons, List.map_nil, opN, List.getD_cons_succ, List.getD_cons_zero]
            repeat (first
              | (refine quiet_load_row (by rfl) _ (.tmp 3) rfl _ _ rfl (.agg V) (fun w' h => LV.out w' h) ?_; simp only [Act.put, List.setIfInBounds_toArray, List.set_cons_zero, List.set_cons_succ])
              | go_big_quiet_step (fail)
              | (go_big_quiet_want; go_big_quiet_op; refine ⟨_, fun _ _ => rfl, ?_⟩; go_big_quiet_on))
            refine wpQuiet_nil ?_
            refine ⟨tree_step (by rfl) fun K hK => ?_, tree_step (by rfl) fun K hK => ?_⟩
            · refine wp_of_list (wpList_build_r otK rfl (.tmp 55) rfl HO.out (.agg V) rfl (by rw [← HV.out]; rfl) ?_)
              have bz : Below v0.heap.size v0 (v0.alloc (.cells (otK.enc o).toArray otK.ty)) := (Below.refl _ _).alloc (Nat.le_refl _) _
              have OL := Lib.hid (OwnsR.lit1 otK (x := o) HO.out v0)
              have FRv1 := Lib.hid (FRv0.out.trans (bz.mono FRv0.out.size))
              have ZS : Hid (wr.heap.size ≤ v0.heap.size) := FRv0.out.size
              have ZT : Hid (v0.heap.size ≤ (v0.alloc (.cells (otK.enc o).toArray otK.ty)).heap.size) := bz.size
              refine hK _ _ FRv1.out ?_
              clear hK K bz
              obtain ⟨z, hz⟩ : ∃ z, v0.heap.size = z := ⟨_, rfl⟩
              rw [hz] at OL ZS ZT ⊢
              generalize v0.alloc (.cells (otK.enc o).toArray otK.ty) = v1 at *
              simp only [Act.put, List.setIfInBounds_toArray, List.set_cons_zero, List.set_cons_succ]
              clear hz
              refine tree_one ?_
              simp only [List.map_nil, opN, List.getD_cons_succ, List.getD_cons_zero]
              refine wpQuiet_nil ?_
              refine tree_step (by rfl) fun K hK => ?_
              go_simp
              refine hK _ _ FRv1.out ?_
              clear hK K
              refine tree_one ?_
              simp only [List.map_cons, List.map_nil, opN, List.getD_cons_succ, List.getD_cons_zero]
              repeat (first
                | (refine quiet_load_row (by rfl) _ (.tmp 59) rfl _ _ rfl (.slice none 0 0) (fun w' h => LX.out w' h) ?_; simp only [Act.put, List.setIfInBounds_toArray, List.set_cons_zero, List.set_cons_succ])
                | go_big_quiet_step (fail)
                | (go_big_quiet_want; go_big_quiet_op; refine ⟨_, fun _ _ => rfl, ?_⟩; go_big_quiet_on))
              refine wpQuiet_nil ?_
              refine tree_step (by rfl) fun K hK => ?_
              refine wp_of_list (wpList_append_src otK rfl (.tmp 56) (.tmp 62) rfl z (.slice (some ⟨z, 0, none⟩) 1 1) [o] (L.drop a) (.slice none 0 0) rfl rfl OL.out (fun y hy => HM.out.outs.1 y (List.mem_of_mem_drop hy)) (.inl ⟨rfl, DL.out⟩) (by rw [List.length_drop, HN.out]; simp; omega) ZT.out ?_)
              intro v63 w63 hown63 hg63
              have FR63 := Lib.hid (FRv1.out.grown hg63 FRv1.out.size (fun b e => by
                have e : z = b := by simpa [Value.ownBlock] using e
                have := ZS.out
                omega))
              have O63 : Hid (OwnsR otK w63 wr.heap.size v63 (o :: L.drop a)) := hown63.mono ZS.out
              refine hK _ _ FR63.out ?_
              clear hK K hown63 hg63 OL
              simp only [Act.put, List.setIfInBounds_toArray, List.set_cons_zero, List.set_cons_succ]
              refine tree_last ?_
              simp only [List.map_cons, List.map_nil, opN, List.getD_cons_succ, List.getD_cons_zero]
              repeat (first
                | go_big_quiet_step (fail)
                | (go_big_quiet_want; go_big_quiet_op; refine ⟨_, fun _ _ => rfl, ?_⟩; go_big_quiet_on))
              refine wpQuiet_nil ?_
              refine NoPanic.normal ?_
              go_wp2_with fail
              go_meet
              exact ⟨O63.out, FR63.out⟩
            · go_simp
              refine hK _ _ FRv0.out ?_
              clear hK K
              refine tree_one ?_
              simp only [List.map_cons, List.map_nil, opN, List.getD_cons_succ, List.getD_cons_zero]
              repeat (first
                | (refine quiet_load_row (by rfl) _ (.tmp 59) rfl _ _ rfl (.slice none 0 0) (fun w' h => LX.out w' h) ?_; simp only [Act.put, List.setIfInBounds_toArray, List.set_cons_zero, List.set_cons_succ])
                | go_big_quiet_step (fail)
                | (go_big_quiet_want; go_big_quiet_op; refine ⟨_, fun _ _ => rfl, ?_⟩; go_big_quiet_on))
              refine wpQuiet_nil ?_
              refine tree_step (by rfl) fun K hK => ?_
              refine wp_of_list (wpList_build_r otK rfl (.tmp 55) rfl HO.out (.agg V) rfl (by rw [← HV.out]; rfl) ?_)
              have bz : Below v0.heap.size v0 (v0.alloc (.cells (otK.enc o).toArray otK.ty)) := (Below.refl _ _).alloc (Nat.le_refl _) _
              have OL := Lib.hid (OwnsR.lit1 otK (x := o) HO.out v0)
              have FRv1 := Lib.hid (FRv0.out.trans (bz.mono FRv0.out.size))
              have ZS : Hid (wr.heap.size ≤ v0.heap.size) := FRv0.out.size
              have ZT : Hid (v0.heap.size ≤ (v0.alloc (.cells (otK.enc o).toArray otK.ty)).heap.size) := bz.size
              refine hK _ _ FRv1.out ?_
              clear hK K bz
              obtain ⟨z, hz⟩ : ∃ z, v0.heap.size = z := ⟨_, rfl⟩
              rw [hz] at OL ZS ZT ⊢
              generalize v0.alloc (.cells (otK.enc o).toArray otK.ty) = v1 at *
              simp only [Act.put, List.setIfInBounds_toArray, List.set_cons_zero, List.set_cons_succ]
              clear hz
              refine tree_one ?_
              simp only [List.map_nil, opN, List.getD_cons_succ, List.getD_cons_zero]
              refine wpQuiet_nil ?_
              refine tree_step (by rfl) fun K hK => ?_
              refine wp_of_list (wpList_append_src otK rfl (.tmp 56) (.tmp 62) rfl z (.slice (some ⟨z, 0, none⟩) 1 1) [o] (L.drop a) (.slice none 0 0) rfl rfl OL.out (fun y hy => HM.out.outs.1 y (List.mem_of_mem_drop hy)) (.inl ⟨rfl, DL.out⟩) (by rw [List.length_drop, HN.out]; simp; omega) ZT.out ?_)
              intro v63 w63 hown63 hg63
              have FR63 := Lib.hid (FRv1.out.grown hg63 FRv1.out.size (fun b e => by
                have e : z = b := by simpa [Value.ownBlock] using e
                have := ZS.out
                omega))
              have O63 : Hid (OwnsR otK w63 wr.heap.size v63 (o :: L.drop a)) := hown63.mono ZS.out
              refine hK _ _ FR63.out ?_
              clear hK K hown63 hg63 OL
              simp only [Act.put, List.setIfInBounds_toArray, List.set_cons_zero, List.set_cons_succ]
              refine tree_last ?_
              simp only [List.map_cons, List.map_nil, opN, List.getD_cons_succ, List.getD_cons_zero]
              repeat (first
                | go_big_quiet_step (fail)
                | (go_big_quiet_want; go_big_quiet_op; refine ⟨_, fun _ _ => rfl, ?_⟩; go_big_quiet_on))
              refine wpQuiet_nil ?_
              refine NoPanic.normal ?_
              go_wp2_with fail
              go_meet
              exact ⟨O63.out, FR63.out⟩
          case rest =>
            obtain ⟨o7, b7⟩ := hcut
            have O7 := Lib.hid o7
            have B7 := Lib.hid (HBX.out.trans (b7.mono HBX.out.size))
            have BC := Lib.hid b7
            have be : Below wc.heap.size wc (wc.alloc (.cells #[] 42)) := (Below.refl _ _).alloc (Nat.le_refl _) _
            have OE := Lib.hid (OwnsR.empty otK wc)
            have BE := Lib.hid (B7.out.trans (be.mono B7.out.size))
            have y1 : (wc.alloc (.cells #[] 42)).cell? ⟨p, 1, none⟩ = some (.slice none 0 0) := VX.out _ (BC.out.trans (be.mono BC.out.size))
            have TB : Hid (Turned (fun _ => False) wc (wc.alloc (.cells #[] 42))) := Turned.of_below be
            have SZ : Hid ((wc.alloc (.cells #[] 42)).heap.size = wc.heap.size + 1) := by show _ = _; simp
            clear o7 b7 be
            obtain ⟨z2, hz2⟩ : ∃ z, wc.heap.size = z := ⟨_, rfl⟩
            have Z2 := Lib.hid hz2
            have OE : Hid (OwnsR otK (wc.alloc (.cells #[] 42)) z2 (.slice (some ⟨z2, 0, none⟩) 0 0) []) := by rw [← hz2]; exact OE.out
            clear hz2
            go_wp2_with (first
              | (at_builtin; refine wpList_append_src otK rfl (.tmp 65) (.tmp 71) rfl z2 (.slice (some ⟨z2, 0, none⟩) 0 0) [] (L.take a) (.slice none 0 0) (by rw [← Z2.out]; rfl) rfl OE.out (fun y hy => HM.out.outs.1 y (List.mem_of_mem_take hy)) (.inl ⟨rfl, TL.out⟩) (by rw [List.length_take, HN.out]; simp; omega) (by have h1 := SZ.out; have h2 := Z2.out; omega) ?_; intro v72 w72 hown72 hg72
                 have b72 := Lib.hid (BE.out.grown hg72 BE.out.size (fun b e => by
                   have e : z2 = b := by simpa [Value.ownBlock] using e
                   have h1 := Z2.out; have h2 := B7.out.size; omega))
                 have o72 := Lib.hid hown72
                 have t72 : Hid (Turned (fun k => k = z2) wc w72) := (TB.out.weaken (G := fun k => k = z2) (fun k f => f.elim)).more hg72 (fun k e => .inl (own_is e))
                 have s72 : Hid (z2 ≤ w72.heap.size) := by have h1 := SZ.out; have h2 := Z2.out; have h3 := hg72.size; show _ ≤ _; omega
                 have src := Lib.hid (src_turned O7.out t72.out (fun k hk e => by have h1 := (O7.out.base_le k hk).2; have h2 := Z2.out; omega))
                 clear hown72 hg72)
              | (at_builtin; refine wpList_append_src otK rfl (.tmp 72) (.tmp 73) rfl z2 v72 (L.take a) (o :: L.drop a) u7 rfl rfl o72.out O7.out.1 src.out (by rw [List.length_cons, List.length_take, List.length_drop, HN.out]; omega) s72.out ?_; intro v74 w74 hown74 hg74
                 obtain ⟨a4, n4, c4, hv4⟩ := own_slice hown74
                 subst hv4
                 have b74 := Lib.hid (b72.out.grown hg74 b72.out.size (fun b e => by
                   have h1 := (o72.out.base_le b e).1; have h2 := Z2.out; have h3 := B7.out.size; omega))
                 have o74 := Lib.hid hown74
                 have y4 : w74.cell? ⟨p, 1, none⟩ = some (.slice none 0 0) := (cell_of_row _ _ 1 _ _ _ (MX.out w74 b74.out).cells).trans (by rw [NN.out]; rfl)
                 have f4 : w74.frozen? ⟨p, 1, none⟩ = false := frozen_of_row _ _ _ _ _ (MX.out w74 b74.out).cells
                 clear hown74 hg74))
            go_ret
            rw [FND.out]
            exact rlearn_fin HM.out b74.out o74.out (by have h1 := Z2.out; have h2 := B7.out.size; omega) (by simp)
        · obtain ⟨g, capg, e⟩ := keys_nil_slice HM.out.outs HN.out N0
          injection e with e4 e5 e6
          subst e4
          clear e5 e6
          have hcp := lies_cap HM.out.outs.lies (by rw [HN.out]; omega)
          rw [HN.out] at hcp
          have HCP := Lib.hid hcp
          obtain ⟨ad, had⟩ : ∃ ad : Addr, (if cap = a then some (⟨g, 0, none⟩ : Addr) else some ⟨g, a * 67, none⟩) = some ad ∧ (a < N → ad = ⟨g, a * 67, none⟩) := by
            by_cases e : cap = a
            · exact ⟨⟨g, 0, none⟩, if_pos e, fun h => by omega⟩
            · exact ⟨⟨g, a * 67, none⟩, if_neg e, fun _ => rfl⟩
          have HAD := Lib.hid had
          have z0 : (0 : Int) ≤ (a : Int) := by omega
          have z1 : (a : Int) ≤ (N : Int) := by omega
          have z2 : (N : Int) ≤ (cap : Int) := by omega
          have z3 : (a : Int) ≤ (cap : Int) := by omega
          have TKN : Hid (L.take N = L) := by show _ = _; rw [← HN.out]; exact List.take_length
          have AN : Hid (a ≤ N) := hnl
          clear had hcp
          have LX : Hid (∀ W, Below wr.heap.size wr W → (loadVar 117 ⟨p, 1, none⟩).run Tryz.prog W = .ok (.slice (some ⟨g, 0, none⟩) N cap) W) := fun W hb => by
            have c0 := VX.out W hb
            go_simp
          have LV : Hid (∀ W, Below wr.heap.size wr W → (loadVar 42 ⟨q, 0, none⟩).run Tryz.prog W = .ok (.agg V) W) := fun W hb => by
            have hr := heap_below BRW.out hb
            have := run_loadVar_mid W q 0 42 (otList o) _ (fun j v hv => by
              rw [Nat.zero_add, cell_of_row _ _ _ _ _ _ hr, ← HV.out, otArr, List.getElem?_toArray]; exact hv) Tryz.underlying42 rfl (by rw [RI.out, ← HV.out]; simp [otArr])
            rw [show (otList o).toArray = V from HV.out] at this
            exact this
          go_upto_region 13 with fail
          go_cut [7] (fun v7 wx => OwnsR otK wx wr.heap.size v7 (o :: L.drop a) ∧ Below wr.heap.size wr wx)
          case first =>
            refine wp_region_tree (fun W => Below wr.heap.size wr W) (.two [0, 2, 6] 1 (.one [] 3 (.one [4, 5, 7] 8 (.last [9]))) 3 (.one [4, 5, 7] 1 (.one [] 8 (.last [9])))) (by kernel_rfl) (by kernel_rfl) (by kernel_rfl) (Below.refl _ _).drew ?_
            have FRv0 : Hid (Below wr.heap.size wr wr.drew) := (Below.refl _ _).drew
            generalize wr.drew = v0 at *
            refine tree_two ?_
            simp only [List.map_cons, List.map_nil, opN, List.getD_cons_succ, List.getD_cons_zero]
            repeat (first
              | (refine quiet_load_row (by rfl) _ (.tmp 3) rfl _ _ rfl (.agg V) (fun w' h => LV.out w' h) ?_; simp only [Act.put, List.setIfInBounds_toArray, List.set_cons_zero, List.set_cons_succ])
              | go_big_quiet_step (fail)
              | (go_big_quiet_want; go_big_quiet_op; refine ⟨_, fun _ _ => rfl, ?_⟩; go_big_quiet_on))
            refine wpQuiet_nil ?_
            refine ⟨tree_step (by rfl) fun K hK => ?_, tree_step (by rfl) fun K hK => ?_⟩
            · refine wp_of_list (wpList_build_r otK rfl (.tmp 55) rfl HO.out (.agg V) rfl (by rw [← HV.out]; rfl) ?_)
              have bz : Below v0.heap.size v0 (v0.alloc (.cells (otK.enc o).toArray otK.ty)) := (Below.refl _ _).alloc (Nat.le_refl _) _
              have OL := Lib.hid (OwnsR.lit1 otK (x := o) HO.out v0)
              have FRv1 := Lib.hid (FRv0.out.trans (bz.mono FRv0.out.size))
              have ZS : Hid (wr.heap.size ≤ v0.heap.size) := FRv0.out.size
              have ZT : Hid (v0.heap.size ≤ (v0.alloc (.cells (otK.enc o).toArray otK.ty)).heap.size) := bz.size
              refine hK _ _ FRv1.out ?_
              clear hK K bz
              obtain ⟨z, hz⟩ : ∃ z, v0.heap.size = z := ⟨_, rfl⟩
              rw [hz] at OL ZS ZT ⊢
              generalize v0.alloc (.cells (otK.enc o).toArray otK.ty) = v1 at *
              simp only [Act.put, List.setIfInBounds_toArray, List.set_cons_zero, List.set_cons_succ]
              clear hz
              refine tree_one ?_
              simp only [List.map_nil, opN, List.getD_cons_succ, List.getD_cons_zero]
              refine wpQuiet_nil ?_
              refine tree_step (by rfl) fun K hK => ?_
              go_simp
              refine hK _ _ FRv1.out ?_
              clear hK K
              refine tree_one ?_
              simp only [List.map_cons, List.map_nil, opN, List.getD_cons_succ, List.getD_cons_zero]
              repeat (first
                | (refine quiet_load_row (by rfl) _ (.tmp 59) rfl _ _ rfl (.slice (some ⟨g, 0, none⟩) N cap) (fun w' h => LX.out w' h) ?_; simp only [Act.put, List.setIfInBounds_toArray, List.set_cons_zero, List.set_cons_succ])
                | go_big_quiet_step (fail)
                | (go_big_quiet_want; go_big_quiet_op; refine ⟨_, fun _ _ => rfl, ?_⟩; go_big_quiet_on))
              rw [HAD.out.1]
              refine wpQuiet_nil ?_
              refine tree_step (by rfl) fun K hK => ?_
              refine wp_of_list (wpList_append_src otK rfl (.tmp 56) (.tmp 62) rfl z (.slice (some ⟨z, 0, none⟩) 1 1) [o] (L.drop a) (.slice (some ad) (N - a) (cap - a)) rfl rfl OL.out (fun y hy => HM.out.outs.1 y (List.mem_of_mem_drop hy)) (by have := src_part (MX.out v1 (HBX.out.trans (FRv1.out.mono HBX.out.size))).outs HN.out AN.out (Nat.le_refl N) (c := cap - a) HAD.out.2; rw [TKN.out] at this; exact this) (by rw [List.length_drop, HN.out]; simp; omega) ZT.out ?_)
              intro v63 w63 hown63 hg63
              have FR63 := Lib.hid (FRv1.out.grown hg63 FRv1.out.size (fun b e => by
                have e : z = b := by simpa [Value.ownBlock] using e
                have := ZS.out
                omega))
              have O63 : Hid (OwnsR otK w63 wr.heap.size v63 (o :: L.drop a)) := hown63.mono ZS.out
              refine hK _ _ FR63.out ?_
              clear hK K hown63 hg63 OL
              simp only [Act.put, List.setIfInBounds_toArray, List.set_cons_zero, List.set_cons_succ]
              refine tree_last ?_
              simp only [List.map_cons, List.map_nil, opN, List.getD_cons_succ, List.getD_cons_zero]
              repeat (first
                | go_big_quiet_step (fail)
                | (go_big_quiet_want; go_big_quiet_op; refine ⟨_, fun _ _ => rfl, ?_⟩; go_big_quiet_on))
              refine wpQuiet_nil ?_
              refine NoPanic.normal ?_
              go_wp2_with fail
              go_meet
              exact ⟨O63.out, FR63.out⟩
            · go_simp
              refine hK _ _ FRv0.out ?_
              clear hK K
              refine tree_one ?_
              simp only [List.map_cons, List.map_nil, opN, List.getD_cons_succ, List.getD_cons_zero]
              repeat (first
                | (refine quiet_load_row (by rfl) _ (.tmp 59) rfl _ _ rfl (.slice (some ⟨g, 0, none⟩) N cap) (fun w' h => LX.out w' h) ?_; simp only [Act.put, List.setIfInBounds_toArray, List.set_cons_zero, List.set_cons_succ])
                | go_big_quiet_step (fail)
                | (go_big_quiet_want; go_big_quiet_op; refine ⟨_, fun _ _ => rfl, ?_⟩; go_big_quiet_on))
              rw [HAD.out.1]
              refine wpQuiet_nil ?_
              refine tree_step (by rfl) fun K hK => ?_
              refine wp_of_list (wpList_build_r otK rfl (.tmp 55) rfl HO.out (.agg V) rfl (by rw [← HV.out]; rfl) ?_)
              have bz : Below v0.heap.size v0 (v0.alloc (.cells (otK.enc o).toArray otK.ty)) := (Below.refl _ _).alloc (Nat.le_refl _) _
              have OL := Lib.hid (OwnsR.lit1 otK (x := o) HO.out v0)
              have FRv1 := Lib.hid (FRv0.out.trans (bz.mono FRv0.out.size))
              have ZS : Hid (wr.heap.size ≤ v0.heap.size) := FRv0.out.size
              have ZT : Hid (v0.heap.size ≤ (v0.alloc (.cells (otK.enc o).toArray otK.ty)).heap.size) := bz.size
              refine hK _ _ FRv1.out ?_
              clear hK K bz
              obtain ⟨z, hz⟩ : ∃ z, v0.heap.size = z := ⟨_, rfl⟩
              rw [hz] at OL ZS ZT ⊢
              generalize v0.alloc (.cells (otK.enc o).toArray otK.ty) = v1 at *
              simp only [Act.put, List.setIfInBounds_toArray, List.set_cons_zero, List.set_cons_succ]
              clear hz
              refine tree_one ?_
              simp only [List.map_nil, opN, List.getD_cons_succ, List.getD_cons_zero]
              refine wpQuiet_nil ?_
              refine tree_step (by rfl) fun K hK => ?_
              refine wp_of_list (wpList_append_src otK rfl (.tmp 56) (.tmp 62) rfl z (.slice (some ⟨z, 0, none⟩) 1 1) [o] (L.drop a) (.slice (some ad) (N - a) (cap - a)) rfl rfl OL.out (fun y hy => HM.out.outs.1 y (List.mem_of_mem_drop hy)) (by have := src_part (MX.out v1 (HBX.out.trans (FRv1.out.mono HBX.out.size))).outs HN.out AN.out (Nat.le_refl N) (c := cap - a) HAD.out.2; rw [TKN.out] at this; exact this) (by rw [List.length_drop, HN.out]; simp; omega) ZT.out ?_)
              intro v63 w63 hown63 hg63
              have FR63 := Lib.hid (FRv1.out.grown hg63 FRv1.out.size (fun b e => by
                have e : z = b := by simpa [Value.ownBlock] using e
                have := ZS.out
                omega))
              have O63 : Hid (OwnsR otK w63 wr.heap.size v63 (o :: L.drop a)) := hown63.mono ZS.out
              refine hK _ _ FR63.out ?_
              clear hK K hown63 hg63 OL
              simp only [Act.put, List.setIfInBounds_toArray, List.set_cons_zero, List.set_cons_succ]
              refine tree_last ?_
              simp only [List.map_cons, List.map_nil, opN, List.getD_cons_succ, List.getD_cons_zero]
              repeat (first
                | go_big_quiet_step (fail)
                | (go_big_quiet_want; go_big_quiet_op; refine ⟨_, fun _ _ => rfl, ?_⟩; go_big_quiet_on))
              refine wpQuiet_nil ?_
              refine NoPanic.normal ?_
              go_wp2_with fail
              go_meet
              exact ⟨O63.out, FR63.out⟩
          case rest =>
            obtain ⟨o7, b7⟩ := hcut
            have O7 := Lib.hid o7
            have B7 := Lib.hid (HBX.out.trans (b7.mono HBX.out.size))
            have BC := Lib.hid b7
            have be : Below wc.heap.size wc (wc.alloc (.cells #[] 42)) := (Below.refl _ _).alloc (Nat.le_refl _) _
            have OE := Lib.hid (OwnsR.empty otK wc)
            have BE := Lib.hid (B7.out.trans (be.mono B7.out.size))
            have y1 : (wc.alloc (.cells #[] 42)).cell? ⟨p, 1, none⟩ = some (.slice (some ⟨g, 0, none⟩) N cap) := VX.out _ (BC.out.trans (be.mono BC.out.size))
            have TB : Hid (Turned (fun _ => False) wc (wc.alloc (.cells #[] 42))) := Turned.of_below be
            have SZ : Hid ((wc.alloc (.cells #[] 42)).heap.size = wc.heap.size + 1) := by show _ = _; simp
            clear o7 b7 be
            obtain ⟨z2, hz2⟩ : ∃ z, wc.heap.size = z := ⟨_, rfl⟩
            have Z2 := Lib.hid hz2
            have OE : Hid (OwnsR otK (wc.alloc (.cells #[] 42)) z2 (.slice (some ⟨z2, 0, none⟩) 0 0) []) := by rw [← hz2]; exact OE.out
            clear hz2
            go_wp2_with (first
              | (at_builtin; refine wpList_append_src otK rfl (.tmp 65) (.tmp 71) rfl z2 (.slice (some ⟨z2, 0, none⟩) 0 0) [] (L.take a) (.slice (some ⟨g, 0, none⟩) a cap) (by rw [← Z2.out]; rfl) rfl OE.out (fun y hy => HM.out.outs.1 y (List.mem_of_mem_take hy)) (by have := src_part (MX.out _ (BE.out)).outs HN.out (Nat.zero_le a) AN.out (c := cap) (ad := ⟨g, 0, none⟩) (fun _ => by rw [Nat.zero_mul]); rw [List.drop_zero] at this; exact this) (by rw [List.length_take, HN.out]; simp; omega) (by have h1 := SZ.out; have h2 := Z2.out; omega) ?_; intro v72 w72 hown72 hg72
                 have b72 := Lib.hid (BE.out.grown hg72 BE.out.size (fun b e => by
                   have e : z2 = b := by simpa [Value.ownBlock] using e
                   have h1 := Z2.out; have h2 := B7.out.size; omega))
                 have o72 := Lib.hid hown72
                 have t72 : Hid (Turned (fun k => k = z2) wc w72) := (TB.out.weaken (G := fun k => k = z2) (fun k f => f.elim)).more hg72 (fun k e => .inl (own_is e))
                 have s72 : Hid (z2 ≤ w72.heap.size) := by have h1 := SZ.out; have h2 := Z2.out; have h3 := hg72.size; show _ ≤ _; omega
                 have src := Lib.hid (src_turned O7.out t72.out (fun k hk e => by have h1 := (O7.out.base_le k hk).2; have h2 := Z2.out; omega))
                 clear hown72 hg72)
              | (at_builtin; refine wpList_append_src otK rfl (.tmp 72) (.tmp 73) rfl z2 v72 (L.take a) (o :: L.drop a) u7 rfl rfl o72.out O7.out.1 src.out (by rw [List.length_cons, List.length_take, List.length_drop, HN.out]; omega) s72.out ?_; intro v74 w74 hown74 hg74
                 obtain ⟨a4, n4, c4, hv4⟩ := own_slice hown74
                 subst hv4
                 have b74 := Lib.hid (b72.out.grown hg74 b72.out.size (fun b e => by
                   have h1 := (o72.out.base_le b e).1; have h2 := Z2.out; have h3 := B7.out.size; omega))
                 have o74 := Lib.hid hown74
                 have y4 : w74.cell? ⟨p, 1, none⟩ = some (.slice (some ⟨g, 0, none⟩) N cap) := (cell_of_row _ _ 1 _ _ _ (MX.out w74 b74.out).cells).trans rfl
                 have f4 : w74.frozen? ⟨p, 1, none⟩ = false := frozen_of_row _ _ _ _ _ (MX.out w74 b74.out).cells
                 clear hown74 hg74))
            go_ret
            rw [FND.out]
            exact rlearn_fin HM.out b74.out o74.out (by have h1 := Z2.out; have h2 := B7.out.size; omega) (by simp)
theorem rlearn_has {p : Nat} {L : List Ot} {Q : Thing} {w0 w : World} (h : Has ((RMT p L).both Q) w0 w) (o : Ot) (ho : OtOk o) (hs : L.Pairwise (fun a b => a.rd < b.rd)) (hn : L.length ≤ 1000) :
    Calls Tryz.prog 28 #[.pointer (some ⟨p, 0, none⟩), .agg (otArr o)] w (Out1 ((RMT p (rlearnO L o).1).both Q) w0 (.int .i64 (learnErr (rlearnO L o).2))) := by
  obtain ⟨F, ⟨F1, F2, ⟨vo, hm, hF⟩, h2, h3, h4⟩, h5, h6⟩ := h
  refine (rlearn_any hm o ho hs hn).mono ?_
  rintro e w' ⟨rfl, vo', hm', ht, g1⟩
  have hs := h6.size
  refine ⟨rfl, fun k => FootR p vo' k ∨ F2 k, ⟨_, F2, ⟨vo', hm', fun k => Iff.rfl⟩, Q.kept h2 ht (fun k hk e => h3 k ((hF k).2 (.inl e)) hk), fun k hk hf => ?_, fun k => Iff.rfl⟩, fun k hk => ?_, h6.trans (ht.below hs fun k e => h5 k ((h4 k).2 (.inl ((hF k).2 (.inl e)))))⟩
  · rcases hk with hk | hk
    · exact h3 k ((hF k).2 (.inl hk)) hf
    · rcases g1 k hk with g | g
      · exact h3 k ((hF k).2 (.inr g)) hf
      · have := Q.lt h2 k hf
        omega
  · rcases hk with (hk | hk) | hk
    · exact h5 k ((h4 k).2 (.inl ((hF k).2 (.inl hk))))
    · rcases g1 k hk with g | g
      · exact h5 k ((h4 k).2 (.inl ((hF k).2 (.inr g))))
      · omega
    · exact h5 k ((h4 k).2 (.inr hk))
end Go.Proofs.YtpblfpnldbdncaaGreatDoor
