/- A merge in memory: its four maps, and the state that they hold. Whole rows stored by the walk itself: rules with side conditions that the context pays. The contract of merge's fits. -/
import Derived.Test.YtpblfpnldbdncaaGreatDoorG09
import Derived.Test.YtpblfpnldbdncaaGreatDoorG10
import Derived.Test.YtpblfpnldbdncaaGreatDoorG01
import Derived.OneCell
import Derived.RegionTactic
import Derived.BigRegion
import Derived.WalkSpells
namespace Go.Proofs.YtpblfpnldbdncaaGreatDoor
open Go.RowKit Go.Sort Go.Maps
open Sg (Rc)
open Mg (Mst Jd Pap)
set_option linter.unusedVariables false
set_option maxRecDepth 100000
/-! values -/
def rcK : Rk Tryz.prog Rc where
  ty := 31
  sl := 24
  size := 102
  bytes := 152
  zero := .agg (rcArr rc0)
  enc := rcList
  ok := RcOk
  len h := rcList_length h
  one u hu := rcList_one _ u hu
  und := Tryz.underlying24
  info := rc_infos
  zsize := rcArr_size rc0_ok
  pos := by omega
  small := by decide
def papList (c : Rc) : List Value := rcList c ++ hcl (rch c)
def papArr (c : Rc) : Array Value := (papList c).toArray
theorem papList_length {c : Rc} (h : RcOk c) : (papList c).length = 134 := by
  rw [papList, List.length_append, rcList_length h, hcl_length, rch_length]
theorem hcl_one (l : List UInt8) : ∀ v ∈ hcl l, v.oneCell' = true := by
  intro v hv
  obtain ⟨b, _, rfl⟩ := List.mem_map.1 hv
  rfl
theorem papList_one (c : Rc) : ∀ v ∈ papList c, v.oneCell' = true := by
  intro v hv
  rcases List.mem_append.1 hv with h | h
  · exact rcList_one c v h
  · exact hcl_one _ v h
theorem papArr_one (c : Rc) : (papArr c).all (·.oneCell') = true := by
  rw [Array.all_eq_true_iff_forall_mem]
  intro v hv
  exact papList_one c v (by simpa [papArr] using hv)
theorem papArr_size {c : Rc} (h : RcOk c) : (papArr c).size = 134 := by rw [papArr, List.size_toArray, papList_length h]
theorem pap_info {c : Rc} (h : RcOk c) : (Tryz.prog.info? 105).map (·.size) = some (papArr c).size := by rw [papArr_size h]; kernel_rfl
/-- 'paper{}' -/
def pap0L : List Value := rcList rc0 ++ hcl Mg.zeroH
def pap0 : Array Value := pap0L.toArray
theorem pap_infos : (Tryz.prog.info? 105).map (fun i => (i.zero, i.size, i.bytes)) = some (some (.agg pap0), 134, 184) := by kernel_rfl
theorem pap_zero (w : World) : (zeroValue 105).run Tryz.prog w = .ok (.agg pap0) w := by
  obtain ⟨i0, hi, hz0, hz1, hz2⟩ := info_parts pap_infos
  simp [zeroValue, typeInfo, hi, hz0, go_sem]
theorem pap0_size : pap0.size = 134 := by decide +kernel
def pairList (a b : Rc) : List Value := rcList a ++ rcList b
def pairArr (a b : Rc) : Array Value := (pairList a b).toArray
theorem pairList_length {a b : Rc} (h : RcOk a) (h' : RcOk b) : (pairList a b).length = 204 := by rw [pairList, List.length_append, rcList_length h, rcList_length h']
theorem pairArr_size {a b : Rc} (h : RcOk a) (h' : RcOk b) : (pairArr a b).size = 204 := by rw [pairArr, List.size_toArray, pairList_length h h']
theorem pairArr_one (a b : Rc) : (pairArr a b).all (·.oneCell') = true := by
  rw [Array.all_eq_true_iff_forall_mem]
  intro v hv
  have : v ∈ rcList a ++ rcList b := by simpa [pairArr, pairList] using hv
  rcases List.mem_append.1 this with h | h
  · exact rcList_one a v h
  · exact rcList_one b v h
theorem pair_info {a b : Rc} (h : RcOk a) (h' : RcOk b) : (Tryz.prog.info? 109).map (·.size) = some (pairArr a b).size := by rw [pairArr_size h h']; kernel_rfl
theorem pair_infos : (Tryz.prog.info? 109).map (fun i => (i.zero, i.size, i.bytes)) = some (some (.agg (pairArr rc0 rc0)), 204, 304) := by kernel_rfl
theorem pair_zero (w : World) : (zeroValue 109).run Tryz.prog w = .ok (.agg (pairArr rc0 rc0)) w := by
  obtain ⟨i0, hi, hz0, hz1, hz2⟩ := info_parts pair_infos
  simp [zeroValue, typeInfo, hi, hz0, go_sem]
def jdTail (j : Jd) : List Value := [.bool j.sound, .bool j.back, .bool j.counts]
def jdList (j : Jd) : List Value := rcList j.rc ++ (hcl j.h ++ jdTail j)
def jdArr (j : Jd) : Array Value := (jdList j).toArray
structure JdOk (j : Jd) : Prop where
  rc : RcOk j.rc
  h : j.h.length = 32
theorem jdList_length {j : Jd} (h : JdOk j) : (jdList j).length = 137 := by
  simp only [jdList, List.length_append, rcList_length h.rc, hcl_length, h.h, jdTail, List.length_cons, List.length_nil]
theorem jdList_one (j : Jd) : ∀ v ∈ jdList j, v.oneCell' = true := by
  intro v hv
  rcases List.mem_append.1 hv with h | h
  · exact rcList_one _ v h
  · rcases List.mem_append.1 h with h | h
    · exact hcl_one _ v h
    · simp only [jdTail, List.mem_cons, List.not_mem_nil, or_false] at h
      rcases h with rfl | rfl | rfl <;> rfl
theorem jdArr_one (j : Jd) : (jdArr j).all (·.oneCell') = true := by
  rw [Array.all_eq_true_iff_forall_mem]
  intro v hv
  exact jdList_one j v (by simpa [jdArr] using hv)
theorem jdArr_size {j : Jd} (h : JdOk j) : (jdArr j).size = 137 := by rw [jdArr, List.size_toArray, jdList_length h]
theorem jd_info {j : Jd} (h : JdOk j) : (Tryz.prog.info? 107).map (·.size) = some (jdArr j).size := by rw [jdArr_size h]; kernel_rfl
def jd0 : Jd := ⟨rc0, Mg.zeroH, false, false, false⟩
theorem jd0_ok : JdOk jd0 := ⟨rc0_ok, zeroH_length⟩
theorem jd_infos : (Tryz.prog.info? 107).map (fun i => (i.zero, i.size, i.bytes)) = some (some (.agg (jdArr jd0)), 137, 192) := by kernel_rfl
def jdK : Rk Tryz.prog Jd where
  ty := 107
  sl := 102
  size := 137
  bytes := 192
  zero := .agg (jdArr jd0)
  enc := jdList
  ok := JdOk
  len h := jdList_length h
  one u hu := jdList_one _ u hu
  und := Tryz.underlying102
  info := jd_infos
  zsize := jdArr_size jd0_ok
  pos := by omega
  small := by decide
/-! new variables: rules of the walk -/
theorem wp_alloc_pap {d : Option Tmp} {ty : TypeId} {pos : String} {after : Array Edge} {gd : Option (Nat × Bool)} {a : Act} {w : World} {K : Act → World → Prop} {Q : Exit → Act → World → Prop} :
    Oper.wp Tryz.prog ⟨d, .alloc 105, ty, pos, after, gd⟩ a w K Q = K (a.put d (.pointer (some ⟨w.heap.size, 0, none⟩))) (w.alloc (.cells pap0 105)) := by
  obtain ⟨i0, hi, hz0, hz1, hz2⟩ := info_parts pap_infos
  unfold Oper.wp execOp
  simp [Instr.alloc, newVar, zeroValue, typeInfo, hi, hz0, go_sem]
  try rfl
theorem wp_alloc_jd {d : Option Tmp} {ty : TypeId} {pos : String} {after : Array Edge} {gd : Option (Nat × Bool)} {a : Act} {w : World} {K : Act → World → Prop} {Q : Exit → Act → World → Prop} :
    Oper.wp Tryz.prog ⟨d, .alloc 107, ty, pos, after, gd⟩ a w K Q = K (a.put d (.pointer (some ⟨w.heap.size, 0, none⟩))) (w.alloc (.cells (jdArr jd0) 107)) := by
  obtain ⟨i0, hi, hz0, hz1, hz2⟩ := info_parts jd_infos
  unfold Oper.wp execOp
  simp [Instr.alloc, newVar, zeroValue, typeInfo, hi, hz0, go_sem]
  try rfl
theorem wp_alloc_pair {d : Option Tmp} {ty : TypeId} {pos : String} {after : Array Edge} {gd : Option (Nat × Bool)} {a : Act} {w : World} {K : Act → World → Prop} {Q : Exit → Act → World → Prop} :
    Oper.wp Tryz.prog ⟨d, .alloc 109, ty, pos, after, gd⟩ a w K Q = K (a.put d (.pointer (some ⟨w.heap.size, 0, none⟩))) (w.alloc (.cells (pairArr rc0 rc0) 109)) := by
  obtain ⟨i0, hi, hz0, hz1, hz2⟩ := info_parts pair_infos
  unfold Oper.wp execOp
  simp [Instr.alloc, newVar, zeroValue, typeInfo, hi, hz0, go_sem]
  try rfl
/-! the state -/
structure StOk (st : Mst) : Prop where
  pub : ∀ k v, st.pub k = some v → I64 k ∧ I64 v
  outs : ∀ k h, st.outs k = some h → I64 k ∧ h.length = 32
  kept : ∀ k s c, st.kept k s = some c → RcOk c ∧ c.kiosk = k ∧ c.serial = s
  low : ∀ k s c, st.kept k s = some c → 1 ≤ s
  clones : ∀ k x, st.clones k = some x → I64 k ∧ RcOk x.1 ∧ RcOk x.2
def pubF (st : Mst) : Int → Option Value := fun k => (st.pub k).map (Value.int .i64)
def outF (st : Mst) : Int → Option Value := fun k => (st.outs k).map fun h => .agg (hashArr h)
def keptF (st : Mst) : Int × Int → Option Value := fun x => (st.kept x.1 x.2).map fun c => .agg (papArr c)
def cloneF (st : Mst) : Int → Option Value := fun k => (st.clones k).map fun x => .agg (pairArr x.1 x.2)
/-- blocks that differ -/
def NeB (a b : Value) : Prop := ∀ k, mapBlk a = some k → mapBlk b ≠ some k
theorem NeB.symm {a b : Value} (h : NeB a b) : NeB b a := fun k h1 h2 => h k h2 h1
structure MrgAt (w : World) (p : Nat) (vp vo vk vc : Value) (st : Mst) (n : Nat) : Prop where
  cells : w.heap[p]? = some (.cells #[vp, vo, vk, vc] 82 (0, 0))
  pub : MapIs kInt w vp n (pubF st)
  outs : MapIs kInt w vo n (outF st)
  kept : MapIs kPl w vk n (keptF st)
  clones : MapIs kInt w vc n (cloneF st)
  po : NeB vp vo
  pk : NeB vp vk
  pc : NeB vp vc
  ok' : NeB vo vk
  oc : NeB vo vc
  kc : NeB vk vc
  ok : StOk st
/-- the blocks of a merge -/
def FootM (p : Nat) (vp vo vk vc : Value) (k : Nat) : Prop := k = p ∨ mapBlk vp = some k ∨ mapBlk vo = some k ∨ mapBlk vk = some k ∨ mapBlk vc = some k
theorem mapIs_turned {k : TypeId} {κ : Type} {K : Kk Tryz.prog k κ} {w w' : World} {mv : Value} {n : Nat} {f : κ → Option Value} {G : Nat → Prop} (h : MapIs K w mv n f) (ht : Turned G w w') (hd : ∀ b, mapBlk mv = some b → ¬ G b) : MapIs K w' mv n f := by
  rcases h with h | ⟨b, rfl, D, ⟨es, clock, hb, r⟩, h2⟩
  · exact .inl h
  · exact .inr ⟨b, rfl, D, ⟨es, clock, (ht.block b (Array.getElem?_eq_some_iff.1 hb).1 (hd b rfl)).trans hb, r⟩, h2⟩
theorem MrgAt.turned {w w' : World} {p : Nat} {vp vo vk vc : Value} {st : Mst} {n : Nat} {G : Nat → Prop} (h : MrgAt w p vp vo vk vc st n) (ht : Turned G w w') (hd : ∀ k, FootM p vp vo vk vc k → ¬ G k) : MrgAt w' p vp vo vk vc st n where
  cells := (ht.block p (Array.getElem?_eq_some_iff.1 h.cells).1 (hd p (.inl rfl))).trans h.cells
  pub := mapIs_turned h.pub ht fun b hb => hd b (.inr (.inl hb))
  outs := mapIs_turned h.outs ht fun b hb => hd b (.inr (.inr (.inl hb)))
  kept := mapIs_turned h.kept ht fun b hb => hd b (.inr (.inr (.inr (.inl hb))))
  clones := mapIs_turned h.clones ht fun b hb => hd b (.inr (.inr (.inr (.inr hb))))
  po := h.po
  pk := h.pk
  pc := h.pc
  ok' := h.ok'
  oc := h.oc
  kc := h.kc
  ok := h.ok
theorem MrgAt.below {w w' : World} {p : Nat} {vp vo vk vc : Value} {st : Mst} {n : Nat} (h : MrgAt w p vp vo vk vc st n) (hb : Below w.heap.size w w') : MrgAt w' p vp vo vk vc st n :=
  h.turned (G := fun _ => False) (Turned.of_below hb) (fun _ _ f => f)
theorem MrgAt.mono {w : World} {p : Nat} {vp vo vk vc : Value} {st : Mst} {n m : Nat} (h : MrgAt w p vp vo vk vc st n) (hm : n ≤ m) : MrgAt w p vp vo vk vc st m :=
  { h with pub := h.pub.mono hm, outs := h.outs.mono hm, kept := h.kept.mono hm, clones := h.clones.mono hm }
theorem MrgAt.lt {w : World} {p : Nat} {vp vo vk vc : Value} {st : Mst} {n : Nat} (h : MrgAt w p vp vo vk vc st n) : ∀ k, FootM p vp vo vk vc k → k < w.heap.size := by
  rintro k (rfl | hk | hk | hk | hk)
  · exact (Array.getElem?_eq_some_iff.1 h.cells).1
  · exact h.pub.lt k hk
  · exact h.outs.lt k hk
  · exact h.kept.lt k hk
  · exact h.clones.lt k hk
/-- a map's block is no struct's -/
theorem MrgAt.ne_p {w : World} {p : Nat} {vp vo vk vc : Value} {st : Mst} {n : Nat} (h : MrgAt w p vp vo vk vc st n) {k : TypeId} {κ : Type} {K : Kk Tryz.prog k κ} {mv : Value} {m : Nat} {f : κ → Option Value} (hm : MapIs K w mv m f) : mapBlk mv ≠ some p := by
  intro e
  obtain ⟨es, c, h1⟩ := hm.isMap p e
  rw [h.cells] at h1
  cases h1
/-- a merge as a thing -/
def MrgT (p : Nat) (st : Mst) (n : Nat) : Thing where
  On w F := ∃ vp vo vk vc, MrgAt w p vp vo vk vc st n ∧ ∀ k, F k ↔ FootM p vp vo vk vc k
  lt := by
    rintro w F ⟨vp, vo, vk, vc, h, hF⟩ k hk
    exact h.lt k ((hF k).1 hk)
  kept := by
    rintro w w' F G ⟨vp, vo, vk, vc, h, hF⟩ ht hd
    exact ⟨vp, vo, vk, vc, h.turned ht (fun k hk => hd k ((hF k).2 hk)), hF⟩
theorem MrgAt.vals {w : World} {p : Nat} {vp vo vk vc : Value} {st : Mst} {n : Nat} (h : MrgAt w p vp vo vk vc st n) : w.cell? ⟨p, 0, none⟩ = some vp ∧ w.cell? ⟨p, 1, none⟩ = some vo ∧ w.cell? ⟨p, 2, none⟩ = some vk ∧ w.cell? ⟨p, 3, none⟩ = some vc := by
  refine ⟨?_, ?_, ?_, ?_⟩ <;> rw [cell_of_row _ _ _ _ _ _ h.cells] <;> rfl
theorem MrgAt.frozen {w : World} {p : Nat} {vp vo vk vc : Value} {st : Mst} {n : Nat} (h : MrgAt w p vp vo vk vc st n) (o : Nat) : w.frozen? ⟨p, o, none⟩ = false := by simp [World.frozen?, h.cells]
end Go.Proofs.YtpblfpnldbdncaaGreatDoor
namespace Go.Proofs.YtpblfpnldbdncaaGreatDoor
open Go.RowKit Go.Sort Go.Maps
open Sg (Rc)
set_option linter.unusedVariables false
set_option maxRecDepth 100000
def blockOf : Value → Nat
  | .pointer (some a) => a.block
  | _ => 0
/-- a pointer at a block of n cells of a type -/
def IsRowAt (w : World) (v : Value) (ty : TypeId) (n : Nat) : Prop := ∃ g cs, v = .pointer (some ⟨g, 0, none⟩) ∧ Array.size cs = n ∧ w.heap[g]? = some (.cells cs ty (0, 0))
theorem isRowAt {w : World} {g n : Nat} {cs : Array Value} {ty : TypeId} (hl : cs.size = n) (hg : w.heap[g]? = some (.cells cs ty (0, 0))) : IsRowAt w (.pointer (some ⟨g, 0, none⟩)) ty n := ⟨g, cs, rfl, hl, hg⟩
/-- a value of n cells -/
def IsRow (v : Value) (n : Nat) : Prop := ∃ cs : Array Value, v = .agg cs ∧ cs.size = n ∧ cs.all (·.oneCell') = true
theorem isRow {n : Nat} {cs : Array Value} (h : cs.size = n) (h1 : cs.all (·.oneCell') = true) : IsRow (.agg cs) n := ⟨cs, rfl, h, h1⟩
theorem wp_store_any {d : Option Tmp} {x y : Operand} {ty t0 : TypeId} {pos : String} {after : Array Edge} {gd : Option (Nat × Bool)} {a : Act} {w : World} {K : Act → World → Prop} {Q : Exit → Act → World → Prop} (n : Nat) (hi : (Tryz.prog.info? t0).map (·.size) = some n)
    (h0 : IsRowAt w (a.eval x) t0 n) (h1 : IsRow (a.eval y) n) :
    Oper.wp Tryz.prog ⟨d, .store t0 x y, ty, pos, after, gd⟩ a w K Q = K (a.put d undef) (w.setRow (blockOf (a.eval x)) (a.eval y).cells) := by
  obtain ⟨g, cs, e, hl, hg⟩ := h0
  obtain ⟨cs', e', hl', ho'⟩ := h1
  have hr := run_storeVar_row (P := Tryz.prog) w g t0 t0 cs cs' hg (by rw [hi, hl']) (by rw [hl, hl']) ho'
  unfold Oper.wp execOp
  simp only [e, e', blockOf, Value.cells, Instr.storeAt, Instr.sureAddr, Sem.run_bind, Sem.run_pure, Result.andThen_ok, hr]
  rfl
theorem wp_store_h {d : Option Tmp} {x y : Operand} {ty : TypeId} {pos : String} {after : Array Edge} {gd : Option (Nat × Bool)} {a : Act} {w : World} {K : Act → World → Prop} {Q : Exit → Act → World → Prop} (h0 : IsRowAt w (a.eval x) 27 32) (h1 : IsRow (a.eval y) 32) :
    Oper.wp Tryz.prog ⟨d, .store 27 x y, ty, pos, after, gd⟩ a w K Q = K (a.put d undef) (w.setRow (blockOf (a.eval x)) (a.eval y).cells) := wp_store_any 32 (by kernel_rfl) h0 h1
theorem wp_store_rc {d : Option Tmp} {x y : Operand} {ty : TypeId} {pos : String} {after : Array Edge} {gd : Option (Nat × Bool)} {a : Act} {w : World} {K : Act → World → Prop} {Q : Exit → Act → World → Prop} (h0 : IsRowAt w (a.eval x) 31 102) (h1 : IsRow (a.eval y) 102) :
    Oper.wp Tryz.prog ⟨d, .store 31 x y, ty, pos, after, gd⟩ a w K Q = K (a.put d undef) (w.setRow (blockOf (a.eval x)) (a.eval y).cells) := wp_store_any 102 (by kernel_rfl) h0 h1
theorem wp_store_pap {d : Option Tmp} {x y : Operand} {ty : TypeId} {pos : String} {after : Array Edge} {gd : Option (Nat × Bool)} {a : Act} {w : World} {K : Act → World → Prop} {Q : Exit → Act → World → Prop} (h0 : IsRowAt w (a.eval x) 105 134) (h1 : IsRow (a.eval y) 134) :
    Oper.wp Tryz.prog ⟨d, .store 105 x y, ty, pos, after, gd⟩ a w K Q = K (a.put d undef) (w.setRow (blockOf (a.eval x)) (a.eval y).cells) := wp_store_any 134 (by kernel_rfl) h0 h1
theorem wp_store_pair {d : Option Tmp} {x y : Operand} {ty : TypeId} {pos : String} {after : Array Edge} {gd : Option (Nat × Bool)} {a : Act} {w : World} {K : Act → World → Prop} {Q : Exit → Act → World → Prop} (h0 : IsRowAt w (a.eval x) 109 204) (h1 : IsRow (a.eval y) 204) :
    Oper.wp Tryz.prog ⟨d, .store 109 x y, ty, pos, after, gd⟩ a w K Q = K (a.put d undef) (w.setRow (blockOf (a.eval x)) (a.eval y).cells) := wp_store_any 204 (by kernel_rfl) h0 h1
theorem wp_store_jd {d : Option Tmp} {x y : Operand} {ty : TypeId} {pos : String} {after : Array Edge} {gd : Option (Nat × Bool)} {a : Act} {w : World} {K : Act → World → Prop} {Q : Exit → Act → World → Prop} (h0 : IsRowAt w (a.eval x) 107 137) (h1 : IsRow (a.eval y) 137) :
    Oper.wp Tryz.prog ⟨d, .store 107 x y, ty, pos, after, gd⟩ a w K Q = K (a.put d undef) (w.setRow (blockOf (a.eval x)) (a.eval y).cells) := wp_store_any 137 (by kernel_rfl) h0 h1
theorem hash_isRow {l : List UInt8} (h : l.length = 32) : IsRow (.agg (hashArr l)) 32 := isRow (by rw [hashArr_size, h]) (hashArr_one l)
theorem rc_isRow {c : Rc} (h : RcOk c) : IsRow (.agg (rcArr c)) 102 := isRow (rcArr_size h) (rcArr_one c)
theorem pap_isRow {c : Rc} (h : RcOk c) : IsRow (.agg (papArr c)) 134 := isRow (papArr_size h) (papArr_one c)
theorem pair_isRow {a b : Rc} (h : RcOk a) (h' : RcOk b) : IsRow (.agg (pairArr a b)) 204 := isRow (pairArr_size h h') (pairArr_one a b)
/-! loads in a plain region -/
section
variable {ops : Array Oper} {rest : List Oper} {o : Oper} {a : Act} {w : World} {Q : Exit → Act → World → Prop}
theorem wpList_load_h (hgd : o.guard = none) (x : Operand) (ho : o.op = .load 27 x) (b off : Nat) (hx : a.eval x = .pointer (some ⟨b, off, none⟩)) {l : List UInt8} (hl : l.length = 32) (hc : w.rangeAt b off (hcl l))
    (h : wpList Tryz.prog ops Q rest (a.put o.dst (.agg (hashArr l))) w) : wpList Tryz.prog ops Q (o :: rest) a w :=
  wpList_load_mid hgd 27 x ho b off hx (hcl l) _ hc Tryz.underlying27 rfl (by rw [hcl_length, hl]; kernel_rfl) h
theorem wpList_load_c (hgd : o.guard = none) (x : Operand) (ho : o.op = .load 31 x) (b off : Nat) (hx : a.eval x = .pointer (some ⟨b, off, none⟩)) {c : Rc} (hc : RcOk c) (hr : RcAt w b off c)
    (h : wpList Tryz.prog ops Q rest (a.put o.dst (.agg (rcArr c))) w) : wpList Tryz.prog ops Q (o :: rest) a w :=
  wpList_load_mid hgd 31 x ho b off hx (rcList c) _ hr Tryz.underlying31 rfl (rc_infoL hc) h
theorem wpList_load_j (hgd : o.guard = none) (x : Operand) (ho : o.op = .load 107 x) (b off : Nat) (hx : a.eval x = .pointer (some ⟨b, off, none⟩)) {j : Mg.Jd} (hj : JdOk j) (hr : w.rangeAt b off (jdList j))
    (h : wpList Tryz.prog ops Q rest (a.put o.dst (.agg (jdArr j))) w) : wpList Tryz.prog ops Q (o :: rest) a w :=
  wpList_load_mid hgd 107 x ho b off hx (jdList j) _ hr Tryz.underlying107 rfl (by rw [jdList_length hj]; kernel_rfl) h
/-- a load under a guard that holds -/
theorem wpList_load_hg (hw : Region.wanted o (yielded ops a.tmps) = true) (x : Operand) (ho : o.op = .load 27 x) (b off : Nat) (hx : a.eval x = .pointer (some ⟨b, off, none⟩)) {l : List UInt8} (hl : l.length = 32) (hc : w.rangeAt b off (hcl l))
    (h : wpList Tryz.prog ops Q rest (a.put o.dst (.agg (hashArr l))) w) : wpList Tryz.prog ops Q (o :: rest) a w :=
  wpList_step fun K hK => by rw [if_pos hw]; exact wp_load_mid 27 x ho b off hx (hcl l) _ hc Tryz.underlying27 rfl (by rw [hcl_length, hl]; kernel_rfl) (hK _ _ h)
theorem wpList_load_cg (hw : Region.wanted o (yielded ops a.tmps) = true) (x : Operand) (ho : o.op = .load 31 x) (b off : Nat) (hx : a.eval x = .pointer (some ⟨b, off, none⟩)) {c : Rc} (hc : RcOk c) (hr : RcAt w b off c)
    (h : wpList Tryz.prog ops Q rest (a.put o.dst (.agg (rcArr c))) w) : wpList Tryz.prog ops Q (o :: rest) a w :=
  wpList_step fun K hK => by rw [if_pos hw]; exact wp_load_mid 31 x ho b off hx (rcList c) _ hr Tryz.underlying31 rfl (rc_infoL hc) (hK _ _ h)
end
end Go.Proofs.YtpblfpnldbdncaaGreatDoor
namespace Go.Proofs.YtpblfpnldbdncaaGreatDoor
open Go.RowKit Go.Sort Go.Maps
open Sg (Rc)
open Mg (Mst)
set_option linter.unusedVariables false
set_option maxRecDepth 100000
attribute [local go_sem ↓] wp_alloc_h wp_build_h0 wp_store_h
theorem MrgAt.lookOut {w W : World} {p : Nat} {vp vo vk vc : Value} {st : Mst} {n : Nat} (h : MrgAt w p vp vo vk vc st n) (hb : Below w.heap.size w W) {k : Int} (hk : I64 k) :
    (Instr.lookup 78 vo (.int .i64 k) true).run Tryz.prog W = .ok (.tuple #[.agg (hashArr ((st.outs k).getD Mg.zeroH)), .bool (st.outs k).isSome]) W := by
  have := (h.outs.below hb).look_ok Tryz.underlying78 (hash_zero W) hk
  have e1 : ((outF st k).getD (.agg (hashArr Mg.zeroH))) = .agg (hashArr ((st.outs k).getD Mg.zeroH)) := by unfold outF; cases st.outs k <;> rfl
  have e2 : (outF st k).isSome = (st.outs k).isSome := by unfold outF; cases st.outs k <;> rfl
  rw [e1, e2] at this
  exact this
theorem StOk.outLen {st : Mst} (h : StOk st) (k : Int) : ((st.outs k).getD Mg.zeroH).length = 32 := by
  cases ho : st.outs k with
  | none => exact zeroH_length
  | some x => exact (h.outs k x ho).2
theorem rc_block_lt_cell {w : World} {b o : Nat} {v : Value} (h : w.cell? ⟨b, o, none⟩ = some v) : b < w.heap.size := block_lt_of_cell h
set_option maxHeartbeats 4000000 in
theorem fits_any {w : World} {p : Nat} {vp vo vk vc : Value} {st : Mst} {n : Nat} (h : MrgAt w p vp vo vk vc st n) (c : Rc) (hc : RcOk c) :
    Calls Tryz.prog 82 #[.pointer (some ⟨p, 0, none⟩), .agg (rcArr c)] w fun e w' => e = .returned (.bool (st.fits c)) ∧ Below w.heap.size w w' := by
  have hb0 : Below w.heap.size w (w.alloc (.cells (rcArr c) 31)) := (Below.refl _ _).alloc (Nat.le_refl _) _
  have RW := heap_alloc_new w (.cells (rcArr c) 31)
  have at0 := RcAt.of_row RW
  have k3 := at0.seen
  have l1 := at0.output
  rw [Nat.zero_add] at k3 l1
  have HB0 := Lib.hid hb0
  by_cases hs : c.seen = 0
  · have ef : st.fits c = (c.output == Mg.zeroH) := by
      unfold Mst.fits
      rw [if_pos hs]
      rw [Bool.eq_iff_iff]; simp
    rw [ef]
    rw [hs] at k3
    have E1 := Lib.hid (hash_eql c.output Mg.zeroH hc.output zeroH_length)
    have OL := Lib.hid hc.output
    have L1 := Lib.hid l1
    clear h ef hs at0 l1 hc
    go_enter Tryz.func82, Tryz.ntmps82
    have E1x := E1.out
    go_wp2_with (refine wpList_load_h rfl (.tmp 10) rfl w.heap.size 4 rfl OL.out L1.out ?_)
    go_ret
    exact ⟨rfl, HB0.out⟩
  · have d0 : (c.seen == 0) = false := by simpa using hs
    have hsn := hc.seen
    have OL := Lib.hid hc.output
    have L1 := Lib.hid l1
    obtain ⟨W0, hW⟩ : ∃ W0, w.alloc (.cells (rcArr c) 31) = W0 := ⟨_, rfl⟩
    have HW := Lib.hid hW
    have k3L := k3
    rw [hW] at HB0 k3 L1 hb0
    have hx : ∀ x, st.outs c.seen = some x → x.length = 32 := fun x h1 => (h.ok.outs _ _ h1).2
    have hlen := h.ok.outLen c.seen
    have M0 := h.below hb0
    obtain ⟨v0, v1, v2, v3⟩ := M0.vals
    obtain ⟨Z, hZ⟩ : ∃ Z, W0.alloc (.cells (hashArr Mg.zeroH) 27) = Z := ⟨_, rfl⟩
    have bz : Below W0.heap.size W0 Z := by rw [← hZ]; exact (Below.refl _ _).alloc (Nat.le_refl _) _
    have y1 := (bz.cell (p := ⟨p, 1, none⟩) (rc_block_lt M0.cells)).trans v1
    have y3 := (bz.cell (p := ⟨w.heap.size, 3, none⟩) (block_lt_of_cell k3)).trans k3
    have a0 := isRowAt (n := 32) (by rw [hashArr_size, zeroH_length]) (show Z.drew.heap[W0.heap.size]? = _ by rw [← hZ]; exact heap_alloc_new W0 (.cells (hashArr Mg.zeroH) 27))
    have a1 := hash_isRow hlen
    have e1 : blockOf (.pointer (some ⟨W0.heap.size, 0, none⟩)) = W0.heap.size := rfl
    have lk1 := M0.lookOut (Below.refl W0.heap.size W0).drew hsn
    have lk2 := M0.lookOut bz.drew hsn
    obtain ⟨hh, ehh⟩ : ∃ hh, (st.outs c.seen).getD Mg.zeroH = hh := ⟨_, rfl⟩
    obtain ⟨bb, ebb⟩ : ∃ bb, (st.outs c.seen).isSome = bb := ⟨_, rfl⟩
    rw [ehh, ebb] at lk1 lk2
    rw [ehh] at a1 hlen
    have EHH := Lib.hid ehh
    have EBB := Lib.hid ebb
    rw [← hZ] at y1 y3 a0 lk2
    clear v0 v2 v3 hZ bz h hb0 RW at0 l1 hW hx ehh ebb M0
    go_enter Tryz.func82, Tryz.ntmps82
    go_wp2_with fail
    rw [HW.out]
    clear k3L
    go_region
    have BD : Below W0.heap.size W0 (W0.alloc (.cells (hashArr Mg.zeroH) 27)).drew := ((Below.refl _ _).alloc (Nat.le_refl _) _).drew
    have B2 := Lib.hid (below_setRow BD (Nat.le_refl _) (hashArr hh))
    have RZ := heap_alloc_new W0 (.cells (hashArr Mg.zeroH) 27)
    have R2 := setRow_heap (W0.alloc (.cells (hashArr Mg.zeroH) 27)).drew W0.heap.size (hashArr Mg.zeroH) (hashArr hh) _ _ RZ
    have LT := rc_block_lt_cell k3
    generalize (W0.alloc (.cells (hashArr Mg.zeroH) 27)).drew.setRow W0.heap.size (hashArr hh) = W2 at *
    have L2 : Hid (W2.rangeAt w.heap.size 4 (hcl c.output)) := fun j v hv => (B2.out.cell (p := ⟨w.heap.size, 4 + j, none⟩) LT).trans (L1.out j v hv)
    have G2 : Hid (W2.rangeAt W0.heap.size 0 (hcl hh)) := fun j v hv => by
      rw [Nat.zero_add, cell_of_row _ _ _ _ _ _ R2, hashArr, List.getElem?_toArray]
      exact hv
    have HL := Lib.hid hlen
    have E1x := hash_eql hh c.output hlen OL.out
    have FIN : Hid (st.fits c = (bb && (hh == c.output))) := by
      show _ = _
      unfold Mst.fits
      rw [if_neg hs, ← EBB.out, ← EHH.out]
      cases st.outs c.seen with
      | none => rfl
      | some x => simp only [Option.isSome_some, Option.getD_some, Bool.true_and]; rw [Bool.eq_iff_iff]; simp
    clear BD RZ R2 y1 y3 a0 a1 lk1 lk2 hlen d0 k3 hs v1
    cases bb
    · go_wp2_with fail
      go_ret
      exact ⟨by rw [FIN.out]; rfl, HB0.out.trans (B2.out.mono HB0.out.size)⟩
    · go_wp2_with (first
        | (refine wpList_load_hg (by rfl) (.tmp 5) rfl W0.heap.size 0 rfl HL.out G2.out ?_)
        | (refine wpList_load_hg (by rfl) (.tmp 27) rfl w.heap.size 4 rfl OL.out L2.out ?_))
      go_ret
      exact ⟨by rw [FIN.out]; rfl, HB0.out.trans (B2.out.mono HB0.out.size)⟩
end Go.Proofs.YtpblfpnldbdncaaGreatDoor
