/- Receipts as values and in memory: their cells, their equality. The contract of merge.inOrder, at its four instances. Keys of the map of receipts: a kiosk and a serial. -/
import Derived.Test.YtpblfpnldbdncaaGreatDoorG06
import Derived.Test.YtpblfpnldbdncaaGreatDoorG01
import Derived.Test.YtpblfpnldbdncaaGreatDoorG07
import Derived.Deep.MidRow
import Derived.DeepKeys
import Derived.Great.BuildSlice
import Derived.Test.YtpblfpnldbdncaaGreatDoorG02
import Derived.Test.YtpblfpnldbdncaaGreatDoorShelf
import Derived.Sort.OwnSortedInts
import Derived.DeepKeys4
namespace Go.Proofs.YtpblfpnldbdncaaGreatDoor
open Go.RowKit Go.Sort
open Sg (Rc)
set_option linter.unusedVariables false
abbrev I64 (n : Int) : Prop := -9223372036854775808 ≤ n ∧ n ≤ 9223372036854775807
/-- a receipt that memory can hold -/
structure RcOk (c : Rc) : Prop where
  kiosk : I64 c.kiosk
  serial : I64 c.serial
  seen : I64 c.seen
  r : I64 c.r
  s : I64 c.s
  draw : c.draw.length ≤ 1000
  output : c.output.length = 32
  hash : c.hash.length = 32
  prev : c.prev.length = 32
def hcl (l : List UInt8) : List Value := l.map fun (b : UInt8) => Value.int .u8 (b.toNat : Int)
theorem hcl_length (l : List UInt8) : (hcl l).length = l.length := by simp [hcl]
theorem hashArr_list (l : List UInt8) : (hashArr l).toList = hcl l := by simp [hashArr, hcl]
def rcList (c : Rc) : List Value := [.int .i64 c.kiosk, .int .i64 c.serial, .string (bstr c.draw), .int .i64 c.seen] ++ (hcl c.output ++ (hcl c.hash ++ (hcl c.prev ++ [.int .i64 c.r, .int .i64 c.s])))
def rcArr (c : Rc) : Array Value := (rcList c).toArray
theorem rcList_length {c : Rc} (h : RcOk c) : (rcList c).length = 102 := by
  simp only [rcList, List.length_append, hcl_length, h.output, h.hash, h.prev, List.length_cons, List.length_nil]
theorem rcArr_size {c : Rc} (h : RcOk c) : (rcArr c).size = 102 := by rw [rcArr, List.size_toArray, rcList_length h]
theorem rcArr_list (c : Rc) : (rcArr c).toList = rcList c := by simp [rcArr]
theorem rcList_one (c : Rc) : ∀ v ∈ rcList c, v.oneCell' = true := by
  intro v hv
  simp only [rcList, List.mem_append, hcl, List.mem_map, List.mem_cons, List.not_mem_nil, or_false] at hv
  rcases hv with (rfl | rfl | rfl | rfl) | ⟨_, _, rfl⟩ | ⟨_, _, rfl⟩ | ⟨_, _, rfl⟩ | rfl | rfl <;> rfl
theorem rcArr_one (c : Rc) : (rcArr c).all (·.oneCell') = true := by
  rw [Array.all_eq_true_iff_forall_mem]
  intro v hv
  exact rcList_one c v (by rw [← rcArr_list]; simpa using hv)
theorem rc_info {c : Rc} (h : RcOk c) : (Tryz.prog.info? 31).map (·.size) = some (rcArr c).size := by rw [rcArr_size h]; kernel_rfl
theorem rc_infoL {c : Rc} (h : RcOk c) : (Tryz.prog.info? 31).map (·.size) = some (rcList c).length := by rw [rcList_length h]; kernel_rfl
/-- 'api.Receipt{}' -/
def rc0 : Rc := ⟨0, 0, [], 0, Mg.zeroH, Mg.zeroH, Mg.zeroH, 0, 0⟩
theorem rc_infos : (Tryz.prog.info? 31).map (fun i => (i.zero, i.size, i.bytes)) = some (some (.agg (rcArr rc0)), 102, 152) := by kernel_rfl
theorem rc0_ok : RcOk rc0 := ⟨by decide, by decide, by decide, by decide, by decide, by decide, by decide, by decide, by decide⟩
theorem rc_zero (w : World) : (zeroValue 31).run Tryz.prog w = .ok (.agg (rcArr rc0)) w := by
  obtain ⟨i0, hi, hz0, hz1, hz2⟩ := info_parts rc_infos
  simp [zeroValue, typeInfo, hi, hz0, go_sem]
theorem hash_infos' : (Tryz.prog.info? 27).map (fun i => (i.zero, i.size, i.bytes)) = some (some (.agg (hashArr Mg.zeroH)), 32, 32) := by kernel_rfl
theorem hash_zero (w : World) : (zeroValue 27).run Tryz.prog w = .ok (.agg (hashArr Mg.zeroH)) w := by
  obtain ⟨i0, hi, hz0, hz1, hz2⟩ := info_parts hash_infos'
  simp [zeroValue, typeInfo, hi, hz0, go_sem]
theorem zeroH_length : Mg.zeroH.length = 32 := by decide
/-- a receipt's cells lie at a place of a block -/
def RcAt (w : World) (b o : Nat) (c : Rc) : Prop := w.rangeAt b o (rcList c)
theorem RcAt.of_row {w : World} {b : Nat} {c : Rc} {t : TypeId} {fr : Nat × Nat} (h : w.heap[b]? = some (.cells (rcArr c) t fr)) : RcAt w b 0 c := by
  intro j v hv
  rw [Nat.zero_add, cell_of_row _ _ _ _ _ _ h, rcArr, List.getElem?_toArray]
  exact hv
theorem RcAt.below {w w' : World} {b o : Nat} {c : Rc} (h : RcAt w b o c) (hl : b < w.heap.size) (hb : Below w.heap.size w w') : RcAt w' b o c := by
  intro j v hv
  exact (hb.cell (p := ⟨b, o + j, none⟩) hl).trans (h j v hv)
section
variable {w : World} {b o : Nat} {c : Rc} (h : RcAt w b o c) (hc : RcOk c)
include h
theorem RcAt.kiosk : w.cell? ⟨b, o, none⟩ = some (.int .i64 c.kiosk) := h 0 _ rfl
theorem RcAt.serial : w.cell? ⟨b, o + 1, none⟩ = some (.int .i64 c.serial) := h 1 _ rfl
theorem RcAt.draw : w.cell? ⟨b, o + 2, none⟩ = some (.string (bstr c.draw)) := h 2 _ rfl
theorem RcAt.seen : w.cell? ⟨b, o + 3, none⟩ = some (.int .i64 c.seen) := h 3 _ rfl
include hc
omit hc in
theorem RcAt.output : w.rangeAt b (o + 4) (hcl c.output) := by
  intro j v hv
  have := h (4 + j) v (by
    unfold rcList
    rw [List.getElem?_append_right (by simp), List.getElem?_append_left (by rw [show 4 + j - [Value.int .i64 c.kiosk, .int .i64 c.serial, .string (bstr c.draw), .int .i64 c.seen].length = j by simp]; exact (List.getElem?_eq_some_iff.1 hv).1)]
    rw [show 4 + j - [Value.int .i64 c.kiosk, .int .i64 c.serial, .string (bstr c.draw), .int .i64 c.seen].length = j by simp]
    exact hv)
  rw [Nat.add_assoc]; exact this
theorem RcAt.hash : w.rangeAt b (o + 36) (hcl c.hash) := by
  intro j v hv
  have e1 : 36 + j - [Value.int .i64 c.kiosk, .int .i64 c.serial, .string (bstr c.draw), .int .i64 c.seen].length = 32 + j := by simp; omega
  have e2 : 32 + j - (hcl c.output).length = j := by rw [hcl_length, hc.output]; omega
  have := h (36 + j) v (by
    unfold rcList
    rw [List.getElem?_append_right (by simp; omega), e1, List.getElem?_append_right (by rw [hcl_length, hc.output]; omega), e2, List.getElem?_append_left ((List.getElem?_eq_some_iff.1 hv).1)]
    exact hv)
  rw [Nat.add_assoc]; exact this
theorem RcAt.prev : w.rangeAt b (o + 68) (hcl c.prev) := by
  intro j v hv
  have e1 : 68 + j - [Value.int .i64 c.kiosk, .int .i64 c.serial, .string (bstr c.draw), .int .i64 c.seen].length = 64 + j := by simp; omega
  have e2 : 64 + j - (hcl c.output).length = 32 + j := by rw [hcl_length, hc.output]; omega
  have e3 : 32 + j - (hcl c.hash).length = j := by rw [hcl_length, hc.hash]; omega
  have := h (68 + j) v (by
    unfold rcList
    rw [List.getElem?_append_right (by simp; omega), e1, List.getElem?_append_right (by rw [hcl_length, hc.output]; omega), e2, List.getElem?_append_right (by rw [hcl_length, hc.hash]; omega), e3, List.getElem?_append_left ((List.getElem?_eq_some_iff.1 hv).1)]
    exact hv)
  rw [Nat.add_assoc]; exact this
theorem RcAt.sig : w.cell? ⟨b, o + 100, none⟩ = some (.int .i64 c.r) ∧ w.cell? ⟨b, o + 101, none⟩ = some (.int .i64 c.s) := by
  have e : ∀ j, (rcList c)[100 + j]? = [Value.int .i64 c.r, .int .i64 c.s][j]? := by
    intro j
    have e1 : 100 + j - [Value.int .i64 c.kiosk, .int .i64 c.serial, .string (bstr c.draw), .int .i64 c.seen].length = 96 + j := by simp; omega
    have e2 : 96 + j - (hcl c.output).length = 64 + j := by rw [hcl_length, hc.output]; omega
    have e3 : 64 + j - (hcl c.hash).length = 32 + j := by rw [hcl_length, hc.hash]; omega
    have e4 : 32 + j - (hcl c.prev).length = j := by rw [hcl_length, hc.prev]; omega
    unfold rcList
    rw [List.getElem?_append_right (by simp; omega), e1, List.getElem?_append_right (by rw [hcl_length, hc.output]; omega), e2, List.getElem?_append_right (by rw [hcl_length, hc.hash]; omega), e3, List.getElem?_append_right (by rw [hcl_length, hc.prev]; omega), e4]
  exact ⟨h 100 _ (by rw [e 0]; rfl), h 101 _ (by rw [e 1]; rfl)⟩
end
/-- loads -/
theorem load_hash_at {w : World} {b o : Nat} {l : List UInt8} (hl : l.length = 32) (h : w.rangeAt b o (hcl l)) : (loadVar 27 ⟨b, o, none⟩).run Tryz.prog w = .ok (.agg (hashArr l)) w :=
  run_loadVar_mid w b o 27 (hcl l) _ h Tryz.underlying27 rfl (by rw [hcl_length, hl]; kernel_rfl)
theorem load_rc_at {w : World} {b o : Nat} {c : Rc} (hc : RcOk c) (h : RcAt w b o c) : (loadVar 31 ⟨b, o, none⟩).run Tryz.prog w = .ok (.agg (rcArr c)) w :=
  run_loadVar_mid w b o 31 (rcList c) _ h Tryz.underlying31 rfl (rc_infoL hc)
theorem range_regrown {w : World} {b o : Nat} {l : List Value} (h : w.rangeAt b o l) (hb : b < w.heap.size) : ∀ w', (∃ p : Regrown, w' = grow (redrawn w p.d) p.os) → w'.rangeAt b o l := by
  rintro w' ⟨p, rfl⟩ j v hv
  exact ((below_regrown w p.d p.os).cell (p := ⟨b, o + j, none⟩) hb).trans (h j v hv)
theorem load_hash_re {w : World} {b o : Nat} {l : List UInt8} (hl : l.length = 32) (h : w.rangeAt b o (hcl l)) (hb : b < w.heap.size) : ∀ w', (∃ p : Regrown, w' = grow (redrawn w p.d) p.os) → (loadVar 27 ⟨b, o, none⟩).run Tryz.prog w' = .ok (.agg (hashArr l)) w' :=
  fun w' hw' => load_hash_at hl (range_regrown h hb w' hw')
theorem load_rc_re {w : World} {b o : Nat} {c : Rc} (hc : RcOk c) (h : RcAt w b o c) (hb : b < w.heap.size) : ∀ w', (∃ p : Regrown, w' = grow (redrawn w p.d) p.os) → (loadVar 31 ⟨b, o, none⟩).run Tryz.prog w' = .ok (.agg (rcArr c)) w' :=
  fun w' hw' => load_rc_at hc (range_regrown h hb w' hw')
theorem load_sig_at {w : World} {b o : Nat} {x y : Int} (h0 : w.cell? ⟨b, o, none⟩ = some (.int .i64 x)) (h1 : w.cell? ⟨b, o + 1, none⟩ = some (.int .i64 y)) : (loadVar 29 ⟨b, o, none⟩).run Tryz.prog w = .ok (.agg #[.int .i64 x, .int .i64 y]) w :=
  run_loadVar_mid w b o 29 [.int .i64 x, .int .i64 y] _ (fun j v hv => by
    match j, hv with
    | 0, hv => injection hv with hv; subst hv; exact h0
    | 1, hv => injection hv with hv; subst hv; exact h1
    | j + 2, hv => simp at hv) Tryz.underlying29 rfl (by kernel_rfl)
theorem load_sig_re {w : World} {b o : Nat} {x y : Int} (h0 : w.cell? ⟨b, o, none⟩ = some (.int .i64 x)) (h1 : w.cell? ⟨b, o + 1, none⟩ = some (.int .i64 y)) (hb : b < w.heap.size) : ∀ w', (∃ p : Regrown, w' = grow (redrawn w p.d) p.os) → (loadVar 29 ⟨b, o, none⟩).run Tryz.prog w' = .ok (.agg #[.int .i64 x, .int .i64 y]) w' := by
  rintro w' ⟨p, rfl⟩
  exact load_sig_at (((below_regrown w p.d p.os).cell (p := ⟨b, o, none⟩) hb).trans h0) (((below_regrown w p.d p.os).cell (p := ⟨b, o + 1, none⟩) hb).trans h1)
/-! equality -/
theorem mapM_some {α β : Type} (f : α → Option β) (g : α → β) : ∀ l : List α, (∀ x ∈ l, f x = some (g x)) → l.mapM f = some (l.map g)
  | [], _ => rfl
  | a :: l, h => by
    rw [List.mapM_cons, h a (by simp), mapM_some f g l (fun x hx => h x (by simp [hx]))]
    rfl
def hlits (l : List UInt8) : List Lit := l.map fun b => Lit.int .u8 (b.toNat : Int)
theorem byte_wf (b : UInt8) : (Lit.int .u8 (b.toNat : Int)).wf = true := by
  have := UInt8.toNat_lt b
  simp [Lit.wf, IntKind.min, IntKind.max, IntKind.signed, IntKind.bits]; omega
theorem int_wf {n : Int} (h : I64 n) : (Lit.int .i64 n).wf = true := by
  simp [Lit.wf, IntKind.min, IntKind.max, IntKind.signed, IntKind.bits]; omega
theorem cells_hash : Tryz.prog.cellsOf 27 = 32 := by kernel_rfl
theorem cells_u8 : Tryz.prog.cellsOf 5 = 1 := by kernel_rfl
theorem cells_int : Tryz.prog.cellsOf 3 = 1 := by kernel_rfl
theorem cells_str : Tryz.prog.cellsOf 9 = 1 := by kernel_rfl
theorem cells_sig : Tryz.prog.cellsOf 29 = 2 := by kernel_rfl
theorem cells_rc : Tryz.prog.cellsOf 31 = 102 := by kernel_rfl
theorem lits_int (d : Nat) {n : Int} (h : I64 n) : Tryz.prog.keyLits (d + 1) 3 [.int .i64 n] = some [.int .i64 n] := by
  unfold Program.keyLits
  rw [Tryz.underlying3]
  simp [int_wf h]
theorem lits_u8 (d : Nat) (b : UInt8) : Tryz.prog.keyLits (d + 1) 5 [.int .u8 (b.toNat : Int)] = some [.int .u8 (b.toNat : Int)] := by
  unfold Program.keyLits
  rw [Tryz.underlying5]
  simp [byte_wf b]
theorem lits_str (d : Nat) (s : ByteArray) (h : s.size ≤ maxLen) : Tryz.prog.keyLits (d + 1) 9 [.string s] = some [.string s.data.toList] := by
  unfold Program.keyLits
  rw [Tryz.underlying9]
  simp [h]
theorem flatten_single {α β : Type} (f : α → β) (l : List α) : (l.map fun i => [f i]).flatten = l.map f := by
  induction l with
  | nil => rfl
  | cons a l ih => simp only [List.map_cons, List.flatten_cons, ih]; rfl
theorem lits_hash (d : Nat) (l : List UInt8) (hl : l.length = 32) : Tryz.prog.keyLits (d + 2) 27 (hcl l) = some (hlits l) := by
  unfold Program.keyLits
  rw [Tryz.underlying27]
  simp only [cells_hash, hcl_length, hl, if_true, cells_u8]
  rw [mapM_some _ (fun i => [Lit.int .u8 ((l.getD i 0).toNat : Int)]) _ (fun i hi => ?_)]
  · simp only [Option.map_some, Option.some.injEq]
    rw [flatten_single (fun i => Lit.int IntKind.u8 ((l.getD i 0).toNat : Int))]
    apply List.ext_getElem?
    intro i
    rw [hlits, List.getElem?_map, List.getElem?_map]
    by_cases hi : i < 32
    · rw [List.getElem?_range hi, List.getElem?_eq_getElem (show i < l.length by omega)]
      simp only [Option.map_some, List.getD_eq_getElem?_getD, List.getElem?_eq_getElem (show i < l.length by omega), Option.getD_some]
    · rw [List.getElem?_eq_none (by simp; omega), List.getElem?_eq_none (by omega)]
      rfl
  · have hi' : i < 32 := by simpa using hi
    rw [Nat.mul_one]
    have e : ((hcl l).drop i).take 1 = [.int .u8 ((l.getD i 0).toNat : Int)] := by
      rw [List.take_one, List.head?_drop, hcl, List.getElem?_map, List.getD_eq_getElem?_getD, List.getElem?_eq_getElem (show i < l.length by omega)]
      rfl
    rw [e]
    exact lits_u8 d _
def rcLits (c : Rc) : List Lit := [.int .i64 c.kiosk] ++ ([.int .i64 c.serial] ++ ([.string c.draw] ++ ([.int .i64 c.seen] ++ (hlits c.output ++ (hlits c.hash ++ (hlits c.prev ++ [.int .i64 c.r, .int .i64 c.s]))))))
theorem lits_sig (d : Nat) {x y : Int} (hx : I64 x) (hy : I64 y) : Tryz.prog.keyLits (d + 2) 29 [.int .i64 x, .int .i64 y] = some [.int .i64 x, .int .i64 y] := by
  unfold Program.keyLits
  rw [Tryz.underlying29]
  simp [cells_sig, cells_int, lits_int d hx, lits_int d hy]
theorem rc_drop4 {c : Rc} (hc : RcOk c) : ((rcList c).drop 4).take 32 = hcl c.output ∧ ((rcList c).drop 36).take 32 = hcl c.hash ∧ ((rcList c).drop 68).take 32 = hcl c.prev ∧ ((rcList c).drop 100).take 2 = [.int .i64 c.r, .int .i64 c.s] := by
  have l1 : (hcl c.output).length = 32 := by rw [hcl_length, hc.output]
  have l2 : (hcl c.hash).length = 32 := by rw [hcl_length, hc.hash]
  have l3 : (hcl c.prev).length = 32 := by rw [hcl_length, hc.prev]
  have e1 : (rcList c).drop 4 = hcl c.output ++ (hcl c.hash ++ (hcl c.prev ++ [.int .i64 c.r, .int .i64 c.s])) := rfl
  have e2 : (rcList c).drop 36 = hcl c.hash ++ (hcl c.prev ++ [.int .i64 c.r, .int .i64 c.s]) := by
    rw [show 36 = 4 + 32 from rfl, ← List.drop_drop, e1, List.drop_append_of_le_length (by omega), List.drop_of_length_le (by omega), List.nil_append]
  have e3 : (rcList c).drop 68 = hcl c.prev ++ [.int .i64 c.r, .int .i64 c.s] := by
    rw [show 68 = 36 + 32 from rfl, ← List.drop_drop, e2, List.drop_append_of_le_length (by omega), List.drop_of_length_le (by omega), List.nil_append]
  have e4 : (rcList c).drop 100 = [.int .i64 c.r, .int .i64 c.s] := by
    rw [show 100 = 68 + 32 from rfl, ← List.drop_drop, e3, List.drop_append_of_le_length (by omega), List.drop_of_length_le (by omega), List.nil_append]
  rw [e1, e2, e3, e4]
  refine ⟨?_, ?_, ?_, rfl⟩
  · rw [List.take_append_of_le_length (by omega), List.take_of_length_le (by omega)]
  · rw [List.take_append_of_le_length (by omega), List.take_of_length_le (by omega)]
  · rw [List.take_append_of_le_length (by omega), List.take_of_length_le (by omega)]
theorem draw_max {c : Rc} (hc : RcOk c) : (bstr c.draw).size ≤ maxLen := by rw [bstr_size]; have := hc.draw; unfold maxLen; omega
theorem lits_rc (d : Nat) {c : Rc} (hc : RcOk c) : Tryz.prog.keyLits (d + 3) 31 (rcList c) = some (rcLits c) := by
  obtain ⟨g1, g2, g3, g4⟩ := rc_drop4 hc
  have f0 : ((rcList c).drop 0).take 1 = [.int .i64 c.kiosk] := rfl
  have f1 : ((rcList c).drop 1).take 1 = [.int .i64 c.serial] := rfl
  have f2 : ((rcList c).drop 2).take 1 = [.string (bstr c.draw)] := rfl
  have f3 : ((rcList c).drop 3).take 1 = [.int .i64 c.seen] := rfl
  have e2 := lits_str (d + 1) (bstr c.draw) (draw_max hc)
  have e2' : (bstr c.draw).data.toList = c.draw := rfl
  rw [e2'] at e2
  have hl := rcList_length hc
  unfold Program.keyLits
  rw [Tryz.underlying31]
  generalize rcList c = L at *
  have hn : (#[({ name := "Kiosk", type := 3, offset := 0, embedded := false, tag := "", pkgPath := "", byteOffset := 0 } : Field), { name := "Serial", type := 3, offset := 1, embedded := false, tag := "", pkgPath := "", byteOffset := 8 }, { name := "Draw", type := 9, offset := 2, embedded := false, tag := "", pkgPath := "", byteOffset := 16 }, { name := "Seen", type := 3, offset := 3, embedded := false, tag := "", pkgPath := "", byteOffset := 32 }, { name := "Output", type := 27, offset := 4, embedded := false, tag := "", pkgPath := "", byteOffset := 40 }, { name := "Hash", type := 27, offset := 36, embedded := false, tag := "", pkgPath := "", byteOffset := 72 }, { name := "Prev", type := 27, offset := 68, embedded := false, tag := "", pkgPath := "", byteOffset := 104 }, { name := "Sig", type := 29, offset := 100, embedded := false, tag := "", pkgPath := "", byteOffset := 136 }] : Array Field).all (·.name != "_") = true := by decide +kernel
  simp only [cells_rc, hl, hn, and_self, if_true, List.mapM_cons, List.mapM_nil, cells_int, cells_str, cells_hash, cells_sig, f0, f1, f2, f3, g1, g2, g3, g4, lits_int _ hc.kiosk, lits_int _ hc.serial, lits_int _ hc.seen, e2, lits_hash d _ hc.output, lits_hash d _ hc.hash, lits_hash d _ hc.prev, lits_sig d hc.r hc.s]
  simp [rcLits]
theorem hlits_inj {a b : List UInt8} (h : hlits a = hlits b) : a = b := by
  unfold hlits at h
  refine (List.map_inj_right ?_).1 h
  intro x y e
  injection e with _ e
  exact UInt8.toNat_inj.1 (by omega)
theorem rcLits_inj {c e : Rc} (hc : RcOk c) (he : RcOk e) (h : rcLits c = rcLits e) : c = e := by
  unfold rcLits at h
  have hl : ∀ {a b : List UInt8}, a.length = 32 → b.length = 32 → (hlits a).length = (hlits b).length := fun h1 h2 => by simp [hlits, h1, h2]
  obtain ⟨h1, h⟩ := List.append_inj h rfl
  obtain ⟨h2, h⟩ := List.append_inj h rfl
  obtain ⟨h3, h⟩ := List.append_inj h rfl
  obtain ⟨h4, h⟩ := List.append_inj h rfl
  obtain ⟨h5, h⟩ := List.append_inj h (hl hc.output he.output)
  obtain ⟨h6, h⟩ := List.append_inj h (hl hc.hash he.hash)
  obtain ⟨h7, h⟩ := List.append_inj h (hl hc.prev he.prev)
  have a5 := hlits_inj h5
  have a6 := hlits_inj h6
  have a7 := hlits_inj h7
  simp only [List.cons.injEq, Lit.int.injEq, Lit.string.injEq, true_and, and_true] at h1 h2 h3 h4 h
  cases c; cases e
  simp only at h1 h2 h3 h4 h a5 a6 a7
  simp only [Rc.mk.injEq]
  exact ⟨h1, h2, h3, h4, a5, a6, a7, h.1, h.2⟩
theorem rc_formed {c : Rc} (hc : RcOk c) : (Value.agg (rcArr c)).formed Tryz.prog 31 = true := by
  simp only [Value.formed, Tryz.underlying31, rcArr_size hc, cells_rc, beq_self_eq_true]
theorem rc_equal {c e : Rc} (hc : RcOk c) (he : RcOk e) (w : World) : (Op.equalIn 10000 31 (.agg (rcArr c)) (.agg (rcArr e))).run Tryz.prog w = .ok (decide (c = e)) w := by
  obtain ⟨r, hr, hiff⟩ := run_equalIn_deep 9990 10 31 (P := Tryz.prog) (by kernel_rfl) w 3 3 _ _ (rcLits c) (rcLits e) (rc_formed hc) (rc_formed he) (by rw [show (Value.agg (rcArr c)).cells.toList = rcList c from rcArr_list c]; exact lits_rc 0 hc) (by rw [show (Value.agg (rcArr e)).cells.toList = rcList e from rcArr_list e]; exact lits_rc 0 he)
  have e1 : (9990 + 10 : Nat) = 10000 := by omega
  rw [e1] at hr
  have e2 : r = decide (c = e) := by
    rw [Bool.eq_iff_iff, hiff]
    simp only [decide_eq_true_eq]
    exact ⟨rcLits_inj hc he, fun h => by rw [h]⟩
  rw [hr, e2]
theorem rc_eql {c e : Rc} (hc : RcOk c) (he : RcOk e) (w : World) : (binOp .eql 31 (.agg (rcArr c)) (.agg (rcArr e))).run Tryz.prog w = .ok (.bool (decide (c = e))) w := by
  rw [run_eql_struct, rc_equal hc he]; rfl
theorem rc_neq {c e : Rc} (hc : RcOk c) (he : RcOk e) (w : World) : (binOp .neq 31 (.agg (rcArr c)) (.agg (rcArr e))).run Tryz.prog w = .ok (.bool (!decide (c = e))) w := by
  rw [run_neq_struct, rc_equal hc he]; rfl
/-! operations -/
/-- a new variable for a receipt: a rule of the walk -/
theorem wp_alloc_rc {d : Option Tmp} {ty : TypeId} {pos : String} {after : Array Edge} {gd : Option (Nat × Bool)} {a : Act} {w : World} {K : Act → World → Prop} {Q : Exit → Act → World → Prop} :
    Oper.wp Tryz.prog ⟨d, .alloc 31, ty, pos, after, gd⟩ a w K Q = K (a.put d (.pointer (some ⟨w.heap.size, 0, none⟩))) (w.alloc (.cells (rcArr rc0) 31)) := by
  obtain ⟨i0, hi, hz0, hz1, hz2⟩ := info_parts rc_infos
  unfold Oper.wp execOp
  simp [Instr.alloc, newVar, zeroValue, typeInfo, hi, hz0, go_sem]
  try rfl
theorem wp_alloc_h {d : Option Tmp} {ty : TypeId} {pos : String} {after : Array Edge} {gd : Option (Nat × Bool)} {a : Act} {w : World} {K : Act → World → Prop} {Q : Exit → Act → World → Prop} :
    Oper.wp Tryz.prog ⟨d, .alloc 27, ty, pos, after, gd⟩ a w K Q = K (a.put d (.pointer (some ⟨w.heap.size, 0, none⟩))) (w.alloc (.cells (hashArr Mg.zeroH) 27)) := by
  obtain ⟨i0, hi, hz0, hz1, hz2⟩ := info_parts hash_infos'
  unfold Oper.wp execOp
  simp [Instr.alloc, newVar, zeroValue, typeInfo, hi, hz0, go_sem]
/-- 'api.Hash{}': a rule of the walk -/
theorem wp_build_h0 {d : Option Tmp} {ty : TypeId} {pos : String} {after : Array Edge} {gd : Option (Nat × Bool)} {a : Act} {w : World} {K : Act → World → Prop} {Q : Exit → Act → World → Prop} :
    Oper.wp Tryz.prog ⟨d, .build 27 #[], ty, pos, after, gd⟩ a w K Q = K (a.put d (.agg (hashArr Mg.zeroH))) w := by
  obtain ⟨i0, hi, hz0, hz1, hz2⟩ := info_parts hash_infos'
  unfold Oper.wp execOp
  simp [Instr.build, Instr.fill, zeroValue, typeInfo, hi, hz0, run_underlying Tryz.underlying27, Tryz.sizeOf5, Oper.upon, Result.andThen, Value.cells]
end Go.Proofs.YtpblfpnldbdncaaGreatDoor
namespace Go.Proofs.YtpblfpnldbdncaaGreatDoor
open Go.RowKit Go.Sort Go.Maps
set_option linter.unusedVariables false
def intK : Rk Tryz.prog Int where
  ty := 3
  sl := 69
  size := 1
  bytes := 8
  zero := .int .i64 0
  enc x := [.int .i64 x]
  ok := I64
  len _ := rfl
  one u hu := by
    simp only [List.mem_cons, List.not_mem_nil, or_false] at hu
    subst hu
    rfl
  und := Tryz.underlying69
  info := by kernel_rfl
  zsize := rfl
  pos := Nat.one_pos
  small := by decide
theorem intK_cells (xs : List Int) : intK.cells xs = xs.map (Value.int .i64) := by
  unfold Rk.cells
  induction xs with
  | nil => rfl
  | cons x xs ih => rw [List.flatMap_cons, ih]; rfl
theorem wf_int {n : Int} (h : (Lit.int .i64 n).wf = true) : I64 n := by
  simpa [Lit.wf, IntKind.min, IntKind.max, IntKind.signed, IntKind.bits] using h
/-- keys that are ints -/
def kInt : Kk Tryz.prog 3 Int where
  kv := .int .i64
  kl := Lit.int .i64
  ok := I64
  keyed := int_keyed Tryz.underlying3
  law h := keyOf_int_mk Tryz.underlying3 (int_wf h)
  back h := by
    obtain ⟨x, rfl, rfl, hw⟩ := Maps.keyOf_int_inv Tryz.underlying3 h
    exact ⟨x, wf_int hw, rfl, rfl⟩
  inj _ _ h := by injection h
/-- the keys of a map, in order -/
def KeysIs (f : Int → Option Value) (ks : List Int) : Prop := ks.Pairwise (· < ·) ∧ ∀ k, k ∈ ks ↔ I64 k ∧ (f k).isSome = true
theorem keys_unique {f : Int → Option Value} : ∀ {a b : List Int}, KeysIs f a → KeysIs f b → a = b := by
  have key : ∀ a b : List Int, a.Pairwise (· < ·) → b.Pairwise (· < ·) → (∀ k, k ∈ a ↔ k ∈ b) → a = b := by
    intro a
    induction a with
    | nil =>
      intro b _ _ h
      cases b with
      | nil => rfl
      | cons y b => exact absurd ((h y).2 (by simp)) (by simp)
    | cons x a ih =>
      intro b h1 h2 h
      cases b with
      | nil => exact absurd ((h x).1 (by simp)) (by simp)
      | cons y b =>
        obtain ⟨a1, a2⟩ := List.pairwise_cons.1 h1
        obtain ⟨b1, b2⟩ := List.pairwise_cons.1 h2
        have e : x = y := by
          rcases List.mem_cons.1 ((h x).1 (by simp)) with e | e
          · exact e
          · rcases List.mem_cons.1 ((h y).2 (by simp)) with e' | e'
            · exact e'.symm
            · have := b1 x e
              have := a1 y e'
              omega
        subst e
        congr 1
        refine ih b a2 b2 fun k => ?_
        constructor
        · intro hk
          rcases List.mem_cons.1 ((h k).1 (by simp [hk])) with rfl | h3
          · have := a1 _ hk
            omega
          · exact h3
        · intro hk
          rcases List.mem_cons.1 ((h k).2 (by simp [hk])) with rfl | h3
          · have := b1 _ hk
            omega
          · exact h3
  exact fun {a b} ha hb => key a b ha.1 hb.1 fun k => by rw [ha.2 k, hb.2 k]
theorem sorted_keys {f : Int → Option Value} {ks : List Int} (h1 : ks.Nodup) (h2 : ∀ k, k ∈ ks ↔ I64 k ∧ (f k).isSome = true) : KeysIs f (ks.mergeSort fun x y => decide (x ≤ y)) := by
  refine ⟨?_, fun k => by rw [List.mem_mergeSort]; exact h2 k⟩
  have hs : (ks.mergeSort fun x y => decide (x ≤ y)).Pairwise (fun a b => decide (a ≤ b) = true) := List.pairwise_mergeSort (fun a b c h1 h2 => by simp at *; omega) (fun a b => by simp; omega) ks
  have hn : (ks.mergeSort fun x y => decide (x ≤ y)).Nodup := (List.mergeSort_perm ks _).nodup_iff.2 h1
  refine (hs.and hn).imp ?_
  rintro a b ⟨h3, h4⟩
  simp at h3
  omega
theorem own_ne_iter {α κ : Type} {R : Rk Tryz.prog α} {k : TypeId} {K : Kk Tryz.prog k κ} {w : World} {base r n c : Nat} {v mv : Value} {xs : List α} {f : κ → Option Value} {left : κ → Prop} (h : OwnsR R w base v xs) (hR : MapR K w mv r n f left c) : v.ownBlock ≠ some r := by
  intro e
  obtain ⟨cs, t, fr, h1⟩ := h.cells_at r e
  obtain ⟨m, s, seen, c, h2⟩ := hR.iter
  rw [h1] at h2
  cases h2
theorem own_ne_map {α κ : Type} {R : Rk Tryz.prog α} {k : TypeId} {K : Kk Tryz.prog k κ} {w : World} {base n : Nat} {v mv : Value} {xs : List α} {f : κ → Option Value} (h : OwnsR R w base v xs) (hM : MapIs K w mv n f) : ∀ b, mapBlk mv = some b → v.ownBlock ≠ some b := by
  intro b hb e
  obtain ⟨cs, t, fr, h1⟩ := h.cells_at b e
  obtain ⟨es, c, h2⟩ := hM.isMap b hb
  rw [h1] at h2
  cases h2
set_option maxHeartbeats 4000000 in
set_option maxRecDepth 100000 in
theorem order_int {w : World} {mv : Value} {n : Nat} {f : Int → Option Value} (h : MapIs kInt w mv n f) (hn : n ≤ 10000) :
    Calls Tryz.prog 44 #[mv] w fun e w' => ∃ v ks, e = .returned v ∧ KeysIs f ks ∧ OwnsR intK w' w.heap.size v ks ∧ ks.length ≤ n ∧ Below w.heap.size w w' := by
  have H := Lib.hid h
  obtain ⟨N, hN, hlen⟩ := h.len Tryz.underlying77
  have HNN := Lib.hid hN
  obtain ⟨i0, hi, hz0, hz1, hz2⟩ := info_parts intK.info
  have HI := Lib.hid hi
  have HZ0 := Lib.hid hz0
  have HZ1 := Lib.hid hz1
  have HZ2 := Lib.hid hz2
  have N1 : N ≤ 10000 := by omega
  have HB0 : Hid (Below w.heap.size w w) := Below.refl _ _
  clear h hN hi hz0 hz1 hz2
  go_enter Tryz.func44, Tryz.ntmps44
  go_wp2_with (first
    | (at_make
       refine wpList_make_own _ rfl _ _ 69 rfl w.heap.size 3 i0 (.int .i64 0) 1 Tryz.underlying69 HI.out HZ0.out HZ1.out .i64 .i64 _ N rfl rfl rfl (by rw [HZ2.out]; show 8 * N ≤ _; omega) (by unfold maxLen; omega) (Nat.le_refl _) ?_
       intro w1 hown1 hg1
       have HO1 : Hid (OwnsR intK w1 w.heap.size (.slice (some ⟨w.heap.size, 0, none⟩) 0 N) []) := ⟨by simp, hown1⟩
       have BW1 := Lib.hid ((Below.refl w.heap.size w).grown hg1 (Nat.le_refl _) (fun b e => by cases e))
       have HM1 := Lib.hid (H.out.kept hg1 (by simp))
       clear hown1 hg1 hlen)
    | (at_range
       refine wpList_rangeV rfl (.tmp 8) rfl Tryz.underlying77 rfl HM1.out ?_
       intro w2 cnt hR hg2 hs2 hcn))
  have HO2 := Lib.hid (HO1.out.grown hg2 (fun b _ e => by cases e))
  have BW2 := Lib.hid (BW1.out.grown hg2 BW1.out.size (fun b e => by cases e))
  have HR := Lib.hid hR
  obtain ⟨r, hr⟩ : ∃ r, w1.heap.size = r := ⟨_, rfl⟩
  have hbr : w.heap.size ≤ r := by rw [← hr]; exact BW1.out.size
  have hbr2 : w.heap.size < r := by rw [← hr]; exact (HO1.out.base_le _ rfl).2
  rw [hr] at HR ⊢
  clear hR hg2 hs2 hr
  go_frame
  go_loopw [3, 4] (fun v kv wr => ∃ ks left c, OwnsR intK wr w.heap.size v ks ∧ MapR kInt wr mv r n f left c ∧ ks.Nodup ∧ (∀ k, k ∈ ks ↔ I64 k ∧ (f k).isSome = true ∧ ¬ left k) ∧ (∀ k, I64 k → left k → (f k).isSome = true) ∧ Below w.heap.size w wr ∧ ks.length + c ≤ n) (fun _ _ wr => leftAt wr mv r)
  case atStart =>
    refine ⟨[], fun x => (f x).isSome = true, cnt, HO2.out, HR.out, List.nodup_nil, fun k => ?_, fun k _ h => h, BW2.out, ?_⟩
    · constructor
      · intro h; cases h
      · rintro ⟨_, h1, h2⟩; exact absurd h1 h2
    · simp; omega
  case round =>
    obtain ⟨ks, left, c, hO, hR, hnd, hmem, hlf, hb, hlen⟩ := hrel
    have hne := own_ne_iter hO hR
    have hnm := own_ne_map hO hR.map
    have HN := Lib.hid hnd
    have HM := Lib.hid hmem
    have HL := Lib.hid hlf
    have HE := Lib.hid hne
    have HNM := Lib.hid hnm
    have HB := Lib.hid hb
    have HO := Lib.hid hO
    have HC := Lib.hid hlen
    clear hnd hmem hlf hne hnm hb hlen
    rcases hR.next with ⟨hdone, hrun⟩ | ⟨x, u, w', c', hx, hlx, hfx, hrun, hR', hlt, hg', hs', hen⟩
    · have HS : Hid (KeysIs f (ks.mergeSort fun x y => decide (x ≤ y))) := sorted_keys HN.out fun k => by
        rw [HM.out k]
        constructor
        · rintro ⟨h1, h2, _⟩; exact ⟨h1, h2⟩
        · rintro ⟨h1, h2⟩; exact ⟨h1, h2, hdone k h1⟩
      have HLL : Hid ((ks.mergeSort fun x y => decide (x ≤ y)).length = ks.length) := List.length_mergeSort _
      have HKL := Lib.hid (show ks.length ≤ n by have := HC.out; omega)
      clear hdone hR
      rcases hO.2.2 with ⟨rfl, h0⟩ | ⟨g, cap, cur, rfl, hbg, hgg, h3, h4, h5, h6⟩
      · have ek : ks = [] := List.eq_nil_of_length_eq_zero h0
        subst ek
        have CS := Lib.hid (Tryz.slices_Sort_int_none none 0 wr)
        clear hO h0
        go_wp2_with fail
        refine CS.out.mono ?_
        rintro e w3 ⟨rfl, rfl⟩
        go_wp2_with fail
        go_ret
        exact ⟨_, [], rfl, by simpa using HS.out, HO.out, Nat.zero_le _, HB.out⟩
      · rw [intK_cells, show intK.size = 1 from rfl, Nat.mul_one] at h6
        have CS := Lib.hid (Tryz.slices_Sort_int g 0 cap ks wr (holds_of_blockI hgg h6) (Array.getElem?_eq_some_iff.1 hgg).1 (by have := HKL.out; omega))
        obtain ⟨len, hlen⟩ : ∃ len, ks.length = len := ⟨_, rfl⟩
        have OWN : Hid (∀ m os, OwnsR intK (grow (putRow (Value.int .i64) (Sort.ahead wr m) g 0 (ks.mergeSort fun x y => decide (x ≤ y)).toArray) os) w.heap.size (.slice (some ⟨g, 0, none⟩) len cap) (ks.mergeSort fun x y => decide (x ≤ y))) := by
          intro m os
          refine ⟨fun k hk => ?_, ?_⟩
          · rw [List.mem_mergeSort] at hk
            exact hO.1 k hk
          · rw [intK_cells, HLL.out, ← hlen]
            exact ownsRow_sortedI HLL.out hbg hgg h3 h4 h5
        have GB : Hid (∀ m os, Below w.heap.size w (grow (putRow (Value.int .i64) (Sort.ahead wr m) g 0 (ks.mergeSort fun x y => decide (x ≤ y)).toArray) os)) := fun m os =>
          HB.out.grown (grownBy_sortedI _) HB.out.size (fun b e => by injection e with e; subst e; exact hbg)
        have SL : Hid ((ks.mergeSort fun x y => decide (x ≤ y)).length ≤ n) := by show _ ≤ _; rw [HLL.out]; exact HKL.out
        rw [hlen] at CS ⊢
        clear hO hgg h3 h4 h5 h6 hbg hlen
        go_wp2_with fail
        refine CS.out.mono ?_
        rintro e w3 ⟨rfl, m, os, rfl⟩
        have O3 := Lib.hid (OWN.out m os)
        have B3 := Lib.hid (GB.out m os)
        go_wp2_with fail
        go_ret
        exact ⟨_, _, rfl, HS.out, O3.out, SL.out, B3.out⟩
    · have HO' := Lib.hid (HO.out.grown hg' (fun b e e' => HE.out (by rw [e]; exact e'.symm)))
      have HB' := Lib.hid (HB.out.grown hg' HB.out.size (fun b e => by injection e with e; omega))
      have OA := Lib.hid (HO'.out.below ((Below.refl _ _).alloc (Nat.le_refl _) (.cells #[.int .i64 x] 3)))
      have BA := Lib.hid (HB'.out.alloc HB'.out.size (.cells #[.int .i64 x] 3))
      have NA := Lib.hid (heap_alloc_new w' (.cells #[.int .i64 x] 3))
      have RA := Lib.hid (hR'.below ((Below.refl _ _).alloc (Nat.le_refl _) (.cells #[.int .i64 x] 3)))
      have HX : Hid (I64 x) := hx
      have HLX := Lib.hid hlx
      have HFX := Lib.hid (show (f x).isSome = true by rw [hfx]; rfl)
      have KL := Lib.hid (show ks.length ≤ 100000 by have := HC.out; omega)
      have LA := Lib.hid (show leftAt wr mv r = c from hR.left_eq)
      have hen' : (Instr.entry (.pointer (some ⟨r, 0, none⟩))).run Tryz.prog w' = .ok (.tuple #[.int .i64 x, u]) w' := hen
      have hrun' : ∀ ty, (Instr.next (.pointer (some ⟨r, 0, none⟩)) false ty).run Tryz.prog wr = .ok (.tuple #[.bool true, .int .i64 x, u]) w' := hrun
      clear hO hR hx hlx hfx hg' hs' hR' hen hrun
      go_wp2_with (at_builtin; refine wpList_append_r intK rfl (.tmp 14) (.tmp 16) rfl w.heap.size u3 ks x w'.heap.size rfl rfl OA.out HX.out NA.out KL.out BA.out.size ?_; intro v2 w3 hown3 hg3)
      have R3 := RA.out.kept hg3 (fun b hb e => HNM.out b hb e.symm) (fun e => HE.out e.symm)
      refine ⟨⟨ks ++ [x], fun y => left y ∧ y ≠ x, c', hown3, R3, ?_, fun k => ?_, fun k h1 h2 => HL.out k h1 h2.1, BA.out.grown hg3 BA.out.size (fun b e => (OA.out.base_le b e).1), ?_⟩, ?_⟩
      · rw [List.nodup_append]
        refine ⟨HN.out, by simp, fun a ha b hb => ?_⟩
        simp only [List.mem_cons, List.not_mem_nil, or_false] at hb
        subst hb
        rintro rfl
        exact ((HM.out a).1 ha).2.2 HLX.out
      · rw [List.mem_append, HM.out k]
        simp only [List.mem_cons, List.not_mem_nil, or_false]
        constructor
        · rintro (⟨h1, h2, h3⟩ | rfl)
          · exact ⟨h1, h2, fun h => h3 h.1⟩
          · exact ⟨HX.out, HFX.out, fun h => h.2 rfl⟩
        · rintro ⟨h1, h2, h3⟩
          by_cases e : k = x
          · exact .inr e
          · exact .inl ⟨h1, h2, fun h => h3 ⟨h, e⟩⟩
      · rw [List.length_append]; have := HC.out; simp only [List.length_cons, List.length_nil]; omega
      · rw [R3.left_eq, LA.out]; exact hlt
set_option maxHeartbeats 4000000 in
set_option maxRecDepth 100000 in
theorem order_hash {w : World} {mv : Value} {n : Nat} {f : Int → Option Value} (h : MapIs kInt w mv n f) (hn : n ≤ 10000) :
    Calls Tryz.prog 60 #[mv] w fun e w' => ∃ v ks, e = .returned v ∧ KeysIs f ks ∧ OwnsR intK w' w.heap.size v ks ∧ ks.length ≤ n ∧ Below w.heap.size w w' := by
  have H := Lib.hid h
  obtain ⟨N, hN, hlen⟩ := h.len Tryz.underlying78
  have HNN := Lib.hid hN
  obtain ⟨i0, hi, hz0, hz1, hz2⟩ := info_parts intK.info
  have HI := Lib.hid hi
  have HZ0 := Lib.hid hz0
  have HZ1 := Lib.hid hz1
  have HZ2 := Lib.hid hz2
  have N1 : N ≤ 10000 := by omega
  have HB0 : Hid (Below w.heap.size w w) := Below.refl _ _
  clear h hN hi hz0 hz1 hz2
  go_enter Tryz.func60, Tryz.ntmps60
  go_wp2_with (first
    | (at_make
       refine wpList_make_own _ rfl _ _ 69 rfl w.heap.size 3 i0 (.int .i64 0) 1 Tryz.underlying69 HI.out HZ0.out HZ1.out .i64 .i64 _ N rfl rfl rfl (by rw [HZ2.out]; show 8 * N ≤ _; omega) (by unfold maxLen; omega) (Nat.le_refl _) ?_
       intro w1 hown1 hg1
       have HO1 : Hid (OwnsR intK w1 w.heap.size (.slice (some ⟨w.heap.size, 0, none⟩) 0 N) []) := ⟨by simp, hown1⟩
       have BW1 := Lib.hid ((Below.refl w.heap.size w).grown hg1 (Nat.le_refl _) (fun b e => by cases e))
       have HM1 := Lib.hid (H.out.kept hg1 (by simp))
       clear hown1 hg1 hlen)
    | (at_range
       refine wpList_rangeV rfl (.tmp 8) rfl Tryz.underlying78 rfl HM1.out ?_
       intro w2 cnt hR hg2 hs2 hcn))
  have HO2 := Lib.hid (HO1.out.grown hg2 (fun b _ e => by cases e))
  have BW2 := Lib.hid (BW1.out.grown hg2 BW1.out.size (fun b e => by cases e))
  have HR := Lib.hid hR
  obtain ⟨r, hr⟩ : ∃ r, w1.heap.size = r := ⟨_, rfl⟩
  have hbr : w.heap.size ≤ r := by rw [← hr]; exact BW1.out.size
  have hbr2 : w.heap.size < r := by rw [← hr]; exact (HO1.out.base_le _ rfl).2
  rw [hr] at HR ⊢
  clear hR hg2 hs2 hr
  go_frame
  go_loopw [3, 4] (fun v kv wr => ∃ ks left c, OwnsR intK wr w.heap.size v ks ∧ MapR kInt wr mv r n f left c ∧ ks.Nodup ∧ (∀ k, k ∈ ks ↔ I64 k ∧ (f k).isSome = true ∧ ¬ left k) ∧ (∀ k, I64 k → left k → (f k).isSome = true) ∧ Below w.heap.size w wr ∧ ks.length + c ≤ n) (fun _ _ wr => leftAt wr mv r)
  case atStart =>
    refine ⟨[], fun x => (f x).isSome = true, cnt, HO2.out, HR.out, List.nodup_nil, fun k => ?_, fun k _ h => h, BW2.out, ?_⟩
    · constructor
      · intro h; cases h
      · rintro ⟨_, h1, h2⟩; exact absurd h1 h2
    · simp; omega
  case round =>
    obtain ⟨ks, left, c, hO, hR, hnd, hmem, hlf, hb, hlen⟩ := hrel
    have hne := own_ne_iter hO hR
    have hnm := own_ne_map hO hR.map
    have HN := Lib.hid hnd
    have HM := Lib.hid hmem
    have HL := Lib.hid hlf
    have HE := Lib.hid hne
    have HNM := Lib.hid hnm
    have HB := Lib.hid hb
    have HO := Lib.hid hO
    have HC := Lib.hid hlen
    clear hnd hmem hlf hne hnm hb hlen
    rcases hR.next with ⟨hdone, hrun⟩ | ⟨x, u, w', c', hx, hlx, hfx, hrun, hR', hlt, hg', hs', hen⟩
    · have HS : Hid (KeysIs f (ks.mergeSort fun x y => decide (x ≤ y))) := sorted_keys HN.out fun k => by
        rw [HM.out k]
        constructor
        · rintro ⟨h1, h2, _⟩; exact ⟨h1, h2⟩
        · rintro ⟨h1, h2⟩; exact ⟨h1, h2, hdone k h1⟩
      have HLL : Hid ((ks.mergeSort fun x y => decide (x ≤ y)).length = ks.length) := List.length_mergeSort _
      have HKL := Lib.hid (show ks.length ≤ n by have := HC.out; omega)
      clear hdone hR
      rcases hO.2.2 with ⟨rfl, h0⟩ | ⟨g, cap, cur, rfl, hbg, hgg, h3, h4, h5, h6⟩
      · have ek : ks = [] := List.eq_nil_of_length_eq_zero h0
        subst ek
        have CS := Lib.hid (Tryz.slices_Sort_int_none none 0 wr)
        clear hO h0
        go_wp2_with fail
        refine CS.out.mono ?_
        rintro e w3 ⟨rfl, rfl⟩
        go_wp2_with fail
        go_ret
        exact ⟨_, [], rfl, by simpa using HS.out, HO.out, Nat.zero_le _, HB.out⟩
      · rw [intK_cells, show intK.size = 1 from rfl, Nat.mul_one] at h6
        have CS := Lib.hid (Tryz.slices_Sort_int g 0 cap ks wr (holds_of_blockI hgg h6) (Array.getElem?_eq_some_iff.1 hgg).1 (by have := HKL.out; omega))
        obtain ⟨len, hlen⟩ : ∃ len, ks.length = len := ⟨_, rfl⟩
        have OWN : Hid (∀ m os, OwnsR intK (grow (putRow (Value.int .i64) (Sort.ahead wr m) g 0 (ks.mergeSort fun x y => decide (x ≤ y)).toArray) os) w.heap.size (.slice (some ⟨g, 0, none⟩) len cap) (ks.mergeSort fun x y => decide (x ≤ y))) := by
          intro m os
          refine ⟨fun k hk => ?_, ?_⟩
          · rw [List.mem_mergeSort] at hk
            exact hO.1 k hk
          · rw [intK_cells, HLL.out, ← hlen]
            exact ownsRow_sortedI HLL.out hbg hgg h3 h4 h5
        have GB : Hid (∀ m os, Below w.heap.size w (grow (putRow (Value.int .i64) (Sort.ahead wr m) g 0 (ks.mergeSort fun x y => decide (x ≤ y)).toArray) os)) := fun m os =>
          HB.out.grown (grownBy_sortedI _) HB.out.size (fun b e => by injection e with e; subst e; exact hbg)
        have SL : Hid ((ks.mergeSort fun x y => decide (x ≤ y)).length ≤ n) := by show _ ≤ _; rw [HLL.out]; exact HKL.out
        rw [hlen] at CS ⊢
        clear hO hgg h3 h4 h5 h6 hbg hlen
        go_wp2_with fail
        refine CS.out.mono ?_
        rintro e w3 ⟨rfl, m, os, rfl⟩
        have O3 := Lib.hid (OWN.out m os)
        have B3 := Lib.hid (GB.out m os)
        go_wp2_with fail
        go_ret
        exact ⟨_, _, rfl, HS.out, O3.out, SL.out, B3.out⟩
    · have HO' := Lib.hid (HO.out.grown hg' (fun b e e' => HE.out (by rw [e]; exact e'.symm)))
      have HB' := Lib.hid (HB.out.grown hg' HB.out.size (fun b e => by injection e with e; omega))
      have OA := Lib.hid (HO'.out.below ((Below.refl _ _).alloc (Nat.le_refl _) (.cells #[.int .i64 x] 3)))
      have BA := Lib.hid (HB'.out.alloc HB'.out.size (.cells #[.int .i64 x] 3))
      have NA := Lib.hid (heap_alloc_new w' (.cells #[.int .i64 x] 3))
      have RA := Lib.hid (hR'.below ((Below.refl _ _).alloc (Nat.le_refl _) (.cells #[.int .i64 x] 3)))
      have HX : Hid (I64 x) := hx
      have HLX := Lib.hid hlx
      have HFX := Lib.hid (show (f x).isSome = true by rw [hfx]; rfl)
      have KL := Lib.hid (show ks.length ≤ 100000 by have := HC.out; omega)
      have LA := Lib.hid (show leftAt wr mv r = c from hR.left_eq)
      have hen' : (Instr.entry (.pointer (some ⟨r, 0, none⟩))).run Tryz.prog w' = .ok (.tuple #[.int .i64 x, u]) w' := hen
      have hrun' : ∀ ty, (Instr.next (.pointer (some ⟨r, 0, none⟩)) false ty).run Tryz.prog wr = .ok (.tuple #[.bool true, .int .i64 x, u]) w' := hrun
      clear hO hR hx hlx hfx hg' hs' hR' hen hrun
      go_wp2_with (at_builtin; refine wpList_append_r intK rfl (.tmp 14) (.tmp 16) rfl w.heap.size u3 ks x w'.heap.size rfl rfl OA.out HX.out NA.out KL.out BA.out.size ?_; intro v2 w3 hown3 hg3)
      have R3 := RA.out.kept hg3 (fun b hb e => HNM.out b hb e.symm) (fun e => HE.out e.symm)
      refine ⟨⟨ks ++ [x], fun y => left y ∧ y ≠ x, c', hown3, R3, ?_, fun k => ?_, fun k h1 h2 => HL.out k h1 h2.1, BA.out.grown hg3 BA.out.size (fun b e => (OA.out.base_le b e).1), ?_⟩, ?_⟩
      · rw [List.nodup_append]
        refine ⟨HN.out, by simp, fun a ha b hb => ?_⟩
        simp only [List.mem_cons, List.not_mem_nil, or_false] at hb
        subst hb
        rintro rfl
        exact ((HM.out a).1 ha).2.2 HLX.out
      · rw [List.mem_append, HM.out k]
        simp only [List.mem_cons, List.not_mem_nil, or_false]
        constructor
        · rintro (⟨h1, h2, h3⟩ | rfl)
          · exact ⟨h1, h2, fun h => h3 h.1⟩
          · exact ⟨HX.out, HFX.out, fun h => h.2 rfl⟩
        · rintro ⟨h1, h2, h3⟩
          by_cases e : k = x
          · exact .inr e
          · exact .inl ⟨h1, h2, fun h => h3 ⟨h, e⟩⟩
      · rw [List.length_append]; have := HC.out; simp only [List.length_cons, List.length_nil]; omega
      · rw [R3.left_eq, LA.out]; exact hlt
set_option maxHeartbeats 4000000 in
set_option maxRecDepth 100000 in
theorem order_pair {w : World} {mv : Value} {n : Nat} {f : Int → Option Value} (h : MapIs kInt w mv n f) (hn : n ≤ 10000) :
    Calls Tryz.prog 63 #[mv] w fun e w' => ∃ v ks, e = .returned v ∧ KeysIs f ks ∧ OwnsR intK w' w.heap.size v ks ∧ ks.length ≤ n ∧ Below w.heap.size w w' := by
  have H := Lib.hid h
  obtain ⟨N, hN, hlen⟩ := h.len Tryz.underlying80
  have HNN := Lib.hid hN
  obtain ⟨i0, hi, hz0, hz1, hz2⟩ := info_parts intK.info
  have HI := Lib.hid hi
  have HZ0 := Lib.hid hz0
  have HZ1 := Lib.hid hz1
  have HZ2 := Lib.hid hz2
  have N1 : N ≤ 10000 := by omega
  have HB0 : Hid (Below w.heap.size w w) := Below.refl _ _
  clear h hN hi hz0 hz1 hz2
  go_enter Tryz.func63, Tryz.ntmps63
  go_wp2_with (first
    | (at_make
       refine wpList_make_own _ rfl _ _ 69 rfl w.heap.size 3 i0 (.int .i64 0) 1 Tryz.underlying69 HI.out HZ0.out HZ1.out .i64 .i64 _ N rfl rfl rfl (by rw [HZ2.out]; show 8 * N ≤ _; omega) (by unfold maxLen; omega) (Nat.le_refl _) ?_
       intro w1 hown1 hg1
       have HO1 : Hid (OwnsR intK w1 w.heap.size (.slice (some ⟨w.heap.size, 0, none⟩) 0 N) []) := ⟨by simp, hown1⟩
       have BW1 := Lib.hid ((Below.refl w.heap.size w).grown hg1 (Nat.le_refl _) (fun b e => by cases e))
       have HM1 := Lib.hid (H.out.kept hg1 (by simp))
       clear hown1 hg1 hlen)
    | (at_range
       refine wpList_rangeV rfl (.tmp 8) rfl Tryz.underlying80 rfl HM1.out ?_
       intro w2 cnt hR hg2 hs2 hcn))
  have HO2 := Lib.hid (HO1.out.grown hg2 (fun b _ e => by cases e))
  have BW2 := Lib.hid (BW1.out.grown hg2 BW1.out.size (fun b e => by cases e))
  have HR := Lib.hid hR
  obtain ⟨r, hr⟩ : ∃ r, w1.heap.size = r := ⟨_, rfl⟩
  have hbr : w.heap.size ≤ r := by rw [← hr]; exact BW1.out.size
  have hbr2 : w.heap.size < r := by rw [← hr]; exact (HO1.out.base_le _ rfl).2
  rw [hr] at HR ⊢
  clear hR hg2 hs2 hr
  go_frame
  go_loopw [3, 4] (fun v kv wr => ∃ ks left c, OwnsR intK wr w.heap.size v ks ∧ MapR kInt wr mv r n f left c ∧ ks.Nodup ∧ (∀ k, k ∈ ks ↔ I64 k ∧ (f k).isSome = true ∧ ¬ left k) ∧ (∀ k, I64 k → left k → (f k).isSome = true) ∧ Below w.heap.size w wr ∧ ks.length + c ≤ n) (fun _ _ wr => leftAt wr mv r)
  case atStart =>
    refine ⟨[], fun x => (f x).isSome = true, cnt, HO2.out, HR.out, List.nodup_nil, fun k => ?_, fun k _ h => h, BW2.out, ?_⟩
    · constructor
      · intro h; cases h
      · rintro ⟨_, h1, h2⟩; exact absurd h1 h2
    · simp; omega
  case round =>
    obtain ⟨ks, left, c, hO, hR, hnd, hmem, hlf, hb, hlen⟩ := hrel
    have hne := own_ne_iter hO hR
    have hnm := own_ne_map hO hR.map
    have HN := Lib.hid hnd
    have HM := Lib.hid hmem
    have HL := Lib.hid hlf
    have HE := Lib.hid hne
    have HNM := Lib.hid hnm
    have HB := Lib.hid hb
    have HO := Lib.hid hO
    have HC := Lib.hid hlen
    clear hnd hmem hlf hne hnm hb hlen
    rcases hR.next with ⟨hdone, hrun⟩ | ⟨x, u, w', c', hx, hlx, hfx, hrun, hR', hlt, hg', hs', hen⟩
    · have HS : Hid (KeysIs f (ks.mergeSort fun x y => decide (x ≤ y))) := sorted_keys HN.out fun k => by
        rw [HM.out k]
        constructor
        · rintro ⟨h1, h2, _⟩; exact ⟨h1, h2⟩
        · rintro ⟨h1, h2⟩; exact ⟨h1, h2, hdone k h1⟩
      have HLL : Hid ((ks.mergeSort fun x y => decide (x ≤ y)).length = ks.length) := List.length_mergeSort _
      have HKL := Lib.hid (show ks.length ≤ n by have := HC.out; omega)
      clear hdone hR
      rcases hO.2.2 with ⟨rfl, h0⟩ | ⟨g, cap, cur, rfl, hbg, hgg, h3, h4, h5, h6⟩
      · have ek : ks = [] := List.eq_nil_of_length_eq_zero h0
        subst ek
        have CS := Lib.hid (Tryz.slices_Sort_int_none none 0 wr)
        clear hO h0
        go_wp2_with fail
        refine CS.out.mono ?_
        rintro e w3 ⟨rfl, rfl⟩
        go_wp2_with fail
        go_ret
        exact ⟨_, [], rfl, by simpa using HS.out, HO.out, Nat.zero_le _, HB.out⟩
      · rw [intK_cells, show intK.size = 1 from rfl, Nat.mul_one] at h6
        have CS := Lib.hid (Tryz.slices_Sort_int g 0 cap ks wr (holds_of_blockI hgg h6) (Array.getElem?_eq_some_iff.1 hgg).1 (by have := HKL.out; omega))
        obtain ⟨len, hlen⟩ : ∃ len, ks.length = len := ⟨_, rfl⟩
        have OWN : Hid (∀ m os, OwnsR intK (grow (putRow (Value.int .i64) (Sort.ahead wr m) g 0 (ks.mergeSort fun x y => decide (x ≤ y)).toArray) os) w.heap.size (.slice (some ⟨g, 0, none⟩) len cap) (ks.mergeSort fun x y => decide (x ≤ y))) := by
          intro m os
          refine ⟨fun k hk => ?_, ?_⟩
          · rw [List.mem_mergeSort] at hk
            exact hO.1 k hk
          · rw [intK_cells, HLL.out, ← hlen]
            exact ownsRow_sortedI HLL.out hbg hgg h3 h4 h5
        have GB : Hid (∀ m os, Below w.heap.size w (grow (putRow (Value.int .i64) (Sort.ahead wr m) g 0 (ks.mergeSort fun x y => decide (x ≤ y)).toArray) os)) := fun m os =>
          HB.out.grown (grownBy_sortedI _) HB.out.size (fun b e => by injection e with e; subst e; exact hbg)
        have SL : Hid ((ks.mergeSort fun x y => decide (x ≤ y)).length ≤ n) := by show _ ≤ _; rw [HLL.out]; exact HKL.out
        rw [hlen] at CS ⊢
        clear hO hgg h3 h4 h5 h6 hbg hlen
        go_wp2_with fail
        refine CS.out.mono ?_
        rintro e w3 ⟨rfl, m, os, rfl⟩
        have O3 := Lib.hid (OWN.out m os)
        have B3 := Lib.hid (GB.out m os)
        go_wp2_with fail
        go_ret
        exact ⟨_, _, rfl, HS.out, O3.out, SL.out, B3.out⟩
    · have HO' := Lib.hid (HO.out.grown hg' (fun b e e' => HE.out (by rw [e]; exact e'.symm)))
      have HB' := Lib.hid (HB.out.grown hg' HB.out.size (fun b e => by injection e with e; omega))
      have OA := Lib.hid (HO'.out.below ((Below.refl _ _).alloc (Nat.le_refl _) (.cells #[.int .i64 x] 3)))
      have BA := Lib.hid (HB'.out.alloc HB'.out.size (.cells #[.int .i64 x] 3))
      have NA := Lib.hid (heap_alloc_new w' (.cells #[.int .i64 x] 3))
      have RA := Lib.hid (hR'.below ((Below.refl _ _).alloc (Nat.le_refl _) (.cells #[.int .i64 x] 3)))
      have HX : Hid (I64 x) := hx
      have HLX := Lib.hid hlx
      have HFX := Lib.hid (show (f x).isSome = true by rw [hfx]; rfl)
      have KL := Lib.hid (show ks.length ≤ 100000 by have := HC.out; omega)
      have LA := Lib.hid (show leftAt wr mv r = c from hR.left_eq)
      have hen' : (Instr.entry (.pointer (some ⟨r, 0, none⟩))).run Tryz.prog w' = .ok (.tuple #[.int .i64 x, u]) w' := hen
      have hrun' : ∀ ty, (Instr.next (.pointer (some ⟨r, 0, none⟩)) false ty).run Tryz.prog wr = .ok (.tuple #[.bool true, .int .i64 x, u]) w' := hrun
      clear hO hR hx hlx hfx hg' hs' hR' hen hrun
      go_wp2_with (at_builtin; refine wpList_append_r intK rfl (.tmp 14) (.tmp 16) rfl w.heap.size u3 ks x w'.heap.size rfl rfl OA.out HX.out NA.out KL.out BA.out.size ?_; intro v2 w3 hown3 hg3)
      have R3 := RA.out.kept hg3 (fun b hb e => HNM.out b hb e.symm) (fun e => HE.out e.symm)
      refine ⟨⟨ks ++ [x], fun y => left y ∧ y ≠ x, c', hown3, R3, ?_, fun k => ?_, fun k h1 h2 => HL.out k h1 h2.1, BA.out.grown hg3 BA.out.size (fun b e => (OA.out.base_le b e).1), ?_⟩, ?_⟩
      · rw [List.nodup_append]
        refine ⟨HN.out, by simp, fun a ha b hb => ?_⟩
        simp only [List.mem_cons, List.not_mem_nil, or_false] at hb
        subst hb
        rintro rfl
        exact ((HM.out a).1 ha).2.2 HLX.out
      · rw [List.mem_append, HM.out k]
        simp only [List.mem_cons, List.not_mem_nil, or_false]
        constructor
        · rintro (⟨h1, h2, h3⟩ | rfl)
          · exact ⟨h1, h2, fun h => h3 h.1⟩
          · exact ⟨HX.out, HFX.out, fun h => h.2 rfl⟩
        · rintro ⟨h1, h2, h3⟩
          by_cases e : k = x
          · exact .inr e
          · exact .inl ⟨h1, h2, fun h => h3 ⟨h, e⟩⟩
      · rw [List.length_append]; have := HC.out; simp only [List.length_cons, List.length_nil]; omega
      · rw [R3.left_eq, LA.out]; exact hlt
set_option maxHeartbeats 4000000 in
set_option maxRecDepth 100000 in
theorem order_paper {w : World} {mv : Value} {n : Nat} {f : Int → Option Value} (h : MapIs kInt w mv n f) (hn : n ≤ 10000) :
    Calls Tryz.prog 81 #[mv] w fun e w' => ∃ v ks, e = .returned v ∧ KeysIs f ks ∧ OwnsR intK w' w.heap.size v ks ∧ ks.length ≤ n ∧ Below w.heap.size w w' := by
  have H := Lib.hid h
  obtain ⟨N, hN, hlen⟩ := h.len Tryz.underlying151
  have HNN := Lib.hid hN
  obtain ⟨i0, hi, hz0, hz1, hz2⟩ := info_parts intK.info
  have HI := Lib.hid hi
  have HZ0 := Lib.hid hz0
  have HZ1 := Lib.hid hz1
  have HZ2 := Lib.hid hz2
  have N1 : N ≤ 10000 := by omega
  have HB0 : Hid (Below w.heap.size w w) := Below.refl _ _
  clear h hN hi hz0 hz1 hz2
  go_enter Tryz.func81, Tryz.ntmps81
  go_wp2_with (first
    | (at_make
       refine wpList_make_own _ rfl _ _ 69 rfl w.heap.size 3 i0 (.int .i64 0) 1 Tryz.underlying69 HI.out HZ0.out HZ1.out .i64 .i64 _ N rfl rfl rfl (by rw [HZ2.out]; show 8 * N ≤ _; omega) (by unfold maxLen; omega) (Nat.le_refl _) ?_
       intro w1 hown1 hg1
       have HO1 : Hid (OwnsR intK w1 w.heap.size (.slice (some ⟨w.heap.size, 0, none⟩) 0 N) []) := ⟨by simp, hown1⟩
       have BW1 := Lib.hid ((Below.refl w.heap.size w).grown hg1 (Nat.le_refl _) (fun b e => by cases e))
       have HM1 := Lib.hid (H.out.kept hg1 (by simp))
       clear hown1 hg1 hlen)
    | (at_range
       refine wpList_rangeV rfl (.tmp 8) rfl Tryz.underlying151 rfl HM1.out ?_
       intro w2 cnt hR hg2 hs2 hcn))
  have HO2 := Lib.hid (HO1.out.grown hg2 (fun b _ e => by cases e))
  have BW2 := Lib.hid (BW1.out.grown hg2 BW1.out.size (fun b e => by cases e))
  have HR := Lib.hid hR
  obtain ⟨r, hr⟩ : ∃ r, w1.heap.size = r := ⟨_, rfl⟩
  have hbr : w.heap.size ≤ r := by rw [← hr]; exact BW1.out.size
  have hbr2 : w.heap.size < r := by rw [← hr]; exact (HO1.out.base_le _ rfl).2
  rw [hr] at HR ⊢
  clear hR hg2 hs2 hr
  go_frame
  go_loopw [3, 4] (fun v kv wr => ∃ ks left c, OwnsR intK wr w.heap.size v ks ∧ MapR kInt wr mv r n f left c ∧ ks.Nodup ∧ (∀ k, k ∈ ks ↔ I64 k ∧ (f k).isSome = true ∧ ¬ left k) ∧ (∀ k, I64 k → left k → (f k).isSome = true) ∧ Below w.heap.size w wr ∧ ks.length + c ≤ n) (fun _ _ wr => leftAt wr mv r)
  case atStart =>
    refine ⟨[], fun x => (f x).isSome = true, cnt, HO2.out, HR.out, List.nodup_nil, fun k => ?_, fun k _ h => h, BW2.out, ?_⟩
    · constructor
      · intro h; cases h
      · rintro ⟨_, h1, h2⟩; exact absurd h1 h2
    · simp; omega
  case round =>
    obtain ⟨ks, left, c, hO, hR, hnd, hmem, hlf, hb, hlen⟩ := hrel
    have hne := own_ne_iter hO hR
    have hnm := own_ne_map hO hR.map
    have HN := Lib.hid hnd
    have HM := Lib.hid hmem
    have HL := Lib.hid hlf
    have HE := Lib.hid hne
    have HNM := Lib.hid hnm
    have HB := Lib.hid hb
    have HO := Lib.hid hO
    have HC := Lib.hid hlen
    clear hnd hmem hlf hne hnm hb hlen
    rcases hR.next with ⟨hdone, hrun⟩ | ⟨x, u, w', c', hx, hlx, hfx, hrun, hR', hlt, hg', hs', hen⟩
    · have HS : Hid (KeysIs f (ks.mergeSort fun x y => decide (x ≤ y))) := sorted_keys HN.out fun k => by
        rw [HM.out k]
        constructor
        · rintro ⟨h1, h2, _⟩; exact ⟨h1, h2⟩
        · rintro ⟨h1, h2⟩; exact ⟨h1, h2, hdone k h1⟩
      have HLL : Hid ((ks.mergeSort fun x y => decide (x ≤ y)).length = ks.length) := List.length_mergeSort _
      have HKL := Lib.hid (show ks.length ≤ n by have := HC.out; omega)
      clear hdone hR
      rcases hO.2.2 with ⟨rfl, h0⟩ | ⟨g, cap, cur, rfl, hbg, hgg, h3, h4, h5, h6⟩
      · have ek : ks = [] := List.eq_nil_of_length_eq_zero h0
        subst ek
        have CS := Lib.hid (Tryz.slices_Sort_int_none none 0 wr)
        clear hO h0
        go_wp2_with fail
        refine CS.out.mono ?_
        rintro e w3 ⟨rfl, rfl⟩
        go_wp2_with fail
        go_ret
        exact ⟨_, [], rfl, by simpa using HS.out, HO.out, Nat.zero_le _, HB.out⟩
      · rw [intK_cells, show intK.size = 1 from rfl, Nat.mul_one] at h6
        have CS := Lib.hid (Tryz.slices_Sort_int g 0 cap ks wr (holds_of_blockI hgg h6) (Array.getElem?_eq_some_iff.1 hgg).1 (by have := HKL.out; omega))
        obtain ⟨len, hlen⟩ : ∃ len, ks.length = len := ⟨_, rfl⟩
        have OWN : Hid (∀ m os, OwnsR intK (grow (putRow (Value.int .i64) (Sort.ahead wr m) g 0 (ks.mergeSort fun x y => decide (x ≤ y)).toArray) os) w.heap.size (.slice (some ⟨g, 0, none⟩) len cap) (ks.mergeSort fun x y => decide (x ≤ y))) := by
          intro m os
          refine ⟨fun k hk => ?_, ?_⟩
          · rw [List.mem_mergeSort] at hk
            exact hO.1 k hk
          · rw [intK_cells, HLL.out, ← hlen]
            exact ownsRow_sortedI HLL.out hbg hgg h3 h4 h5
        have GB : Hid (∀ m os, Below w.heap.size w (grow (putRow (Value.int .i64) (Sort.ahead wr m) g 0 (ks.mergeSort fun x y => decide (x ≤ y)).toArray) os)) := fun m os =>
          HB.out.grown (grownBy_sortedI _) HB.out.size (fun b e => by injection e with e; subst e; exact hbg)
        have SL : Hid ((ks.mergeSort fun x y => decide (x ≤ y)).length ≤ n) := by show _ ≤ _; rw [HLL.out]; exact HKL.out
        rw [hlen] at CS ⊢
        clear hO hgg h3 h4 h5 h6 hbg hlen
        go_wp2_with fail
        refine CS.out.mono ?_
        rintro e w3 ⟨rfl, m, os, rfl⟩
        have O3 := Lib.hid (OWN.out m os)
        have B3 := Lib.hid (GB.out m os)
        go_wp2_with fail
        go_ret
        exact ⟨_, _, rfl, HS.out, O3.out, SL.out, B3.out⟩
    · have HO' := Lib.hid (HO.out.grown hg' (fun b e e' => HE.out (by rw [e]; exact e'.symm)))
      have HB' := Lib.hid (HB.out.grown hg' HB.out.size (fun b e => by injection e with e; omega))
      have OA := Lib.hid (HO'.out.below ((Below.refl _ _).alloc (Nat.le_refl _) (.cells #[.int .i64 x] 3)))
      have BA := Lib.hid (HB'.out.alloc HB'.out.size (.cells #[.int .i64 x] 3))
      have NA := Lib.hid (heap_alloc_new w' (.cells #[.int .i64 x] 3))
      have RA := Lib.hid (hR'.below ((Below.refl _ _).alloc (Nat.le_refl _) (.cells #[.int .i64 x] 3)))
      have HX : Hid (I64 x) := hx
      have HLX := Lib.hid hlx
      have HFX := Lib.hid (show (f x).isSome = true by rw [hfx]; rfl)
      have KL := Lib.hid (show ks.length ≤ 100000 by have := HC.out; omega)
      have LA := Lib.hid (show leftAt wr mv r = c from hR.left_eq)
      have hen' : (Instr.entry (.pointer (some ⟨r, 0, none⟩))).run Tryz.prog w' = .ok (.tuple #[.int .i64 x, u]) w' := hen
      have hrun' : ∀ ty, (Instr.next (.pointer (some ⟨r, 0, none⟩)) false ty).run Tryz.prog wr = .ok (.tuple #[.bool true, .int .i64 x, u]) w' := hrun
      clear hO hR hx hlx hfx hg' hs' hR' hen hrun
      go_wp2_with (at_builtin; refine wpList_append_r intK rfl (.tmp 14) (.tmp 16) rfl w.heap.size u3 ks x w'.heap.size rfl rfl OA.out HX.out NA.out KL.out BA.out.size ?_; intro v2 w3 hown3 hg3)
      have R3 := RA.out.kept hg3 (fun b hb e => HNM.out b hb e.symm) (fun e => HE.out e.symm)
      refine ⟨⟨ks ++ [x], fun y => left y ∧ y ≠ x, c', hown3, R3, ?_, fun k => ?_, fun k h1 h2 => HL.out k h1 h2.1, BA.out.grown hg3 BA.out.size (fun b e => (OA.out.base_le b e).1), ?_⟩, ?_⟩
      · rw [List.nodup_append]
        refine ⟨HN.out, by simp, fun a ha b hb => ?_⟩
        simp only [List.mem_cons, List.not_mem_nil, or_false] at hb
        subst hb
        rintro rfl
        exact ((HM.out a).1 ha).2.2 HLX.out
      · rw [List.mem_append, HM.out k]
        simp only [List.mem_cons, List.not_mem_nil, or_false]
        constructor
        · rintro (⟨h1, h2, h3⟩ | rfl)
          · exact ⟨h1, h2, fun h => h3 h.1⟩
          · exact ⟨HX.out, HFX.out, fun h => h.2 rfl⟩
        · rintro ⟨h1, h2, h3⟩
          by_cases e : k = x
          · exact .inr e
          · exact .inl ⟨h1, h2, fun h => h3 ⟨h, e⟩⟩
      · rw [List.length_append]; have := HC.out; simp only [List.length_cons, List.length_nil]; omega
      · rw [R3.left_eq, LA.out]; exact hlt
end Go.Proofs.YtpblfpnldbdncaaGreatDoor
namespace Go.Proofs.YtpblfpnldbdncaaGreatDoor
open Go.RowKit Go.Sort Go.Maps
set_option linter.unusedVariables false
set_option maxRecDepth 100000
theorem laid_out : laidOutB Tryz.prog = true := by kernel_rfl
theorem place_row : (149 : TypeId) < Tryz.prog.types.size := of_decide_eq_true (by kernel_rfl)
theorem place_wide : (match Tryz.prog.underlying 149 with | some (.array _ _) | some (.struct _) => true | _ => false) = true := by rw [Tryz.underlying149]
theorem place_law : WideMaps.KeyLaw Tryz.prog 149 := deep_law_laid laid_out (m := 3) (by omega) place_row (by kernel_rfl) place_wide
theorem place_cells : Tryz.prog.cellsOf 149 = 2 := by kernel_rfl
theorem place_key : Tryz.prog.keyType 149 = true := by kernel_rfl
def plV (x : Int × Int) : Value := .agg #[.int .i64 x.1, .int .i64 x.2]
def plL (x : Int × Int) : Lit := .string (keyBytes [.int .i64 x.1, .int .i64 x.2])
theorem types_pos : ∃ d, Tryz.prog.types.size = d + 1 := by
  exact ⟨Tryz.prog.types.size - 1, (Nat.sub_add_cancel (Nat.lt_of_le_of_lt (Nat.zero_le _) place_row)).symm⟩
theorem pl_names : (#[({ name := "kiosk", type := 3, offset := 0, embedded := false, tag := "", pkgPath := "sortes/merge", byteOffset := 0 } : Field), { name := "serial", type := 3, offset := 1, embedded := false, tag := "", pkgPath := "sortes/merge", byteOffset := 8 }] : Array Field).all (·.name != "_") = true := by decide +kernel
theorem pl_lits (d : Nat) {x : Int × Int} (h : I64 x.1 ∧ I64 x.2) : Tryz.prog.keyLits (d + 2) 149 [.int .i64 x.1, .int .i64 x.2] = some [.int .i64 x.1, .int .i64 x.2] := by
  unfold Program.keyLits
  rw [Tryz.underlying149]
  simp [place_cells, cells_int, lits_int d h.1, lits_int d h.2]
theorem pl_of {x : Int × Int} (h : I64 x.1 ∧ I64 x.2) : keyOf Tryz.prog 149 (plV x) = some (plL x) := by
  obtain ⟨d, hd⟩ := types_pos
  unfold keyOf
  rw [Tryz.underlying149]
  simp only [place_key, Bool.true_and]
  rw [if_pos (by simp [plV, Value.formed, Tryz.underlying149, place_cells])]
  rw [hd]
  have : (plV x).cells.toList = [.int .i64 x.1, .int .i64 x.2] := rfl
  rw [this, pl_lits d h]
  rfl
theorem lits_int_inv {d : Nat} {v : Value} {l : List Lit} (h : Tryz.prog.keyLits (d + 1) 3 [v] = some l) : ∃ n, v = .int .i64 n ∧ I64 n := by
  unfold Program.keyLits at h
  rw [Tryz.underlying3] at h
  cases v <;> simp at h
  obtain ⟨⟨rfl, hw⟩, _⟩ := h
  exact ⟨_, rfl, wf_int hw⟩
theorem pl_back {v : Value} {l : Lit} (h : keyOf Tryz.prog 149 v = some l) : ∃ x : Int × Int, (I64 x.1 ∧ I64 x.2) ∧ v = plV x ∧ l = plL x := by
  have h0 := h
  obtain ⟨d, hd⟩ := types_pos
  unfold keyOf at h
  rw [Tryz.underlying149] at h
  simp only [place_key, Bool.true_and] at h
  split at h
  · rename_i hf
    obtain ⟨L, hL, rfl⟩ := Option.map_eq_some_iff.1 h
    cases v <;> simp [Value.formed, Tryz.underlying149, place_cells] at hf
    rename_i cs
    obtain ⟨cs⟩ := cs
    rw [hd] at hL
    have e : (Value.agg ⟨cs⟩).cells.toList = cs := rfl
    rw [e] at hL
    have hl : cs.length = 2 := hf
    match cs, hl with
    | [a, b], _ =>
      unfold Program.keyLits at hL
      rw [Tryz.underlying149] at hL
      have f0 : (([a, b] : List Value).drop 0).take 1 = [a] := rfl
      have f1 : (([a, b] : List Value).drop 1).take 1 = [b] := rfl
      simp only [place_cells, List.length_cons, List.length_nil, pl_names, and_self, if_true, List.mapM_cons, List.mapM_nil, cells_int, f0, f1] at hL
      cases h1 : Tryz.prog.keyLits (d + 1) 3 [a] with
      | none => rw [h1] at hL; simp at hL
      | some la =>
        cases h2 : Tryz.prog.keyLits (d + 1) 3 [b] with
        | none => rw [h1, h2] at hL; simp at hL
        | some lb =>
          obtain ⟨n, rfl, hn⟩ := lits_int_inv h1
          obtain ⟨m, rfl, hm⟩ := lits_int_inv h2
          have hk := pl_of (x := (n, m)) ⟨hn, hm⟩
          refine ⟨(n, m), ⟨hn, hm⟩, rfl, ?_⟩
          have e2 : keyOf Tryz.prog 149 (.agg ⟨[.int .i64 n, .int .i64 m]⟩) = some (plL (n, m)) := hk
          rw [h0] at e2
          injection e2
  · cases h
/-- keys that are places -/
def kPl : Kk Tryz.prog 149 (Int × Int) where
  kv := plV
  kl := plL
  ok x := I64 x.1 ∧ I64 x.2
  keyed := Keyed.of_law place_law
  law h := pl_of h
  back h := pl_back h
  inj {x y} hx hy h := by
    have e := (Keyed.of_law place_law).inj (pl_of hx) (h ▸ pl_of hy)
    unfold plV at e
    simp only [Value.agg.injEq, Array.mk.injEq, List.cons.injEq, Value.int.injEq, true_and, and_true] at e
    exact Prod.ext e.1 e.2
end Go.Proofs.YtpblfpnldbdncaaGreatDoor
