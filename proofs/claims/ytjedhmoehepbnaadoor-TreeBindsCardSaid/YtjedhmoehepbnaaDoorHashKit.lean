/- Hashes that lie in memory; the contracts of the two sums. -/
import Derived.Test.YtjedhmoehepbnaaDoorSum
import Derived.Test.YtjedhmoehepbnaaDoorRefSum
import Derived.Test.YtjedhmoehepbnaaDoorQuiet
import Derived.Stop.BytesEq
import Derived.Deep.OwnRows
namespace Go.Proofs.YtjedhmoehepbnaaDoor
open Go.RowKit Go.Sort
set_option linter.unusedVariables false
theorem hash_eql (a b : List UInt8) (ha : a.length = 32) (hb : b.length = 32) (w : World) : (binOp .eql 24 (.agg (hashArr a)) (.agg (hashArr b))).run Tryd.prog w = .ok (.bool (a == b)) w :=
  run_eql_bytes w 24 5 32 Tryd.underlying24 Tryd.underlying5 Tryd.sizeOf5 a b ha hb
theorem sum_is (s : ByteArray) (h : List UInt8) (w : World) (hs : s.size ≤ 140737488355000) (hT : Tabs w) (hh : Sha.sum s.data.toList = h) :
    Calls Tryd.prog 36 #[.string s] w fun e w' => e = .returned (.agg (hashArr h)) ∧ Below w.heap.size w w' := by
  rw [← hh]; exact sum_any s w hs hT
theorem rsum_is (s : ByteArray) (h : List UInt8) (w : World) (hs : s.size ≤ 140737488355000) (hh : Sha.sum s.data.toList = h) :
    Calls Tryd.prog 37 #[.string s] w fun e w' => e = .returned (.agg (hashArr h)) ∧ Below w.heap.size w w' := by
  rw [← hh]; exact rsum_any s w hs
/-- a hash, its length and that it is equal to itself -/
theorem some_sum (s : ByteArray) : ∃ h : List UInt8, Sha.sum s.data.toList = h ∧ h.length = 32 := ⟨_, rfl, Sha.sum_length _⟩
/-- hashes lie in memory: loaded as a whole in every world of the class -/
theorem hash_load {w : World} {b : Nat} {l : List UInt8} {t : TypeId} {fr : Nat × Nat} (hl : l.length = 32) (hb : w.heap[b]? = some (.cells (hashArr l) t fr)) :
    ∀ w', (∃ p : Regrown, w' = grow (redrawn w p.d) p.os) → (loadVar 24 ⟨b, 0, none⟩).run Tryd.prog w' = .ok (.agg (hashArr l)) w' :=
  load_regrown hb Tryd.underlying24 rfl (by rw [show (hashArr l).size = 32 by simp [hashArr, hl]]; kernel_rfl)
/-- a hash stored into a new variable -/
theorem store_hash {ops : Array Oper} {rest : List Oper} {o : Oper} {a : Act} {w : World} {Q : Exit → Act → World → Prop} {l : List UInt8} (hl : l.length = 32) {old : Array Value} (hold : old.size = 32) (x y : Operand) (hgd : o.guard = none) (hdst : o.dst = none) (ho : o.op = .store 24 x y)
    (hx : a.eval x = .pointer (some ⟨w.heap.size, 0, none⟩)) (hy : a.eval y = .agg (hashArr l))
    (h : wpList Tryd.prog ops Q rest a (w.alloc (.cells (hashArr l) 24))) : wpList Tryd.prog ops Q (o :: rest) a (w.alloc (.cells old 24)) :=
  wpList_store_new hgd 24 x y ho (hashArr l) hx hy 24 old (hash_info l hl) (by rw [hold, hashArr_size, hl]) (hashArr_one l) (by rw [hdst]; exact h)
theorem heap_below {W w1 : World} {b : Nat} {o : Obj} (h : W.heap[b]? = some o) (hb : Below W.heap.size W w1) : w1.heap[b]? = some o := by
  rcases Nat.lt_or_ge b W.heap.size with hl | hl
  · rw [hb.block b hl]; exact h
  · rw [Array.getElem?_eq_none hl] at h; cases h
/-- the cells of a hash that lies in a block -/
theorem hash_cell {w : World} {b : Nat} {l : List UInt8} {t : TypeId} {fr : Nat × Nat} (hl : l.length = 32) (h : w.heap[b]? = some (.cells (hashArr l) t fr)) (j : Nat) (hj : j < 32) : w.cell? ⟨b, j, none⟩ = some (.int .u8 ((l.getD j 0).toNat : Int)) := by
  rw [cell_of_row _ _ _ _ _ _ h, hashArr, List.getElem?_toArray, List.getElem?_map, List.getD_eq_getElem?_getD, List.getElem?_eq_getElem (show j < l.length by omega)]
  rfl
theorem hash_rowIs {w : World} {b : Nat} {l : List UInt8} {t : TypeId} (hl : l.length = 32) (h : w.heap[b]? = some (.cells (hashArr l) t (0, 0))) : w.rowIs b t 32 (fun j => .int .u8 ((l.getD j 0).toNat : Int)) :=
  ⟨_, h, by rw [hashArr_size, hl], fun i hi => by
    have := hash_cell hl h i hi
    rw [cell_of_row _ _ _ _ _ _ h] at this
    exact this⟩
theorem rowIs_hash {w : World} {b : Nat} {l : List UInt8} {t : TypeId} (hl : l.length = 32) (h : w.rowIs b t 32 (fun j => .int .u8 ((l.getD j 0).toNat : Int))) : w.heap[b]? = some (.cells (hashArr l) t (0, 0)) := by
  obtain ⟨c, hb, hn, hc⟩ := h
  rw [hb]
  congr 2
  apply Array.ext_getElem?
  intro i
  by_cases hi : i < 32
  · rw [hc i hi, hashArr, List.getElem?_toArray, List.getElem?_map]
    simp only
    rw [List.getD_eq_getElem?_getD, List.getElem?_eq_getElem (show i < l.length by omega)]
    rfl
  · rw [Array.getElem?_eq_none (by omega), Array.getElem?_eq_none (by rw [hashArr_size]; omega)]
theorem zero_hash : (#[.int .u8 0, .int .u8 0, .int .u8 0, .int .u8 0, .int .u8 0, .int .u8 0, .int .u8 0, .int .u8 0, .int .u8 0, .int .u8 0, .int .u8 0, .int .u8 0, .int .u8 0, .int .u8 0, .int .u8 0, .int .u8 0, .int .u8 0, .int .u8 0, .int .u8 0, .int .u8 0, .int .u8 0, .int .u8 0, .int .u8 0, .int .u8 0, .int .u8 0, .int .u8 0, .int .u8 0, .int .u8 0, .int .u8 0, .int .u8 0, .int .u8 0, .int .u8 0] : Array Value) = hashArr (List.replicate 32 0) := rfl
theorem rowIs_below {W w1 : World} {b : Nat} {t : TypeId} {n : Nat} {f : Nat → Value} (h : W.rowIs b t n f) (hb : Below W.heap.size W w1) : w1.rowIs b t n f := h.of_block (hb.block b h.lt)
theorem hash_neq (a b : List UInt8) (ha : a.length = 32) (hb : b.length = 32) (w : World) : (binOp .neq 24 (.agg (hashArr a)) (.agg (hashArr b))).run Tryd.prog w = .ok (.bool (!(a == b))) w := by
  have := run_equalIn_bytes (P := Tryd.prog) w 9998 24 5 32 Tryd.underlying24 Tryd.underlying5 Tryd.sizeOf5 a b ha hb
  rw [run_neq_struct]
  show (Result.andThen ((Op.equalIn (9998 + 2) 24 (.agg (hashArr a)) (.agg (hashArr b))).run Tryd.prog w) _) = _
  rw [show hashArr a = (a.map Extern.Stop.cell).toArray from rfl, show hashArr b = (b.map Extern.Stop.cell).toArray from rfl, this]
  simp
end Go.Proofs.YtjedhmoehepbnaaDoor
