/- Bytes in memory, and strings: over any program. -/
import Derived.Test.YtfligfompdcddaaKit
import Derived.Laws.BytesString
import Derived.Laws.Rows
import Derived.Deep.OwnRows
namespace Go.Proofs.Ytfligfompdcddaa
open Go.RowKit
set_option linter.unusedVariables false

theorem add_none (b i : Nat) : (⟨b, 0, none⟩ : Addr).add i = ⟨b, i, none⟩ := by unfold Addr.add; split <;> simp_all
theorem fold_push (ns : List Int) : ∀ (s : ByteArray), ns.foldl (fun r n => r.push (UInt8.ofNat n.toNat)) s = ⟨(s.data.toList ++ ns.map fun n => UInt8.ofNat n.toNat).toArray⟩ := by
  induction ns with
  | nil => intro s; cases s; simp
  | cons n ns ih =>
    intro s
    rw [List.foldl_cons, ih]
    congr 1
    simp [ByteArray.push]
/-- 'string(b[:n])' of a row of bytes -/
theorem conv_row {P : Program} {w : World} {b n c : Nat} {T S D E : TypeId} {g : Nat → Nat} (hs : P.underlying S = some (.slice E)) (he : P.underlying E = some (.int .u8)) (hd : P.underlying D = some .string) (hr : ∀ i, i < n → w.cell? ⟨b, i, none⟩ = some (.int .u8 (g i : Nat))) :
    (convert S D (.slice (some ⟨b, 0, none⟩) n c)).run P w = .ok (.string ⟨((List.range n).map fun i => UInt8.ofNat (g i)).toArray⟩) w := by
  rw [run_convert_bytes_string w S D E _ n c hs he hd, run_bytesToString w ⟨b, 0, none⟩ n c ((List.range n).map fun i => ((g i : Nat) : Int)) ?_]
  · rw [fold_push]
    have e : (ByteArray.empty.data.toList ++ ((List.range n).map fun i => ((g i : Nat) : Int)).map fun n => UInt8.ofNat n.toNat) = (List.range n).map fun i => UInt8.ofNat (g i) := by
      rw [List.map_map]
      rfl
    rw [e]
  · have h := run_loadCells_list (P := P) w ⟨b, 0, none⟩ ((List.range n).map fun i => Value.int .u8 ((g i : Nat) : Int)) (fun j v hv => by
      rw [List.getElem?_map] at hv
      by_cases hj : j < n
      · rw [List.getElem?_range hj] at hv
        injection hv with hv
        rw [add_none, hr j hj, ← hv]
      · rw [List.getElem?_eq_none (by simp; omega)] at hv
        cases hv)
    rw [List.length_map, List.length_range] at h
    rw [h, List.map_map]
    rfl
/-- 'string([]byte{x})' -/
theorem conv_one {P : Program} {S D E T : TypeId} (hs : P.underlying S = some (.slice E)) (he : P.underlying E = some (.int .u8)) (hd : P.underlying D = some .string) (x : Int) (w : World) :
    (convert S D (.slice (some ⟨w.heap.size, 0, none⟩) 1 1)).run P (w.alloc (.cells #[.int .u8 x] T)) = .ok (.string ⟨#[UInt8.ofNat x.toNat]⟩) (w.alloc (.cells #[.int .u8 x] T)) := by
  rw [run_convert_bytes_string _ S D E _ 1 1 hs he hd, run_bytesToString _ ⟨w.heap.size, 0, none⟩ 1 1 [x] ?_]
  · rfl
  · have h := run_loadCells_list (P := P) (w.alloc (.cells #[.int .u8 x] T)) ⟨w.heap.size, 0, none⟩ [Value.int .u8 x] (fun j v hv => by
      match j with
      | 0 =>
        injection hv with hv
        subst hv
        rw [add_none]; simp
      | j + 1 => simp at hv)
    exact h
def strLen : Value → Nat
  | .string b => b.size
  | _ => 0
end Go.Proofs.Ytfligfompdcddaa
