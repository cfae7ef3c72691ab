/- The order of hashes: plain laws, and the contracts of digest.Less and of the reference's Less. -/
import Derived.Test.YtkebipklcpplaaaDoorTextsWalk
import Derived.Deep.OwnRows
namespace Go.Proofs.YtkebipklcpplaaaDoor
open Go.RowKit Go.Sort
set_option linter.unusedVariables false

theorem less_self (a : List UInt8) : Op.bytesLess a a = false := by
  induction a with
  | nil => rfl
  | cons x a ih => simp [Op.bytesLess, ih]
theorem hexDigit_lt : ∀ a b : Fin 16, (Sha.hexDigit a.val < Sha.hexDigit b.val) ↔ a < b := by decide +kernel
theorem less_text : ∀ (a b : List UInt8), a.length = b.length → Op.bytesLess (Sha.text a) (Sha.text b) = Op.bytesLess a b := by
  intro a
  induction a with
  | nil => intro b h; cases b with
    | nil => rfl
    | cons y b => simp at h
  | cons x a ih =>
    intro b h
    cases b with
    | nil => simp at h
    | cons y b =>
      have e1 : ∀ (x : UInt8) (l : List UInt8), Sha.text (x :: l) = Sha.hexDigit (x.toNat / 16) :: Sha.hexDigit (x.toNat % 16) :: Sha.text l := by intro x l; simp [Sha.text]
      have hx := UInt8.toNat_lt x
      have hy := UInt8.toNat_lt y
      have k1 := hexDigit_lt ⟨x.toNat / 16, by omega⟩ ⟨y.toNat / 16, by omega⟩
      have k2 := hexDigit_lt ⟨x.toNat % 16, by omega⟩ ⟨y.toNat % 16, by omega⟩
      have k3 : (Sha.hexDigit (x.toNat / 16) = Sha.hexDigit (y.toNat / 16)) ↔ x.toNat / 16 = y.toNat / 16 :=
        ⟨fun h => by have := hexDigit_inj ⟨x.toNat / 16, by omega⟩ ⟨y.toNat / 16, by omega⟩ h; simpa using this, fun h => by rw [h]⟩
      have k4 : (Sha.hexDigit (x.toNat % 16) = Sha.hexDigit (y.toNat % 16)) ↔ x.toNat % 16 = y.toNat % 16 :=
        ⟨fun h => by have := hexDigit_inj ⟨x.toNat % 16, by omega⟩ ⟨y.toNat % 16, by omega⟩ h; simpa using this, fun h => by rw [h]⟩
      simp only [Fin.lt_def] at k1 k2
      rw [e1, e1]
      simp only [Op.bytesLess, ih b (by simpa using h)]
      rw [Bool.eq_iff_iff]
      simp only [Bool.or_eq_true, Bool.and_eq_true, decide_eq_true_eq, beq_iff_eq, k1, k2, k3, k4, UInt8.lt_iff_toNat_lt, ← UInt8.toNat_inj]
      constructor
      · rintro (h | ⟨h, h2 | ⟨h2, h3⟩⟩)
        · exact .inl (by omega)
        · exact .inl (by omega)
        · exact .inr ⟨by omega, h3⟩
      · rintro (h | ⟨h, h3⟩)
        · by_cases e : x.toNat / 16 = y.toNat / 16
          · exact .inr ⟨e, .inl (by omega)⟩
          · exact .inl (by omega)
        · exact .inr ⟨by omega, .inr ⟨by omega, h3⟩⟩
/-- the first place at which two hashes differ -/
theorem first_diff : ∀ (n : Nat) (a b : List UInt8), a.length = n → b.length = n → ∃ d, d ≤ n ∧ (∀ j, j < d → (a.getD j 0).toNat = (b.getD j 0).toNat) ∧ (d < n → (a.getD d 0).toNat ≠ (b.getD d 0).toNat) ∧ (d = n → a = b) ∧
    Op.bytesLess a b = decide (d < n ∧ (a.getD d 0).toNat < (b.getD d 0).toNat) := by
  intro n
  induction n with
  | zero =>
    intro a b ha hb
    obtain rfl := List.length_eq_zero_iff.1 ha
    obtain rfl := List.length_eq_zero_iff.1 hb
    exact ⟨0, by omega, fun j h => by omega, fun h => by omega, fun _ => rfl, by simp [Op.bytesLess]⟩
  | succ n ih =>
    intro a b ha hb
    match a, b, ha, hb with
    | x :: a, y :: b, ha, hb =>
      by_cases e : x.toNat = y.toNat
      · obtain ⟨d, h1, h2, h3, h4, h5⟩ := ih a b (by simpa using ha) (by simpa using hb)
        have exy : x = y := UInt8.toNat_inj.1 e
        refine ⟨d + 1, by omega, fun j hj => ?_, fun h => ?_, fun h => ?_, ?_⟩
        · cases j with
          | zero => simpa using e
          | succ j => simpa using h2 j (by omega)
        · simpa using h3 (by omega)
        · rw [exy, h4 (by omega)]
        · subst exy
          simp only [Op.bytesLess, h5]
          rw [Bool.eq_iff_iff]
          simp
      · refine ⟨0, by omega, fun j h => by omega, fun _ => by simpa using e, fun h => by omega, ?_⟩
        have : (x == y) = false := by rw [beq_eq_false_iff_ne]; intro h; exact e (by rw [h])
        simp [Op.bytesLess, this, UInt8.lt_iff_toNat_lt]
theorem less_three (a b : List UInt8) (ha : a.length = 32) (hb : b.length = 32) :
    (Op.bytesLess a b = true ∧ Op.bytesLess b a = false ∧ a ≠ b) ∨ (Op.bytesLess a b = false ∧ Op.bytesLess b a = true ∧ a ≠ b) ∨ (Op.bytesLess a b = false ∧ Op.bytesLess b a = false ∧ a = b) := by
  obtain ⟨d, h1, h2, h3, h4, h5⟩ := first_diff 32 a b ha hb
  by_cases hd : d = 32
  · obtain rfl := h4 hd
    exact .inr (.inr ⟨less_self _, less_self _, rfl⟩)
  · have hne := h3 (by omega)
    have hab : a ≠ b := fun h => hne (by rw [h])
    obtain ⟨d', k1, k2, k3, k4, k5⟩ := first_diff 32 b a hb ha
    have hd' : d' = d := by
      rcases Nat.lt_trichotomy d d' with h | h | h
      · exact absurd (k2 d h).symm hne
      · exact h.symm
      · exact absurd (h2 d' h) (fun hh => k3 (by omega) hh.symm)
    subst hd'
    rw [h5, k5]
    by_cases hlt : (a.getD d' 0).toNat < (b.getD d' 0).toNat
    · exact .inl ⟨by simp only [decide_eq_true_eq]; omega, by simp only [decide_eq_false_iff_not]; omega, hab⟩
    · exact .inr (.inl ⟨by simp only [decide_eq_false_iff_not]; omega, by simp only [decide_eq_true_eq]; omega, hab⟩)

/-- the cells of a hash that lies in a block -/
theorem hash_cell {w : World} {b : Nat} {l : List UInt8} {t : TypeId} {fr : Nat × Nat} (hl : l.length = 32) (h : w.heap[b]? = some (.cells (hashArr l) t fr)) (j : Nat) (hj : j < 32) : w.cell? ⟨b, j, none⟩ = some (.int .u8 ((l.getD j 0).toNat : Int)) := by
  rw [cell_of_row _ _ _ _ _ _ h, hashArr, List.getElem?_toArray, List.getElem?_map, List.getD_eq_getElem?_getD, List.getElem?_eq_getElem (show j < l.length by omega)]
  rfl
theorem hash_rowIs {w : World} {b : Nat} {l : List UInt8} {t : TypeId} (hl : l.length = 32) (h : w.heap[b]? = some (.cells (hashArr l) t (0, 0))) : w.rowIs b t 32 (fun j => .int .u8 ((l.getD j 0).toNat : Int)) :=
  ⟨_, h, by rw [hashArr_size, hl], fun i hi => by
    have := hash_cell hl h i hi
    rw [cell_of_row _ _ _ _ _ _ h] at this
    exact this⟩
theorem rowIs_hash {w : World} {b : Nat} {l : List UInt8} {t : TypeId} (hl : l.length = 32) (h : w.rowIs b t 32 (fun j => .int .u8 ((l.getD j 0).toNat : Int))) : w.heap[b]? = some (.cells (hashArr l) t (0, 0)) := by
  obtain ⟨c, hb, hn, hc⟩ := h
  rw [hb]
  congr 2
  apply Array.ext_getElem?
  intro i
  by_cases hi : i < 32
  · rw [hc i hi, hashArr, List.getElem?_toArray, List.getElem?_map]
    simp only
    rw [List.getD_eq_getElem?_getD, List.getElem?_eq_getElem (show i < l.length by omega)]
    rfl
  · rw [Array.getElem?_eq_none (by omega), Array.getElem?_eq_none (by rw [hashArr_size]; omega)]

def isLess (a b : List UInt8) (w : World) (e : Ending) (w' : World) : Prop := e = .returned (.bool (Op.bytesLess a b)) ∧ Below w.heap.size w w'
set_option maxHeartbeats 1000000 in
theorem rless_any (a b : List UInt8) (ha : a.length = 32) (hb : b.length = 32) (w : World) :
    Calls Tryd.prog 23 #[.agg (hashArr a), .agg (hashArr b)] w (isLess a b w) := by
  obtain ⟨d, h1, h2, h3, h4, h5⟩ := first_diff 32 a b ha hb
  have H2 := Lib.hid h2
  have H3 := Lib.hid h3
  have H5 := Lib.hid h5
  have HA := Lib.hid ha
  have HB := Lib.hid hb
  clear h2 h3 h4 h5 ha hb
  go_enter Tryd.func23, Tryd.ntmps23
  go_wp2_with fail
  have hbl0 : Below w.heap.size w ((w.alloc (.cells (hashArr a) 24)).alloc (.cells (hashArr b) 24)) := ((Below.refl _ _).alloc (Nat.le_refl _) _).alloc (by simp) _
  have ba0 := heap_alloc2_old w (.cells (hashArr a) 24) (.cells (hashArr b) 24)
  have bb0 := heap_alloc2_new w (.cells (hashArr a) 24) (.cells (hashArr b) 24)
  generalize (w.alloc (.cells (hashArr a) 24)).alloc (.cells (hashArr b) 24) = W0 at *
  go_loopw [5] (fun i wr => ∃ k : Nat, k ≤ d ∧ i = .int .i64 k ∧ wr.heap[w.heap.size]? = some (.cells (hashArr a) 24 (0, 0)) ∧ wr.heap[w.heap.size + 1]? = some (.cells (hashArr b) 24 (0, 0)) ∧ Below w.heap.size w wr) (fun i _ => 32 - (intOf i).toNat)
  case atStart => exact ⟨0, by omega, rfl, ba0, bb0, hbl0⟩
  case round =>
    obtain ⟨k, hk, rfl, hra, hrb, hbw⟩ := hrel
    by_cases hlt : k < 32
    · have ca := hash_cell HA.out hra k hlt
      have cb := hash_cell HB.out hrb k hlt
      obtain ⟨x, ex⟩ : ∃ x, (a.getD k 0).toNat = x := ⟨_, rfl⟩
      obtain ⟨y, ey⟩ : ∃ y, (b.getD k 0).toNat = y := ⟨_, rfl⟩
      rw [ex] at ca
      rw [ey] at cb
      have EX := Lib.hid ex
      have EY := Lib.hid ey
      have HRA := Lib.hid hra
      have HRB := Lib.hid hrb
      clear ex ey hra hrb
      have q1 : (0 : Int) ≤ (k : Int) := by omega
      have q2 : (k : Int) < 32 := by omega
      by_cases hkd : k < d
      · have : x = y := by have := H2.out k hkd; rw [EX.out, EY.out] at this; exact this
        subst this
        go_wp2_with fail
        go_quiet (fail)
        go_wp2_with fail
        go_roundw
        case rel => exact ⟨k + 1, by omega, by go_num, HRA.out, HRB.out, below_drewN hbw _⟩
        case measure => simp [intOf]; omega
      · have hkd' : k = d := by omega
        have hxy : ((x : Int) != (y : Int)) = true := by
          have := H3.out (by omega)
          rw [← hkd', EX.out, EY.out] at this
          simp; omega
        have HR : Hid (Op.bytesLess a b = decide ((x : Int) < (y : Int))) := by
          show Op.bytesLess a b = decide ((x : Int) < (y : Int))
          rw [H5.out, ← hkd', EX.out, EY.out, Bool.eq_iff_iff]
          simp; omega
        have HKD := Lib.hid hkd'
        clear hkd'
        go_wp2_with fail
        go_quiet (fail)
        go_wp2_with fail
        go_quiet (fail)
        go_wp2_with fail
        go_ret
        exact ⟨ret_bool (by rw [HR.out]; simp), below_drewN (below_drewN hbw _) _⟩
    · have HR : Hid (Op.bytesLess a b = false) := by
        show Op.bytesLess a b = false
        rw [H5.out]; simp; omega
      have hd : decide ((k : Int) < 32) = false := by simp; omega
      go_wp2_with fail
      go_ret
      exact ⟨ret_bool (by rw [HR.out]), hbw⟩
set_option maxHeartbeats 1000000 in
theorem less_any (a b : List UInt8) (ha : a.length = 32) (hb : b.length = 32) (w : World) :
    Calls Tryd.prog 22 #[.agg (hashArr a), .agg (hashArr b)] w (isLess a b w) := by
  obtain ⟨d, h1, h2, h3, h4, h5⟩ := first_diff 32 a b ha hb
  have heq : ∀ W, (binOp .eql 24 (.agg (hashArr a)) (.agg (hashArr b))).run Tryd.prog W = .ok (.bool (decide (d = 32))) W := fun W => by
    rw [hash_eql a b ha hb W]
    congr 2
    by_cases e : d = 32
    · rw [h4 e]; simp [e]
    · have : a ≠ b := fun h => h3 (by omega) (by rw [h])
      rw [beq_eq_false_iff_ne.2 this]; simp [e]
  have H2 := Lib.hid h2
  have H3 := Lib.hid h3
  have H5 := Lib.hid h5
  have HA := Lib.hid ha
  have HB := Lib.hid hb
  clear h2 h3 h4 h5 ha hb
  have hbl0 : Below w.heap.size w ((w.alloc (.cells (hashArr a) 24)).alloc (.cells (hashArr b) 24)) := ((Below.refl _ _).alloc (Nat.le_refl _) _).alloc (by simp) _
  have ba0 := heap_alloc2_old w (.cells (hashArr a) 24) (.cells (hashArr b) 24)
  have bb0 := heap_alloc2_new w (.cells (hashArr a) 24) (.cells (hashArr b) 24)
  have BA := Lib.hid ba0
  have BB := Lib.hid bb0
  clear ba0 bb0
  by_cases hd : d = 32
  · have hdt : decide (d = 32) = true := by simpa using hd
    rw [hdt] at heq
    have HR : Hid (Op.bytesLess a b = false) := by
      show Op.bytesLess a b = false
      rw [H5.out]; simp; omega
    clear hd hdt
    go_enter Tryd.func22, Tryd.ntmps22
    go_wp2_with (first | (refine wpList_load_row rfl 24 (.tmp 2) rfl w.heap.size rfl 24 (hashArr a) (0, 0) _ BA.out Tryd.underlying24 rfl (hash_info _ HA.out) ?_) | (refine wpList_load_row rfl 24 (.tmp 3) rfl (w.heap.size + 1) rfl 24 (hashArr b) (0, 0) _ BB.out Tryd.underlying24 rfl (hash_info _ HB.out) ?_))
    go_ret
    exact ⟨ret_bool (by rw [HR.out]), hbl0⟩
  · have hdt : decide (d = 32) = false := by simpa using hd
    rw [hdt] at heq
    have hd' : d < 32 := by omega
    clear hd hdt
    go_enter Tryd.func22, Tryd.ntmps22
    go_wp2_with (first | (refine wpList_load_row rfl 24 (.tmp 2) rfl w.heap.size rfl 24 (hashArr a) (0, 0) _ BA.out Tryd.underlying24 rfl (hash_info _ HA.out) ?_) | (refine wpList_load_row rfl 24 (.tmp 3) rfl (w.heap.size + 1) rfl 24 (hashArr b) (0, 0) _ BB.out Tryd.underlying24 rfl (hash_info _ HB.out) ?_))
    generalize (w.alloc (.cells (hashArr a) 24)).alloc (.cells (hashArr b) 24) = W0 at *
    clear heq
    go_loopw [5] (fun i wr => ∃ k : Nat, k ≤ d ∧ i = .int .i64 k ∧ wr.heap[w.heap.size]? = some (.cells (hashArr a) 24 (0, 0)) ∧ wr.heap[w.heap.size + 1]? = some (.cells (hashArr b) 24 (0, 0)) ∧ Below w.heap.size w wr) (fun i _ => 32 - (intOf i).toNat)
    case atStart => exact ⟨0, by omega, rfl, BA.out, BB.out, hbl0⟩
    case round =>
      obtain ⟨k, hk, rfl, hra, hrb, hbw⟩ := hrel
      have hlt : k < 32 := by omega
      have ca := hash_cell HA.out hra k hlt
      have cb := hash_cell HB.out hrb k hlt
      obtain ⟨x, ex⟩ : ∃ x, (a.getD k 0).toNat = x := ⟨_, rfl⟩
      obtain ⟨y, ey⟩ : ∃ y, (b.getD k 0).toNat = y := ⟨_, rfl⟩
      rw [ex] at ca
      rw [ey] at cb
      have EX := Lib.hid ex
      have EY := Lib.hid ey
      have HRA := Lib.hid hra
      have HRB := Lib.hid hrb
      clear ex ey hra hrb
      have q1 : (0 : Int) ≤ (k : Int) := by omega
      have q2 : (k : Int) < 32 := by omega
      by_cases hkd : k < d
      · have : x = y := by have := H2.out k hkd; rw [EX.out, EY.out] at this; exact this
        subst this
        go_wp2_with fail
        go_quiet (fail)
        go_wp2_with fail
        go_roundw
        case rel => exact ⟨k + 1, by omega, by go_num, HRA.out, HRB.out, below_drewN hbw _⟩
        case measure => simp [intOf]; omega
      · have hkd' : k = d := by omega
        have hxy : ((x : Int) == (y : Int)) = false := by
          have := H3.out (by omega)
          rw [← hkd', EX.out, EY.out] at this
          simp; omega
        have HR : Hid (Op.bytesLess a b = decide ((x : Int) < (y : Int))) := by
          show Op.bytesLess a b = decide ((x : Int) < (y : Int))
          rw [H5.out, ← hkd', EX.out, EY.out, Bool.eq_iff_iff]
          simp; omega
        have HKD := Lib.hid hkd'
        clear hkd'
        go_wp2_with fail
        go_quiet (fail)
        go_wp2_with fail
        go_quiet (fail)
        go_wp2_with fail
        go_ret
        exact ⟨ret_bool (by rw [HR.out]; simp), below_drewN (below_drewN hbw _) _⟩
end Go.Proofs.YtkebipklcpplaaaDoor
