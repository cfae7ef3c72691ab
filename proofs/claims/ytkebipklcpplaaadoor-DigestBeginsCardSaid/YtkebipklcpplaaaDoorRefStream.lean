/- The contracts of the reference's decimal and Stream. -/
import Derived.Test.YtkebipklcpplaaaDoorStream
import Derived.Test.YtkebipklcpplaaaDoorLengthsWalk
import Derived.Test.YtkebipklcpplaaaDoorRefText
namespace Go.Proofs.YtkebipklcpplaaaDoor
open Go.RowKit Go.Sort
set_option linter.unusedVariables false
theorem flat_get (f : Nat → List UInt8) (hf : ∀ k, (f k).length = 32) : ∀ (M j : Nat), j < 32 * M → ((List.range M).flatMap f)[j]? = (f (j / 32))[j % 32]? := by
  intro M
  induction M with
  | zero => intro j hj; omega
  | succ M ih =>
    intro j hj
    have hl : ((List.range M).flatMap f).length = 32 * M := by
      clear ih hj
      induction M with
      | zero => rfl
      | succ M ih => rw [List.range_succ, List.flatMap_append, List.length_append, ih]; simp [hf]; omega
    rw [List.range_succ, List.flatMap_append, List.getElem?_append, hl]
    by_cases h : j < 32 * M
    · rw [if_pos h]; exact ih j h
    · rw [if_neg h, List.flatMap_cons, List.flatMap_nil, List.append_nil, show j / 32 = M by omega, show j % 32 = j - 32 * M by omega]
def Sha.strm (x : List UInt8) (j : Nat) : UInt8 := (Sha.blk x (j / 32)).getD (j % 32) 0
theorem Sha.stream_is (x : List UInt8) (n : Nat) : Sha.stream x n = (List.range n).map (Sha.strm x) := by
  apply List.ext_getElem?
  intro j
  unfold Sha.stream
  rw [List.getElem?_take, List.getElem?_map]
  by_cases hj : j < n
  · rw [if_pos hj, List.getElem?_range hj, flat_get (Sha.blk x) (fun k => Sha.sum_length _) ((n + 31) / 32) j (by omega)]
    show _ = some (Sha.strm x j)
    unfold Sha.strm
    rw [List.getD_eq_getElem?_getD, List.getElem?_eq_getElem (show j % 32 < (Sha.blk x (j / 32)).length by rw [show (Sha.blk x (j / 32)).length = 32 from Sha.sum_length _]; omega)]
    rfl
  · rw [if_neg hj, List.getElem?_eq_none (by simp; omega)]; rfl
theorem digit_cut (k : Nat) (hk : k < 10) : (⟨#[48, 49, 50, 51, 52, 53, 54, 55, 56, 57]⟩ : ByteArray).extract k (k + 1) = ⟨#[UInt8.ofNat (48 + k)]⟩ := by
  have : k = 0 ∨ k = 1 ∨ k = 2 ∨ k = 3 ∨ k = 4 ∨ k = 5 ∨ k = 6 ∨ k = 7 ∨ k = 8 ∨ k = 9 := by omega
  rcases this with rfl | rfl | rfl | rfl | rfl | rfl | rfl | rfl | rfl | rfl <;> rfl
set_option maxHeartbeats 1000000 in
set_option maxRecDepth 100000 in
theorem rdecimal_one (k : Nat) (hk : k < 10) (w : World) : Calls Tryd.prog 44 #[.int .i64 (k : Int)] w fun e w' => e = .returned (.string ⟨(Lib.decDigits k).toArray⟩) ∧ Below w.heap.size w w' := by
  have d1 : decide ((k : Int) < 10) = true := by simp; omega
  have q1 : IntKind.i64.wrap ((k : Int) + 1) = (k : Int) + 1 := IntWalk.i64_in _ (by omega)
  have e : (⟨(Lib.decDigits k).toArray⟩ : ByteArray) = (⟨#[48, 49, 50, 51, 52, 53, 54, 55, 56, 57]⟩ : ByteArray).extract k (k + 1) := by rw [digit_cut k hk, Lib.decDigits, dif_pos hk]
  have E := Lib.hid e
  have r1 : (0 : Int) ≤ (k : Int) := by omega
  have r2 : (k : Int) ≤ (k : Int) + 1 := by omega
  have r3 : (k : Int) + 1 ≤ 10 := by omega
  have r4 : (k : Int).toNat = k := by omega
  have r5 : ((k : Int) + 1).toNat = k + 1 := by omega
  clear e
  go_enter Tryd.func44, Tryd.ntmps44
  go_wp2_with fail
  go_ret
  exact ⟨by rw [E.out]; rfl, Below.refl _ _⟩
set_option maxHeartbeats 1000000 in
set_option maxRecDepth 100000 in
theorem rdecimal_any (k : Nat) (hk : k < 100) (w : World) : Calls Tryd.prog 44 #[.int .i64 (k : Int)] w fun e w' => e = .returned (.string ⟨(Lib.decDigits k).toArray⟩) ∧ Below w.heap.size w w' := by
  by_cases h10 : k < 10
  · exact rdecimal_one k h10 w
  · have d1 : decide ((k : Int) < 10) = false := by simp; omega
    obtain ⟨a, ea⟩ : ∃ a, k / 10 = a := ⟨_, rfl⟩
    obtain ⟨b, eb⟩ : ∃ b, k % 10 = b := ⟨_, rfl⟩
    have q1 : Int.tdiv (k : Int) 10 = (a : Int) := by rw [Int.tdiv_eq_ediv_of_nonneg (by omega)]; omega
    have q2 : Int.tmod (k : Int) 10 = (b : Int) := by rw [Int.tmod_eq_emod_of_nonneg (by omega)]; omega
    have q3 : IntKind.i64.wrap (a : Int) = (a : Int) := IntWalk.i64_in _ (by omega)
    have q4 : IntKind.i64.wrap (b : Int) = (b : Int) := IntWalk.i64_in _ (by omega)
    have q5 : IntKind.i64.wrap ((b : Int) + 1) = (b : Int) + 1 := IntWalk.i64_in _ (by omega)
    have r1 : (0 : Int) ≤ (b : Int) := by omega
    have r2 : (b : Int) ≤ (b : Int) + 1 := by omega
    have r3 : (b : Int) + 1 ≤ 10 := by omega
    have r4 : (b : Int).toNat = b := by omega
    have r5 : ((b : Int) + 1).toNat = b + 1 := by omega
    have CA : Hid (∀ V, Calls Tryd.prog 44 #[.int .i64 (a : Int)] V fun e w' => e = .returned (.string ⟨(Lib.decDigits a).toArray⟩) ∧ Below V.heap.size V w') := fun V => rdecimal_one a (by omega) V
    obtain ⟨x, ex⟩ : ∃ x, (⟨(Lib.decDigits a).toArray⟩ : ByteArray) = x := ⟨_, rfl⟩
    rw [ex] at CA
    have zx : x.size ≤ 2 := by rw [← ex]; have := dec_small a (by omega); simpa [ByteArray.size] using this
    obtain ⟨y, ey⟩ : ∃ y, (⟨#[48, 49, 50, 51, 52, 53, 54, 55, 56, 57]⟩ : ByteArray).extract b (b + 1) = y := ⟨_, rfl⟩
    have zy : y.size = 1 := by rw [← ey, digit_cut b (by omega)]; rfl
    have E : Hid ((⟨(Lib.decDigits k).toArray⟩ : ByteArray) = x ++ y) := by
      show _ = _
      rw [← ex, ← ey, digit_cut b (by omega), Lib.decDigits, dif_neg h10, ea, eb]
      ext1
      simp
    have n1 : ¬ 9223372036854775807 < x.size + y.size := by omega
    clear ea eb ex zx zy h10
    go_enter Tryd.func44, Tryd.ntmps44
    go_wp2_with fail
    refine wp_region_quiet_below (by kernel_rfl) (by kernel_rfl) ?_
    repeat (go_big_quiet_step (with_reducible exact Calls.regrown_of (CA.out _)))
    refine wpQuiet_nil ?_
    intro _ hw'
    obtain ⟨⟨dq, osq⟩, hw''⟩ := hw'
    subst hw''
    have BQ := Lib.hid (below_regrown w dq osq)
    go_wp2_with fail
    go_ret
    exact ⟨by rw [E.out]; rfl, BQ.out⟩
theorem rowIs_heap {W W' : World} {b n : Nat} {t : TypeId} {f : Nat → Value} (h : W.rowIs b t n f) (e : W'.heap[b]? = W.heap[b]?) : W'.rowIs b t n f := by
  obtain ⟨cs, h1, h2⟩ := h
  exact ⟨cs, e.trans h1, h2⟩
/-- the memory of a call of the reference's Stream -/
def StrMem (x : List UInt8) (n k : Nat) (w wr : World) : Prop :=
  wr.rowIs w.heap.size 5 n (fun j => .int .u8 ((if j < k then (Sha.strm x j).toNat else 0 : Nat) : Nat)) ∧
  (∃ cur : List UInt8, cur.length = 32 ∧ wr.heap[w.heap.size + 1]? = some (.cells (hashArr cur) 24 (0, 0)) ∧ (k % 32 ≠ 0 → cur = Sha.blk x (k / 32))) ∧ Below w.heap.size w wr
abbrev zeroRow : Array Value := #[.int .u8 0, .int .u8 0, .int .u8 0, .int .u8 0, .int .u8 0, .int .u8 0, .int .u8 0, .int .u8 0, .int .u8 0, .int .u8 0, .int .u8 0, .int .u8 0, .int .u8 0, .int .u8 0, .int .u8 0, .int .u8 0, .int .u8 0, .int .u8 0, .int .u8 0, .int .u8 0, .int .u8 0, .int .u8 0, .int .u8 0, .int .u8 0, .int .u8 0, .int .u8 0, .int .u8 0, .int .u8 0, .int .u8 0, .int .u8 0, .int .u8 0, .int .u8 0]
theorem zero_row : hashArr (List.replicate 32 0) = zeroRow := by kernel_rfl
theorem str_made (x : List UInt8) (n : Nat) (w : World) : StrMem x n 0 w ((w.alloc (.cells (madeCells #[.int .u8 0] n) 5)).alloc (.cells (hashArr (List.replicate 32 0)) 24)) := by
  refine ⟨rowIs_heap (World.rowIs_made w (.int .u8 0) n 5) ?_, ⟨List.replicate 32 0, by simp, ?_, fun h => absurd rfl h⟩, ((Below.refl _ _).alloc (Nat.le_refl _) _).alloc (by simp) _⟩
  · exact Below.heap_alloc _ _ _ (by simp)
  · have := heap_alloc_new (w.alloc (.cells (madeCells #[.int .u8 0] n) 5)) (.cells (hashArr (List.replicate 32 0)) 24)
    rwa [World.size_alloc] at this
theorem StrMem.below {x : List UInt8} {n k : Nat} {w wr w1 : World} (h : StrMem x n k w wr) (hb : Below wr.heap.size wr w1) : StrMem x n k w w1 := by
  obtain ⟨h1, ⟨cur, h2, h3, h4⟩, h5⟩ := h
  refine ⟨rowIs_heap h1 ?_, ⟨cur, h2, heap_below h3 hb, h4⟩, h5.trans (hb.mono h5.size)⟩
  obtain ⟨cs, e, _⟩ := h1
  exact (heap_below e hb).trans e.symm
/-- .. when the next block has been laid -/
theorem StrMem.next {x : List UInt8} {n k : Nat} {w wr : World} (h : StrMem x n k w wr) (hk : k % 32 = 0) : ∃ cur : List UInt8, cur.length = 32 ∧ wr.heap[w.heap.size + 1]? = some (.cells (hashArr cur) 24 (0, 0)) := by
  obtain ⟨_, ⟨cur, h2, h3, _⟩, _⟩ := h
  exact ⟨cur, h2, h3⟩
theorem hash_cell' {w : World} {b : Nat} {l : List UInt8} {t : TypeId} {fr : Nat × Nat} (hl : l.length = 32) (h : w.heap[b]? = some (.cells (hashArr l) t fr)) (j : Nat) (hj : j < 32) : w.cell? ⟨b, j, none⟩ = some (.int .u8 ((l.getD j 0).toNat : Int)) := by
  rw [cell_of_row _ _ _ _ _ _ h, hashArr, List.getElem?_toArray, List.getElem?_map, List.getD_eq_getElem?_getD, List.getElem?_eq_getElem (show j < l.length by omega)]
  rfl
theorem StrMem.put {x : List UInt8} {n k a b : Nat} {w wr : World} (hr : wr.rowIs w.heap.size 5 n (fun j => .int .u8 ((if j < k then (Sha.strm x j).toNat else 0 : Nat) : Nat))) (hc : wr.heap[w.heap.size + 1]? = some (.cells (hashArr (Sha.blk x a)) 24 (0, 0))) (hb : Below w.heap.size w wr) (ea : k / 32 = a) (eb : k % 32 = b) :
    StrMem x n (k + 1) w (wr.setCell ⟨w.heap.size, k, none⟩ (.int .u8 (((Sha.blk x a).getD b 0).toNat : Int))) := by
  refine ⟨(hr.set k _).congr fun j hj => ?_, ⟨Sha.blk x a, Sha.sum_length _, ?_, fun h => ?_⟩, hb.setCell (p := ⟨w.heap.size, k, none⟩) (Nat.le_refl _) _⟩
  · by_cases e : j = k
    · subst e
      simp only [if_pos, Nat.lt_succ_self]
      unfold Sha.strm
      rw [ea, eb]
    · simp only [if_neg e]
      by_cases h : j < k
      · rw [if_pos h, if_pos (by omega)]
      · rw [if_neg h, if_neg (by omega)]
  · rw [heap_setCell_other _ _ _ _ (by show w.heap.size + 1 ≠ w.heap.size; omega)]; exact hc
  · rw [show (k + 1) / 32 = a by omega]
set_option maxHeartbeats 2000000 in
set_option maxRecDepth 100000 in
theorem rstream_any (x : ByteArray) (n : Nat) (w : World) (hx : x.size ≤ 1000) (h1 : 1 ≤ n) (hn : n ≤ 400) :
    Calls Tryd.prog 27 #[.string x, .int .i64 (n : Int)] w fun e w' => e = .returned (.string ⟨(Sha.stream x.data.toList n).toArray⟩) ∧ Below w.heap.size w w' := by
  obtain ⟨i0, hi, hz0, hz1, hz2⟩ := info_parts byte_info
  have hmk : ∀ u : World, (Instr.makeSlice 33 (.int .i64 (n : Int)) (.int .i64 (n : Int))).run Tryd.prog u =
      .ok (.slice (some ⟨u.heap.size, 0, none⟩) n n) (u.alloc (.cells (madeCells #[.int .u8 0] n) 5)) := fun u => by
    have h := run_make (P := Tryd.prog) u 33 5 i0 (.int .u8 0) Tryd.underlying33 hi hz0 .i64 .i64 (n : Int) (n : Int) (by omega) (Int.le_refl _) (by rw [hz2]; omega) (by omega)
    rw [Int.toNat_natCast] at h
    simpa [hz1, Value.cells] using h
  clear hi hz0 hz1 hz2
  have d1 : decide ((n : Int) < 1) = false := by simp; omega
  have d2 : decide ((1048576 : Int) < (n : Int)) = false := by simp; omega
  have M0 := str_made x.data.toList n w
  go_enter Tryd.func27, Tryd.ntmps27
  go_wp2_with fail
  rw [zero_row] at M0
  generalize (w.alloc (.cells (madeCells #[.int .u8 0] n) 5)).alloc (.cells zeroRow 24) = W0 at *
  clear hmk
  go_loopw [7] (fun i wr => ∃ k : Nat, k ≤ n ∧ i = .int .i64 k ∧ StrMem x.data.toList n k w wr) (fun i _ => n - (intOf i).toNat)
  case atStart => exact ⟨0, by omega, rfl, M0⟩
  case round =>
    obtain ⟨k, hk, rfl, hm⟩ := hrel
    clear M0
    by_cases hlt : k < n
    · have hd : decide ((k : Int) < (n : Int)) = true := by simp; omega
      obtain ⟨a, ea⟩ : ∃ a, k / 32 = a := ⟨_, rfl⟩
      obtain ⟨b, eb⟩ : ∃ b, k % 32 = b := ⟨_, rfl⟩
      have q1 : Int.tdiv (k : Int) 32 = (a : Int) := by rw [Int.tdiv_eq_ediv_of_nonneg (by omega)]; omega
      have q2 : Int.tmod (k : Int) 32 = (b : Int) := by rw [Int.tmod_eq_emod_of_nonneg (by omega)]; omega
      have q3 : IntKind.i64.wrap (a : Int) = (a : Int) := IntWalk.i64_in _ (by omega)
      have q4 : IntKind.i64.wrap (b : Int) = (b : Int) := IntWalk.i64_in _ (by omega)
      have r1 : (0 : Int) ≤ (b : Int) := by omega
      have r2 : (b : Int) < 32 := by omega
      have r4 : (b : Int).toNat = b := by omega
      have t1 : (0 : Int) ≤ (k : Int) := by omega
      have t2 : (k : Int) < (n : Int) := by omega
      have t4 : (k : Int).toNat = k := by omega
      have EA := Lib.hid ea
      have EB := Lib.hid eb
      have HK := Lib.hid hk
      clear ea eb hk
      by_cases hz : b = 0
      · have hb0 : ((b : Int) == 0) = true := by simp; exact hz
        have dz := dec_small a (by have := EA.out; omega)
        obtain ⟨ds, eds⟩ : ∃ s : ByteArray, (⟨(Lib.decDigits a).toArray⟩ : ByteArray) = s := ⟨_, rfl⟩
        have zd : ds.size ≤ 2 := by rw [← eds]; simpa [ByteArray.size] using dz
        have zone : (⟨#[47]⟩ : ByteArray).size = 1 := rfl
        obtain ⟨x1, ex1⟩ : ∃ s : ByteArray, x ++ (⟨#[47]⟩ : ByteArray) = s := ⟨_, rfl⟩
        have z1 : x1.size = x.size + 1 := by rw [← ex1, ByteArray.size_append, zone]
        obtain ⟨x2, ex2⟩ : ∃ s : ByteArray, x1 ++ ds = s := ⟨_, rfl⟩
        have z2 : x2.size ≤ 2000 := by rw [← ex2, ByteArray.size_append]; omega
        have BK : Hid (Sha.sum x2.data.toList = Sha.blk x.data.toList a) := by
          show _ = _
          rw [← ex2, ← ex1, ← eds, Sha.blk]
          congr 1
          simp
        have n1 : ¬ 9223372036854775807 < x.size + 1 := by omega
        have n2 : ¬ 9223372036854775807 < x1.size + ds.size := by omega
        have CI := Lib.hid (fun V => rdecimal_any a (by have := EA.out; omega) V)
        rw [eds] at CI
        have CS := Lib.hid (fun V => rsum_any x2 V (by omega))
        rw [BK.out] at CS
        have LB : Hid ((Sha.blk x.data.toList a).length = 32) := Sha.sum_length _
        have HM := Lib.hid hm
        clear dz eds zd z1 z2 zone hm hz
        go_wp2_with fail
        refine (CI.out _).mono ?_
        rintro e w1 ⟨rfl, hb1⟩
        have M1 := Lib.hid (HM.out.below hb1)
        clear hb1 HM
        go_wp2_with fail
        refine (CS.out _).mono ?_
        rintro e w2 ⟨rfl, hb2⟩
        obtain ⟨hr, ⟨cur, lc, hc, _⟩, hbw⟩ := M1.out.below hb2
        have HC := Lib.hid hc
        have LC := Lib.hid lc
        have hr2 := rowIs_heap hr (setRow_other w2 (w.heap.size + 1) w.heap.size (hashArr (Sha.blk x.data.toList a)) (by omega))
        have hrow := setRow_heap w2 (w.heap.size + 1) _ (hashArr (Sha.blk x.data.toList a)) _ _ hc
        have hbw2 := below_setRow hbw (show w.heap.size ≤ w.heap.size + 1 by omega) (hashArr (Sha.blk x.data.toList a))
        have c1 := hash_cell' LB.out hrow b (by omega)
        have c0 := hr2.cell (i := k) hlt
        have f0 := hr2.frozen k
        have MN := Lib.hid (StrMem.put hr2 hrow hbw2 EA.out EB.out)
        clear hr hc hbw hr2 hrow hbw2 lc hb2 M1
        go_wp2_with (refine wpList_store_row rfl 24 (.tmp 6) (.tmp 30) rfl (w.heap.size + 1) (hashArr (Sha.blk x.data.toList a)) rfl rfl 24 _ HC.out (hash_info _ LB.out) (by rw [hashArr_size, hashArr_size, LB.out, LC.out]) (hashArr_one _) ?_)
        go_roundw
        case rel => exact ⟨k + 1, by omega, by go_num, MN.out⟩
        case measure => simp [intOf]; omega
      · have hb0 : ((b : Int) == 0) = false := by simp; exact hz
        obtain ⟨hr, ⟨cur, lc, hc, hcb⟩, hbw⟩ := hm
        have ecur := hcb (by rw [EB.out]; exact hz)
        rw [EA.out] at ecur
        subst ecur
        have c1 := hash_cell' lc hc b (by omega)
        have c0 := hr.cell (i := k) hlt
        have f0 := hr.frozen k
        have MN := Lib.hid (StrMem.put hr hc hbw EA.out EB.out)
        clear hr hc hbw lc hcb
        go_wp2_with fail
        go_roundw
        case rel => exact ⟨k + 1, by omega, by go_num, MN.out⟩
        case measure => simp [intOf]; omega
    · have hd : decide ((k : Int) < (n : Int)) = false := by simp; omega
      obtain rfl : k = n := by omega
      obtain ⟨hr, _, hbw⟩ := hm
      obtain ⟨s, es⟩ : ∃ s : ByteArray, (⟨((List.range k).map fun i => UInt8.ofNat (if i < k then (Sha.strm x.data.toList i).toNat else 0)).toArray⟩ : ByteArray) = s := ⟨_, rfl⟩
      have hcv : Sem.run Tryd.prog (convert 33 9 (Value.slice (some ⟨w.heap.size, 0, none⟩) k k)) wr = Result.ok (.string s) wr := by
        rw [← es]
        exact conv_row (P := Tryd.prog) (T := 5) (c := k) Tryd.underlying33 Tryd.underlying5 Tryd.underlying9 (fun i hi => hr.cell (i := i) (n := k) hi)
      have ES : Hid (s = ⟨(Sha.stream x.data.toList k).toArray⟩) := by
        show _ = _
        rw [← es, Sha.stream_is]
        congr 2
        apply List.map_congr_left
        intro i hi
        rw [if_pos (List.mem_range.1 hi)]; simp
      have HB := Lib.hid hbw
      clear es hr hbw hk
      go_wp2_with fail
      go_ret
      exact ⟨by rw [← ES.out]; rfl, HB.out⟩
end Go.Proofs.YtkebipklcpplaaaDoor
