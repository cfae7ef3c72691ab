/- Contracts of the reference's Draw, Output, Kiosks. The contract of the reference's Kiosks. The contract of the reference's SameReceipts. The contract of the law's chain. Sales by numbers as rows in memory; what the reference's Sales keeps between its rounds. -/
import Derived.Test.YtpblfpnldbdncaaGreatDoorG14
import Derived.Test.YtpblfpnldbdncaaGreatDoorG15
import Derived.Test.YtpblfpnldbdncaaGreatDoorG02
namespace Go.Proofs.YtpblfpnldbdncaaGreatDoor
open Go.RowKit Go.Sort Go.Maps
open Sg (Rc)
open Mg (Mst Jd)
set_option linter.unusedVariables false
set_option maxRecDepth 100000
theorem wpList_build_v {P : Program} {ops : Array Oper} {rest : List Oper} {o : Oper} {a : Act} {w : World} {Q : Exit → Act → World → Prop} (hg : o.guard = none) (t : TypeId) (parts : Array (Nat × Operand)) (ho : o.op = .build t parts) (vals : Array (Nat × Value)) (hv : parts.map (fun (x : Nat × Operand) => (x.1, a.eval x.2)) = vals) (v : Value)
    (hl : (Instr.build t vals).run P w = .ok v w) (h : wpList P ops Q rest (a.put o.dst v) w) : wpList P ops Q (o :: rest) a w :=
  wpList_plain hg fun K hK => by
    unfold Oper.wp execOp
    simp only [ho, Sem.run_bind, Sem.run_pure]
    rw [show (parts.map fun x => (x.1, a.eval x.2)) = vals from hv, hl]
    exact hK _ _ h
set_option maxHeartbeats 1000000 in
theorem rmod_any (n m : Nat) (w : World) (hn : n < 4611686018427387904) (h1 : 1 ≤ m) (h2 : m ≤ 100000) :
    Calls Tryz.prog 52 #[.int .i64 (n : Int), .int .i64 (m : Int)] w fun e w' => e = .returned (.int .i64 ((n % m : Nat) : Int)) ∧ w = w' := by
  have hd : ((m : Int) == 0) = false := by simp; omega
  have e1 : (n : Int) % (m : Int) = ((n % m : Nat) : Int) := by omega
  have e2 : (n : Int).tmod (m : Int) = ((n % m : Nat) : Int) := by rw [Int.tmod_eq_emod_of_nonneg (by omega)]; exact e1
  have hr : n % m < m := Nat.mod_lt _ (by omega)
  obtain ⟨r, hr'⟩ : ∃ r, n % m = r := ⟨_, rfl⟩
  rw [hr'] at e1 e2 hr ⊢
  have e3 := Lib.hid (show ((r : Int) + (m : Int)) % (m : Int) = (r : Int) by rw [Int.add_emod_right]; exact Int.emod_eq_of_lt (by omega) (by omega))
  clear hr'
  go_enter Tryz.func52, Tryz.ntmps52
  go_wp2_with fail
  go_ret
  exact ⟨ret_int e3.out, rfl⟩
theorem drawName_lt (n : Nat) : drawName n = drawName (n % 3) := by unfold drawName; rw [Nat.mod_mod]
set_option maxHeartbeats 1000000 in
theorem draw_any (n : Nat) (w : World) (hn : n < 1000000) :
    Calls Tryz.prog 22 #[.int .i64 (n : Int)] w fun e w' => e = .returned (.string (bstr (drawName n))) ∧ Below w.heap.size w w' := by
  have hr : n % 3 < 3 := Nat.mod_lt _ (by omega)
  have CM := Lib.hid (fun W => rmod_any n 3 W (by omega) (by omega) (by omega))
  have hw : Below w.heap.size w (w.alloc (.cells #[.string ⟨#[77, 97, 121]⟩, .string ⟨#[74, 117, 110, 101]⟩, .string ⟨#[97, 32, 98]⟩] 9)) := (Below.refl _ _).alloc (Nat.le_refl _) _
  have RW := heap_alloc_new w (.cells #[.string ⟨#[77, 97, 121]⟩, .string ⟨#[74, 117, 110, 101]⟩, .string ⟨#[97, 32, 98]⟩] 9)
  have HB := Lib.hid hw
  have k0 := (cell_of_row _ _ 0 _ _ _ RW).trans rfl
  have k1 := (cell_of_row _ _ 1 _ _ _ RW).trans rfl
  have k2 := (cell_of_row _ _ 2 _ _ _ RW).trans rfl
  have ed := Lib.hid (drawName_lt n)
  obtain ⟨r, hr'⟩ : ∃ r, n % 3 = r := ⟨_, rfl⟩
  rw [hr'] at CM hr ed
  clear hr' hw RW
  have hc : r = 0 ∨ r = 1 ∨ r = 2 := by omega
  rcases hc with rfl | rfl | rfl
  all_goals
    go_enter Tryz.func22, Tryz.ntmps22
    go_wp2_with fail
    refine (CM.out _).mono ?_
    rintro e w' ⟨rfl, rfl⟩
    go_wp2_with fail
    go_ret
    exact ⟨by rw [ed.out]; rfl, HB.out⟩
/-! outputs -/
def ot0 : Ot := ⟨0, 0, ⟨#[]⟩, Mg.zeroH, Mg.zeroH⟩
theorem ot0_ok : OtOk ot0 := ⟨by decide, by decide, by decide, zeroH_length, zeroH_length⟩
theorem otArr_size {o : Ot} (h : OtOk o) : (otArr o).size = 67 := by rw [otArr, List.size_toArray, otList_length h]
theorem otArr_one (o : Ot) : (otArr o).all (·.oneCell') = true := by
  rw [Array.all_eq_true_iff_forall_mem]
  intro v hv
  have : v ∈ otList o := by simpa [otArr] using hv
  rcases List.mem_append.1 this with h | h
  · simp only [List.mem_cons, List.not_mem_nil, or_false] at h
    rcases h with rfl | rfl | rfl <;> rfl
  · rcases List.mem_append.1 h with h | h <;> exact hcl_one _ v h
theorem ot_infos : (Tryz.prog.info? 42).map (fun i => (i.zero, i.size, i.bytes)) = some (some (.agg (otArr ot0)), 67, 96) := by kernel_rfl
theorem ot_info {o : Ot} (h : OtOk o) : (Tryz.prog.info? 42).map (·.size) = some (otArr o).size := by rw [otArr_size h]; kernel_rfl
theorem wp_alloc_ot {d : Option Tmp} {ty : TypeId} {pos : String} {after : Array Edge} {gd : Option (Nat × Bool)} {a : Act} {w : World} {K : Act → World → Prop} {Q : Exit → Act → World → Prop} :
    Oper.wp Tryz.prog ⟨d, .alloc 42, ty, pos, after, gd⟩ a w K Q = K (a.put d (.pointer (some ⟨w.heap.size, 0, none⟩))) (w.alloc (.cells (otArr ot0) 42)) := by
  obtain ⟨i0, hi, hz0, hz1, hz2⟩ := info_parts ot_infos
  unfold Oper.wp execOp
  simp [Instr.alloc, newVar, zeroValue, typeInfo, hi, hz0, go_sem]
  try rfl
/-- the output of a round -/
def otOf (n : Int) (h : List UInt8) : Ot := ⟨n, 0, ⟨#[]⟩, Mg.zeroH, h⟩
theorem otOf_ok {n : Int} {h : List UInt8} (hn : I64 n) (hl : h.length = 32) : OtOk (otOf n h) := ⟨hn, by show I64 0; decide, by show (⟨#[]⟩ : ByteArray).size ≤ maxLen; decide, zeroH_length, hl⟩
theorem run_build_ot (n : Int) {h : List UInt8} (hl : h.length = 32) (w : World) : (Instr.build 42 #[(0, .int .i64 n), (4, .agg (hashArr h))]).run Tryz.prog w = .ok (.agg (otArr (otOf n h))) w := by
  obtain ⟨i0, hi, hz0, hz1, hz2⟩ := info_parts ot_infos
  have l0 : ∀ (x : Value), ([x, Value.int .i64 0, Value.string ⟨#[]⟩] ++ (hcl Mg.zeroH ++ hcl Mg.zeroH)).length = 67 := by
    intro x
    simp only [List.length_append, hcl_length, zeroH_length, List.length_cons, List.length_nil]
  have hf : Instr.fill (fun i => ([(0, 1), (1, 1), (2, 1), (3, 32), (35, 32)] : List (Nat × Nat))[i]?) (otArr ot0) [(0, .int .i64 n), (4, .agg (hashArr h))] = some (otArr (otOf n h)) := by
    refine Eq.trans (fill_step _ _ 0 0 1 _ _ ?_ ?_ ?_) ?_
    · rfl
    · exact rfl
    · exact (by rw [otArr_size ot0_ok]; omega)
    rw [show putCells (otArr ot0) 0 (Value.int .i64 n).cells.toList = ([Value.int .i64 n, Value.int .i64 0, Value.string ⟨#[]⟩] ++ (hcl Mg.zeroH ++ hcl Mg.zeroH)).toArray from rfl]
    refine Eq.trans (fill_step _ _ 4 35 32 _ _ ?_ ?_ ?_) ?_
    · rfl
    · exact (by show (hashArr h).size = 32; rw [hashArr_size, hl])
    · exact (by rw [List.size_toArray, l0]; omega)
    rw [show (Value.agg (hashArr h)).cells.toList = hcl h from hashArr_list h]
    have := putCells_mid ([Value.int .i64 n, Value.int .i64 0, Value.string ⟨#[]⟩] ++ hcl Mg.zeroH) (hcl Mg.zeroH) [] (hcl h) (by rw [hcl_length, hcl_length, hl, zeroH_length]) 35 (by simp only [List.length_append, hcl_length, zeroH_length, List.length_cons, List.length_nil])
    simp only [List.append_assoc, List.append_nil] at this
    rw [this]
    rfl
  simp [Instr.build, zeroValue, typeInfo, hi, hz0, run_underlying Tryz.underlying42, Tryz.sizeOf3, Tryz.sizeOf40, Tryz.sizeOf27, Result.andThen, Value.cells, hf]
theorem outText_len {n : Int} (h : I64 n) : (outText n).length ≤ 40 := by
  have := itoa_size h
  simp only [outText, List.length_append, List.length_cons, List.length_nil]
  omega
theorem outHash_len (n : Int) : (outHash n).length = 32 := Sha.sum_length _
section
attribute [local go_sem ↓] wp_alloc_ot
set_option maxHeartbeats 2000000 in
theorem output_any (n : Int) (hn : Sm n) (w : World) :
    Calls Tryz.prog 17 #[.int .i64 n] w fun e w' => e = .returned (.agg (otArr (otOf n (outHash n)))) ∧ Below w.heap.size w w' := by
  have hI : I64 n := ⟨by have := hn.1; omega, by have := hn.2; omega⟩
  have CD := Lib.hid (fun W => decimal_any n W hn)
  have hl := outText_len hI
  have ES : Hid ((⟨#[111, 117, 116, 112, 117, 116, 32]⟩ : ByteArray) ++ bstr (Lib.itoa n) = bstr (outText n)) := by
    apply ByteArray.ext
    simp [bstr, ByteArray.data_append, outText]
  obtain ⟨x, hx⟩ : ∃ x, bstr (Lib.itoa n) = x := ⟨_, rfl⟩
  have SX : x.size ≤ 40 := by
    rw [← hx, bstr_size]
    simp only [outText, List.length_append, List.length_cons, List.length_nil] at hl
    omega
  rw [hx] at CD ES
  obtain ⟨h, hh⟩ : ∃ h, outHash n = h := ⟨_, rfl⟩
  have HL := Lib.hid (show h.length = 32 by rw [← hh]; exact outHash_len n)
  have CS := Lib.hid (fun W => rsum_is (bstr (outText n)) h W (by rw [bstr_size]; omega) hh)
  rw [← ES.out] at CS
  rw [hh]
  have BO := Lib.hid (fun W => run_build_ot n HL.out W)
  have OK := Lib.hid (otOf_ok hI HL.out)
  obtain ⟨V, hV⟩ : ∃ V, otArr (otOf n h) = V := ⟨_, rfl⟩
  have VI := ot_info OK.out
  have VO := otArr_one (otOf n h)
  have VS := otArr_size OK.out
  rw [hV] at BO VI VO VS ⊢
  have VI := Lib.hid VI
  have VO := Lib.hid VO
  have VS := Lib.hid (show (otArr ot0).size = V.size by rw [VS, otArr_size ot0_ok])
  have RO := Lib.hid (heap_alloc_new w (.cells (otArr ot0) 42))
  have HB := Lib.hid (show Below w.heap.size w (w.alloc (.cells (otArr ot0) 42)) from (Below.refl _ _).alloc (Nat.le_refl _) _)
  clear hV hx hh hn hI
  go_enter Tryz.func17, Tryz.ntmps17
  go_wp2_with fail
  refine (CD.out _).mono ?_
  rintro e w1 ⟨rfl, hb1⟩
  go_wp2_with fail
  refine (CS.out _).mono ?_
  rintro e w2 ⟨rfl, hb2⟩
  have B2 := Lib.hid (below_join hb1 hb2)
  have R2 := Lib.hid (heap_below RO.out B2.out)
  have HB2 := Lib.hid (HB.out.trans (B2.out.mono HB.out.size))
  clear hb1 hb2
  go_wp2_with (first
    | (refine wpList_build_v rfl 42 #[(0, .tmp 3), (4, .tmp 7)] rfl #[(0, .int .i64 n), (4, .agg (hashArr h))] (by simp only [List.map_toArray, List.map_cons, List.map_nil]; rfl) _ (BO.out _) ?_)
    | (refine wpList_store_row rfl 42 (.tmp 2) (.tmp 8) rfl w.heap.size V rfl rfl 42 _ R2.out VI.out VS.out VO.out ?_))
  refine bodyPost_ret (v := .agg V) (results_cell_row Tryz.results17 _ _ w.heap.size 42 V (0, 0) _ rfl (setRow_heap _ _ _ _ _ _ R2.out) Tryz.underlying42 rfl VI.out) rfl ⟨rfl, ?_⟩
  exact below_setRow HB2.out (Nat.le_refl _) _
end
end Go.Proofs.YtpblfpnldbdncaaGreatDoor
namespace Go.Proofs.YtpblfpnldbdncaaGreatDoor
open Go.RowKit Go.Sort Go.Maps
open Sg (Rc)
open Mg (Mst Jd)
set_option linter.unusedVariables false
set_option maxRecDepth 100000
/-- the public number of a kiosk -/
def pubK (k : Nat) : Nat := pubN 2305843009213691579 k
theorem pubK_lt (k : Nat) : pubK k < 2305843009213691579 := Nat.mod_lt _ (by omega)
def mbOf (k : Nat) : Mb := ⟨(k : Int), 0, (pubK k : Int)⟩
theorem mbOf_ok {k : Nat} (h : k ≤ 1000) : MbOk (mbOf k) := by
  have := pubK_lt k
  refine ⟨?_, ?_, ?_⟩
  · show -9223372036854775808 ≤ (k : Int) ∧ (k : Int) ≤ 9223372036854775807
    omega
  · show I64 0
    decide
  · show -9223372036854775808 ≤ ((pubK k : Nat) : Int) ∧ ((pubK k : Nat) : Int) ≤ 9223372036854775807
    omega
def kioskL (n j : Nat) : List Mb := (List.range j).map fun i => mbOf (n - i)
theorem kioskL_snoc (n j : Nat) : kioskL n (j + 1) = kioskL n j ++ [mbOf (n - j)] := by
  unfold kioskL
  rw [List.range_succ, List.map_append]
  rfl
def mbTwo : Mb := ⟨2, 0, 1⟩
theorem mbTwo_ok : MbOk mbTwo := ⟨by show I64 2; decide, by show I64 0; decide, by show I64 1; decide⟩
def kiosksL (n : Nat) : List Mb := kioskL n n ++ [mbTwo]
set_option maxHeartbeats 2000000 in
theorem kiosks_any (n : Nat) (hn : n ≤ 10) (w : World) :
    Calls Tryz.prog 15 #[.int .i64 (n : Int)] w fun e w' => ∃ v, e = .returned v ∧ OwnsR memK w' w.heap.size v (kiosksL n) ∧ Below w.heap.size w w' := by
  go_enter Tryz.func15, Tryz.ntmps15
  go_wp2_with fail
  go_loopw [3, 4] (fun v3 v4 wx => ∃ j : Nat, j ≤ n ∧ v4 = .int .i64 ((n - j : Nat) : Int) ∧ OwnsR memK wx w.heap.size v3 (kioskL n j) ∧ (kioskL n j).length = j ∧ Below w.heap.size w wx) (fun _ v4 _ => (intOf v4).toNat)
  case atStart => exact ⟨0, Nat.zero_le _, rfl, OwnsR.nil _ _ _, rfl, Below.refl _ _⟩
  case round =>
    obtain ⟨j, hj, rfl, ho, hlen, hb⟩ := hrel
    have HO := Lib.hid ho
    have HLEN := Lib.hid hlen
    have HB := Lib.hid hb
    clear ho hlen hb
    by_cases hlt : j < n
    · obtain ⟨m, hm⟩ : ∃ m, n - j = m := ⟨_, rfl⟩
      have KS := Lib.hid (kioskL_snoc n j)
      have m1 : 1 ≤ m := by omega
      have m2 : m ≤ 10 := by omega
      have EM := Lib.hid (show n - (j + 1) = m - 1 by omega)
      have d1 : decide ((1 : Int) ≤ (m : Int)) = true := decide_eq_true (by omega)
      rw [hm] at KS ⊢
      have XOK := Lib.hid (mbOf_ok (k := m) (by omega))
      have CP := Lib.hid (fun W => kpublic_any m (pubK m) 2305843009213691579 W rfl (by omega) rfl)
      have ME : Hid (mbList (mbOf m) = [.int .i64 (m : Int), .int .i64 0, .int .i64 ((pubK m : Nat) : Int)]) := rfl
      obtain ⟨y, hy⟩ : ∃ y, pubK m = y := ⟨_, rfl⟩
      rw [hy] at CP ME
      obtain ⟨X, hX⟩ : ∃ X, mbOf m = X := ⟨_, rfl⟩
      rw [hX] at KS XOK ME
      clear hm hy hX
      go_wp2_with fail
      refine (CP.out _).mono ?_
      rintro e w' ⟨rfl, rfl⟩
      have bz : Below wr.heap.size wr (wr.alloc (.cells (memK.enc X).toArray memK.ty)) := (Below.refl _ _).alloc (Nat.le_refl _) _
      have OZ := Lib.hid (HO.out.below bz)
      have BZ := Lib.hid (HB.out.trans (bz.mono HB.out.size))
      have NZ := Lib.hid (heap_alloc_new wr (.cells (memK.enc X).toArray memK.ty))
      have LZ : Hid ((kioskL n j).length ≤ 100000) := by show _ ≤ _; have := HLEN.out; omega
      clear bz
      go_wp2_with (first
        | (refine wpList_build_r memK rfl (.tmp 14) rfl XOK.out (.agg #[.int .i64 (m : Int), .int .i64 0, .int .i64 (y : Int)]) rfl (by show _ = (mbList X).toArray; rw [ME.out]; rfl) ?_)
        | (at_builtin; refine wpList_append_r memK rfl (.tmp 10) (.tmp 15) rfl w.heap.size u3 (kioskL n j) X wr.heap.size rfl rfl OZ.out XOK.out NZ.out LZ.out BZ.out.size ?_; intro v5' w8 hown8 hg8))
      refine ⟨⟨j + 1, hlt, ?_, by rw [KS.out]; exact hown8, by rw [KS.out, List.length_append, HLEN.out]; rfl, BZ.out.grown hg8 BZ.out.size (fun b e => (OZ.out.base_le b e).1)⟩, ?_⟩
      · rw [EM.out]
        first | rfl | (congr 1; omega)
      · simp [intOf]; omega
    · have ej : j = n := by omega
      have EJ := Lib.hid ej
      have e0 : n - j = 0 := by omega
      rw [e0]
      have LZ : Hid ((kioskL n j).length ≤ 100000) := by show _ ≤ _; have := HLEN.out; omega
      have bz : Below wr.heap.size wr (wr.alloc (.cells (memK.enc mbTwo).toArray memK.ty)) := (Below.refl _ _).alloc (Nat.le_refl _) _
      have OZ := Lib.hid (HO.out.below bz)
      have BZ := Lib.hid (HB.out.trans (bz.mono HB.out.size))
      have NZ := Lib.hid (heap_alloc_new wr (.cells (memK.enc mbTwo).toArray memK.ty))
      clear ej e0 hj hlt bz
      go_wp2_with (first
        | (refine wpList_build_r memK rfl (.tmp 18) rfl mbTwo_ok (.agg #[.int .i64 2, .int .i64 0, .int .i64 1]) rfl rfl ?_)
        | (at_builtin; refine wpList_append_r memK rfl (.tmp 17) (.tmp 19) rfl w.heap.size u3 (kioskL n j) mbTwo wr.heap.size rfl rfl OZ.out mbTwo_ok NZ.out LZ.out BZ.out.size ?_; intro v5' w8 hown8 hg8))
      go_ret
      refine ⟨_, rfl, ?_, BZ.out.grown hg8 BZ.out.size (fun b e => (OZ.out.base_le b e).1)⟩
      unfold kiosksL
      rw [EJ.out] at hown8
      exact hown8
end Go.Proofs.YtpblfpnldbdncaaGreatDoor
namespace Go.Proofs.YtpblfpnldbdncaaGreatDoor
open Go.RowKit Go.Sort Go.Maps
open Sg (Rc)
open Mg (Mst Jd)
set_option linter.unusedVariables false
set_option maxRecDepth 100000
theorem rc_row_at {w : World} {g o n c : Nat} {xs : List Rc} {k : Nat} {x : Rc} (h : LiesR rcK w (.slice (some ⟨g, o, none⟩) n c) xs) (hx : xs[k]? = some x) : RcAt w g (o + k * 102) x ∧ RcOk x ∧ g < w.heap.size := by
  obtain ⟨g', o', c', e, _, lt, rg, ok⟩ := h.at hx
  injection e with e
  injection e with e
  injection e with e1 e2
  subst e1 e2
  exact ⟨rg, ok, lt⟩
theorem lies_addr {α : Type} {P : Program} {R : Rk P α} {w : World} {ao : Option Addr} {n c : Nat} {xs : List α} (h : LiesR R w (.slice ao n c) xs) (hn : 0 < xs.length) : ∃ g o, ao = some ⟨g, o, none⟩ := by
  rcases h.2 with ⟨rfl, _⟩ | ⟨g, o, cap, e, _⟩
  · simp at hn
  · injection e with e
    exact ⟨g, o, e⟩
set_option maxHeartbeats 2000000 in
theorem same_rcs {w : World} {v u : Value} {xs ys : List Rc} (hA : LiesR rcK w v xs) (hB : LiesR rcK w u ys) (hx : xs.length ≤ 100000) (hy : ys.length ≤ 100000) :
    Calls Tryz.prog 36 #[v, u] w fun e w' => e = .returned (.bool (decide (xs = ys))) ∧ Below w.heap.size w w' := by
  obtain ⟨N, hN⟩ : ∃ N, xs.length = N := ⟨_, rfl⟩
  obtain ⟨M, hM⟩ : ∃ M, ys.length = M := ⟨_, rfl⟩
  obtain ⟨ao, cap, hv⟩ : ∃ ao cap, v = .slice ao N cap := by
    obtain ⟨ao, cap, h | h⟩ := hA.slice hN
    · exact ⟨ao, cap, h.1⟩
    · exact ⟨ao, cap, h.1⟩
  obtain ⟨bo, cbp, hu⟩ : ∃ ao cap, u = .slice ao M cap := by
    obtain ⟨ao, cap, h | h⟩ := hB.slice hM
    · exact ⟨ao, cap, h.1⟩
    · exact ⟨ao, cap, h.1⟩
  subst hv hu
  have HN := Lib.hid hN
  have HM := Lib.hid hM
  have HA := Lib.hid hA
  have HB := Lib.hid hB
  have N3 : N ≤ 100000 := by omega
  have M3 : M ≤ 100000 := by omega
  clear hN hM hA hB hx hy
  by_cases hl : N = M
  · subst hl
    have dn : ((N : Int) != (N : Int)) = false := by simp
    have de : ((N : Int) == (N : Int)) = true := by simp
    go_enter Tryz.func36, Tryz.ntmps36
    go_wp2_with fail
    go_loopw [5] (fun v5 wx => ∃ i : Nat, i ≤ N ∧ v5 = .int .i64 i ∧ xs.take i = ys.take i ∧ Below w.heap.size w wx) (fun v5 _ => N - (intOf v5).toNat)
    case atStart => exact ⟨0, Nat.zero_le _, rfl, by simp, Below.refl _ _⟩
    case round =>
      obtain ⟨i, hi, rfl, hall, hb⟩ := hrel
      have HALL := Lib.hid hall
      have HBW := Lib.hid hb
      clear hall hb
      by_cases hlt : i < N
      · have di : decide ((i : Int) < (N : Int)) = true := decide_eq_true (by omega)
        obtain ⟨x, hx⟩ : ∃ x, xs[i]? = some x := ⟨xs[i]'(by rw [HN.out]; exact hlt), List.getElem?_eq_getElem _⟩
        obtain ⟨y, hy⟩ : ∃ y, ys[i]? = some y := ⟨ys[i]'(by rw [HM.out]; exact hlt), List.getElem?_eq_getElem _⟩
        obtain ⟨g1, o1, rfl⟩ := lies_addr HA.out (by rw [HN.out]; omega)
        obtain ⟨g2, o2, rfl⟩ := lies_addr HB.out (by rw [HM.out]; omega)
        obtain ⟨a1, a2, a3⟩ := rc_row_at (HA.out.below HBW.out) hx
        obtain ⟨b1, b2, b3⟩ := rc_row_at (HB.out.below HBW.out) hy
        have EQ := rc_neq a2 b2
        have EQ' := Lib.hid EQ
        have l1 := Lib.hid (load_rc_re a2 a1 a3)
        have l2 := Lib.hid (load_rc_re b2 b1 b3)
        have HX := Lib.hid hx
        have HY := Lib.hid hy
        have da0 : (0 : Int) ≤ (i : Int) := by omega
        have da1 : (i : Int) < (N : Int) := by omega
        obtain ⟨bb, hbb⟩ : ∃ bb, decide (x = y) = bb := ⟨_, rfl⟩
        rw [hbb] at EQ
        have HBB := Lib.hid hbb
        clear a1 a2 a3 b1 b2 b3 hx hy hbb EQ'
        go_upto_region 6 with fail
        refine wp_region_quiet_below (by kernel_rfl) (by kernel_rfl) ?_
        repeat (first
          | (refine quiet_load_row (by rfl) _ (.tmp 19) rfl _ _ rfl _ l1.out ?_; simp only [Act.put, List.setIfInBounds_toArray, List.set_cons_zero, List.set_cons_succ])
          | (refine quiet_load_row (by rfl) _ (.tmp 23) rfl _ _ rfl _ l2.out ?_; simp only [Act.put, List.setIfInBounds_toArray, List.set_cons_zero, List.set_cons_succ])
          | go_big_quiet_step (fail))
        refine wpQuiet_nil ?_
        intro _ hw'
        obtain ⟨⟨dq, osq⟩, hw''⟩ := hw'
        subst hw''
        have HQ := Lib.hid (HBW.out.trans ((below_regrown wr dq osq).mono HBW.out.size))
        generalize grow (redrawn wr dq) osq = W1 at *
        cases bb
        · have FIN : Hid (decide (xs = ys) = false) := by
            show _ = _
            refine decide_eq_false fun e => ?_
            have h0 := HBB.out
            have h1 := HX.out
            rw [e, HY.out] at h1
            injection h1 with h1
            rw [h1] at h0
            simp at h0
          go_wp2_with fail
          go_ret
          exact ⟨by rw [FIN.out]; rfl, HQ.out⟩
        · go_wp2_with fail
          refine ⟨⟨i + 1, hlt, rfl, ?_, HQ.out⟩, by simp [intOf]; omega⟩
          have h0 : x = y := by simpa using HBB.out
          rw [List.take_add_one, List.take_add_one, HALL.out, HX.out, HY.out, h0]
      · have ei : i = N := by omega
        have di : decide ((i : Int) < (N : Int)) = false := decide_eq_false (by omega)
        have dj : decide (i < N) = false := decide_eq_false (by omega)
        have FIN : Hid (decide (xs = ys) = true) := by
          show _ = _
          refine decide_eq_true ?_
          have h0 := HALL.out
          rw [ei] at h0
          have h1 : xs.take N = xs := by rw [← HN.out]; exact List.take_length
          have h2 : ys.take N = ys := by rw [← HM.out]; exact List.take_length
          rwa [h1, h2] at h0
        clear ei
        go_wp2_with fail
        go_ret
        exact ⟨by rw [FIN.out]; rfl, HBW.out⟩
  · have dn : ((N : Int) != (M : Int)) = true := by simp; omega
    have de : ((N : Int) == (M : Int)) = false := by simp; omega
    have dm : (N == M) = false := by simp; omega
    have FIN : Hid (decide (xs = ys) = false) := by
      show _ = _
      refine decide_eq_false fun e => hl ?_
      rw [← HN.out, e, HM.out]
    clear hl
    go_enter Tryz.func36, Tryz.ntmps36
    go_wp2_with fail
    go_ret
    exact ⟨by rw [FIN.out]; rfl, Below.refl _ _⟩
end Go.Proofs.YtpblfpnldbdncaaGreatDoor
namespace Go.Proofs.YtpblfpnldbdncaaGreatDoor
open Go.RowKit Go.Sort Go.Maps
open Sg (Rc)
open Mg (Mst Jd H)
set_option linter.unusedVariables false
set_option maxRecDepth 100000
attribute [local go_sem ↓] wp_alloc_rc wp_alloc_h
theorem run_field_ot {o : Ot} (ho : OtOk o) (w : World) : (Instr.field 42 (.agg (otArr o)) 4).run Tryz.prog w = .ok (.agg (hashArr o.hash)) w := by
  have e : (otArr o).extract 35 67 = hashArr o.hash := by
    have : (otArr o).extract 35 67 = (((otList o).take 67).drop 35).toArray := by
      unfold otArr
      rw [List.extract_toArray, List.extract_eq_take_drop]
      simp [List.take_drop]
    rw [this, List.take_of_length_le (by rw [otList_length ho]; omega)]
    unfold otList
    have l1 : ([Value.int .i64 o.rd, .int .i64 o.val, .string o.fin] ++ hcl o.locked).length = 35 := by
      simp only [List.length_append, hcl_length, ho.locked, List.length_cons, List.length_nil]
    rw [← List.append_assoc, List.drop_append_of_le_length (by omega), List.drop_of_length_le (by omega), List.nil_append]
    rw [← hashArr_list]
  unfold Instr.field
  simp [run_underlying Tryz.underlying42, asAgg, part, isAgg, run_underlying Tryz.underlying27, Tryz.sizeOf27, Result.andThen, e]
/-! the five receipts -/
def chSeen : List Int := [0, 0, 0, 5, 3]
def chBase (k : Nat) (s : Int) (pv : H) : Rc := ⟨4, (k : Int) + 1, [77, 97, 121], s, if 0 < s then outHash s else Mg.zeroH, Mg.zeroH, pv, 0, 0⟩
def chOne (k : Nat) (s : Int) (pv : H) : Rc := sgn 5012 (chBase k s pv)
def chSt : Nat → List Rc × H
  | 0 => ([], Mg.zeroH)
  | i + 1 => ((chSt i).1 ++ [chOne i (chSeen.getD i 0) (chSt i).2], rch (chOne i (chSeen.getD i 0) (chSt i).2))
def chainL : List Rc := (chSt 5).1
theorem chSt_len (i : Nat) : (chSt i).1.length = i ∧ (chSt i).2.length = 32 := by
  induction i with
  | zero => exact ⟨rfl, zeroH_length⟩
  | succ i ih => exact ⟨by rw [chSt, List.length_append, ih.1]; rfl, rch_length _⟩
theorem chBase_sm {k : Nat} {s : Int} {pv : H} (hk : k ≤ 5) (h0 : 0 ≤ s) (h1 : s ≤ 5) (hp : pv.length = 32) : RcSm (chBase k s pv) := by
  refine ⟨⟨by show I64 4; decide, ⟨by show _ ≤ (k : Int) + 1; omega, by show (k : Int) + 1 ≤ _; omega⟩, ⟨by show _ ≤ s; omega, by show s ≤ _; omega⟩, by show I64 0; decide, by show I64 0; decide, by show ([77, 97, 121] : List UInt8).length ≤ 1000; decide, ?_, zeroH_length, hp⟩, ?_, ?_, ?_, ?_, ?_⟩
  · show (if 0 < s then outHash s else Mg.zeroH).length = 32
    split
    · exact outHash_len s
    · exact zeroH_length
  · exact ⟨by show (0 : Int) ≤ 4; omega, by show (4 : Int) ≤ _; omega⟩
  · exact ⟨by show 0 ≤ (k : Int) + 1; omega, by show (k : Int) + 1 ≤ _; omega⟩
  · exact ⟨h0, by show s ≤ _; omega⟩
  · show (0 : Int) ≤ 0; omega
  · show (0 : Int) ≤ 0; omega
theorem chSeen_at (i : Nat) (hi : i < 5) : 0 ≤ chSeen.getD i 0 ∧ chSeen.getD i 0 ≤ 5 := by
  have : i = 0 ∨ i = 1 ∨ i = 2 ∨ i = 3 ∨ i = 4 := by omega
  rcases this with rfl | rfl | rfl | rfl | rfl <;> decide
structure ChAt (w wx : World) (P N : Nat) (v : Value) (i : Nat) : Prop where
  prev : wx.heap[P]? = some (.cells (hashArr (chSt i).2) 27 (0, 0))
  nums : wx.heap[N]? = some (.cells #[.int .i64 0, .int .i64 0, .int .i64 0, .int .i64 5, .int .i64 3] 3 (0, 0))
  row : OwnsR rcK wx (w.heap.size + 2) v (chSt i).1
  below : Below w.heap.size w wx
  size : w.heap.size + 2 ≤ wx.heap.size
set_option maxHeartbeats 4000000 in
theorem chain_any (w : World) :
    Calls Tryz.prog 34 #[] w fun e w' => ∃ v, e = .returned v ∧ OwnsR rcK w' w.heap.size v chainL ∧ Below w.heap.size w w' := by
  have b0 : Below w.heap.size w ((w.alloc (.cells (hashArr Mg.zeroH) 27)).alloc (.cells #[.int .i64 0, .int .i64 0, .int .i64 0, .int .i64 5, .int .i64 3] 3)) := ((Below.refl _ _).alloc (Nat.le_refl _) _).alloc (by simp) _
  have A0 : Hid (ChAt w ((w.alloc (.cells (hashArr Mg.zeroH) 27)).alloc (.cells #[.int .i64 0, .int .i64 0, .int .i64 0, .int .i64 5, .int .i64 3] 3)) w.heap.size (w.heap.size + 1) (.slice none 0 0) 0) :=
    ⟨heap_alloc2_old w _ _, heap_alloc2_new w _ _, OwnsR.nil _ _ _, b0, by simp⟩
  clear b0
  go_enter Tryz.func34, Tryz.ntmps34
  go_wp2_with fail
  obtain ⟨P, hP⟩ : ∃ P, w.heap.size = P := ⟨_, rfl⟩
  obtain ⟨N, hN⟩ : ∃ N, w.heap.size + 1 = N := ⟨_, rfl⟩
  have PW : Hid (w.heap.size ≤ P) := by rw [hP]; exact Nat.le_refl _
  have NW : Hid (w.heap.size ≤ N) := by rw [← hN]; exact Nat.le_succ _
  have NPN : Hid (P ≠ N) := by show _ ≠ _; omega
  have PN2 : Hid (P < w.heap.size + 2 ∧ N < w.heap.size + 2) := by show _ ∧ _; omega
  rw [hN] at A0 ⊢
  generalize (w.alloc (.cells (hashArr Mg.zeroH) 27)).alloc (.cells #[.int .i64 0, .int .i64 0, .int .i64 0, .int .i64 5, .int .i64 3] 3) = W1 at *
  have A1 : Hid (ChAt w W1 P N (.slice none 0 0) 0) := by rw [← hP]; exact A0
  rw [hP]
  clear A0 hP hN
  go_loopw [1, 3, 4, 5, 8] (fun v1 _ _ _ v8 wx => ∃ i : Nat, i ≤ 5 ∧ v8 = .int .i64 i ∧ ChAt w wx P N v1 i) (fun _ _ _ _ v8 _ => 5 - (intOf v8).toNat)
  case atStart => exact ⟨0, Nat.zero_le _, rfl, A1.out⟩
  case round =>
    obtain ⟨i, hi, rfl, ha⟩ := hrel
    have HA := Lib.hid ha
    clear ha
    by_cases hlt : i < 5
    · have di : decide ((i : Int) < 5) = true := decide_eq_true (by omega)
      obtain ⟨s, hs⟩ : ∃ s, chSeen.getD i 0 = s := ⟨_, rfl⟩
      obtain ⟨s0, s1⟩ := chSeen_at i hlt
      rw [hs] at s0 s1
      have HS := Lib.hid hs
      have CN : wr.cell? ⟨N, i, none⟩ = some (.int .i64 s) := by
        rw [cell_of_row _ _ _ _ _ _ HA.out.nums]
        have : i = 0 ∨ i = 1 ∨ i = 2 ∨ i = 3 ∨ i = 4 := by omega
        rw [← hs]
        rcases this with rfl | rfl | rfl | rfl | rfl <;> rfl
      obtain ⟨pv, hpv⟩ : ∃ pv, (chSt i).2 = pv := ⟨_, rfl⟩
      have HPV := Lib.hid hpv
      have PL := Lib.hid (show pv.length = 32 by rw [← hpv]; exact (chSt_len i).2)
      have HP := HA.out.prev
      rw [hpv] at HP
      have HP := Lib.hid HP
      have BR := Lib.hid (fun W => run_build_rc 4 ((i : Int) + 1) s [77, 97, 121] PL.out W)
      have SM := Lib.hid (chBase_sm (k := i) (s := s) (pv := pv) (by omega) s0 s1 PL.out)
      have OK0 : Hid (RcOk ⟨4, (i : Int) + 1, [77, 97, 121], s, Mg.zeroH, Mg.zeroH, pv, 0, 0⟩) :=
        ⟨SM.out.ok.kiosk, SM.out.ok.serial, SM.out.ok.seen, SM.out.ok.r, SM.out.ok.s, SM.out.ok.draw, zeroH_length, zeroH_length, PL.out⟩
      obtain ⟨R0, hR0⟩ : ∃ R0 : Rc, (⟨4, (i : Int) + 1, [77, 97, 121], s, Mg.zeroH, Mg.zeroH, pv, 0, 0⟩ : Rc) = R0 := ⟨_, rfl⟩
      rw [hR0] at BR OK0
      have HR0 := Lib.hid hR0
      have RI := Lib.hid (rc_info OK0.out)
      have RO := Lib.hid (rcArr_one R0)
      have RZ := Lib.hid (show (rcArr rc0).size = (rcArr R0).size by rw [rcArr_size rc0_ok, rcArr_size OK0.out])
      have E3 := Lib.hid (World.setRow_alloc_new wr (rcArr rc0) (rcArr R0) 31)
      have F3 := Lib.hid (heap_alloc_new wr (.cells (rcArr rc0) 31))
      have F4 := Lib.hid (heap_alloc_new wr (.cells (rcArr R0) 31))
      have BZ : Hid (Below wr.heap.size wr (wr.alloc (.cells (rcArr R0) 31))) := (Below.refl _ _).alloc (Nat.le_refl _) _
      have OH := Lib.hid (hash_info pv PL.out)
      clear hs hpv hR0
      go_upto_region 7 with (first
        | (refine wpList_load_row rfl 27 (.tmp 2) rfl P rfl 27 (hashArr pv) (0, 0) _ HP.out Tryz.underlying27 rfl OH.out ?_)
        | (refine wpList_build_v rfl 31 #[(0, .const (.int .i64 4)), (1, .tmp 14), (2, .const (.string ⟨#[77, 97, 121]⟩)), (3, .tmp 15), (6, .tmp 16)] rfl #[(0, .int .i64 4), (1, .int .i64 ((i : Int) + 1)), (2, .string (bstr [77, 97, 121])), (3, .int .i64 s), (6, .agg (hashArr pv))] (by simp only [List.map_toArray, List.map_cons, List.map_nil]; rfl) _ (BR.out _) ?_)
        | (refine wpList_store_row rfl 31 (.tmp 5) (.tmp 17) rfl wr.heap.size (rcArr R0) rfl rfl 31 _ F3.out RI.out RZ.out RO.out ?_; rw [E3.out]; simp only [Act.put]))
      obtain ⟨q, hq⟩ : ∃ q, wr.heap.size = q := ⟨_, rfl⟩
      have SZ := HA.out.size
      rw [hq] at F4 BZ SZ
      rw [hq]
      have HQ := Lib.hid hq
      generalize wr.alloc (.cells (rcArr R0) 31) = W2 at *
      obtain ⟨bb, hbb⟩ : ∃ bb, decide (0 < s) = bb := ⟨_, rfl⟩
      have HBB := Lib.hid hbb
      clear hq E3 F3 RI RZ CN
      go_upto_if 19 with fail
      clear hbb
      go_cut [] (fun wx => wx.heap[q]? = some (.cells (rcArr (chBase i s pv)) 31 (0, 0)) ∧ Below q wr wx)
      case first =>
        cases bb
        · have E1 : Hid (chBase i s pv = R0) := by
            show _ = _
            rw [← HR0.out]
            unfold chBase
            rw [if_neg (by simpa using HBB.out)]
          go_wp2_with fail
          go_meet
          exact ⟨by rw [E1.out]; exact F4.out, BZ.out⟩
        · have E1 : Hid ({ R0 with output := outHash s } = chBase i s pv) := by
            show _ = _
            rw [← HR0.out]
            unfold chBase
            rw [if_pos (by simpa using HBB.out)]
          have CO := Lib.hid (fun W => output_any s ⟨s0, by omega⟩ W)
          have FO := Lib.hid (fun W => run_field_ot (o := otOf s (outHash s)) (otOf_ok ⟨by omega, by omega⟩ (outHash_len s)) W)
          have EP := Lib.hid (rc_put_output OK0.out (outHash s) (outHash_len s))
          have HL := Lib.hid (outHash_len s)
          rw [E1.out] at EP
          have CZ := Lib.hid (show 4 + 32 ≤ (rcArr R0).size by rw [rcArr_size OK0.out]; omega)
          obtain ⟨V, hV⟩ : ∃ V, otArr (otOf s (outHash s)) = V := ⟨_, rfl⟩
          rw [hV] at CO FO
          obtain ⟨h, hh⟩ : ∃ h, outHash s = h := ⟨_, rfl⟩
          have FO' : Hid (∀ W, (Instr.field 42 (.agg V) 4).run Tryz.prog W = .ok (.agg (hashArr h)) W) := fun W => by rw [← hh]; exact FO.out W
          rw [hh] at EP HL
          clear hV hh E1 FO
          go_wp2_with fail
          refine (CO.out _).mono ?_
          rintro e w3 ⟨rfl, hb3⟩
          have R3 := Lib.hid (heap_below F4.out hb3)
          have B3 := Lib.hid (BZ.out.trans (hb3.mono (by have := BZ.out.size; rw [HQ.out] at this; exact this)))
          have fo := FO'.out
          clear hb3
          have TH := Lib.hid (there_of_row R3.out 4 (hashArr h).size (by rw [hashArr_size, HL.out]; exact CZ.out))
          have HI := Lib.hid (hash_info h HL.out)
          have HO := Lib.hid (hashArr_one h)
          go_wp2_with (refine wpList_store_mid rfl 27 (.tmp 23) (.tmp 22) rfl q 4 (hashArr h) rfl rfl TH.out HI.out HO.out ?_)
          go_meet
          have R4 := heap_setCells_at (hcl h) 4 _ _ R3.out
          rw [EP.out] at R4
          rw [hashArr_list]
          exact ⟨R4, below_setCells (hcl h) 4 B3.out (Nat.le_refl _)⟩
      case rest =>
        obtain ⟨h1, h2⟩ := hcut
        have RQ := Lib.hid h1
        have BQ := Lib.hid h2
        have qlt := Lib.hid (rc_block_lt h1)
        have SG := Lib.hid (signed_sm 1152921504606845789 2305843009213691579 5012 rfl rfl SM.out)
        have CS := Lib.hid (fun W => (signed_any 5012 1152921504606845789 2305843009213691579 _ SM.out W rfl rfl (by omega)))
        have ES : Hid ((chBase i s pv).signed sc 1152921504606845789 2305843009213691579 5012 = chOne i s pv) := rfl
        rw [ES.out] at SG CS
        have C0 : Hid (∀ W, Calls Tryz.prog 13 #[.int .i64 4] W fun e w' => e = .returned (.int .i64 5012) ∧ Below W.heap.size W w') := fun W => (secret_any 4 W (by omega)).mono fun e w' ⟨h1, h2⟩ => ⟨h1, by rw [← h2]; exact Below.refl _ _⟩
        have SOK := Lib.hid SM.out.ok
        have l1 := Lib.hid (load_rc_re SM.out.ok (RcAt.of_row h1) (rc_block_lt h1))
        obtain ⟨R1, hR1⟩ : ∃ R1, chBase i s pv = R1 := ⟨_, rfl⟩
        rw [hR1] at RQ SOK l1 CS
        obtain ⟨R2, hR2⟩ : ∃ R2, chOne i s pv = R2 := ⟨_, rfl⟩
        rw [hR2] at CS SG
        have HR2 := Lib.hid hR2
        have N1 : Hid (chSt (i + 1) = ((chSt i).1 ++ [R2], rch R2)) := by
          show _ = _
          rw [chSt, HS.out, HPV.out, hR2]
        clear h1 h2 hR1 hR2 F4 BZ BR OK0 HR0 RO HBB SM ES
        go_upto_region 9 with fail
        refine wp_region_tail_below 3 (by kernel_rfl) (by kernel_rfl) ?_
        simp only [List.take_succ_cons, List.take_zero, List.drop_succ_cons, List.drop_zero]
        repeat (first
          | (refine quiet_load_row (by rfl) _ (.tmp 5) rfl _ _ rfl _ l1.out ?_; simp only [Act.put, List.setIfInBounds_toArray, List.set_cons_zero, List.set_cons_succ])
          | go_big_quiet_step ((first | with_reducible exact Calls.regrown_of (C0.out _) | with_reducible exact Calls.regrown_of (CS.out _))))
        refine wpQuiet_nil ?_
        intro _ hw'
        obtain ⟨⟨dq, osq⟩, hw''⟩ := hw'
        subst hw''
        have HQ3 := below_regrown wc dq osq
        have RQ3 := Lib.hid (heap_below RQ.out HQ3)
        have BQ3 := Lib.hid (BQ.out.trans (HQ3.mono (by have := BQ.out.size; have h := HQ.out; omega)))
        have SGO := Lib.hid SG.out.ok
        have RI2 := Lib.hid (rc_info SG.out.ok)
        have RO2 := Lib.hid (rcArr_one R2)
        have RZ2 := Lib.hid (show (rcArr R1).size = (rcArr R2).size by rw [rcArr_size SOK.out, rcArr_size SG.out.ok])
        clear HQ3 CS C0 l1 RQ BQ
        generalize grow (redrawn wc dq) osq = W3 at *
        have RQ4 := Lib.hid (setRow_heap W3 q (rcArr R1) (rcArr R2) _ _ RQ3.out)
        have BQ4 := Lib.hid (below_setRow BQ3.out (Nat.le_refl q) (rcArr R2))
        have QW := Lib.hid (show w.heap.size + 2 ≤ q by omega)
        go_upto_region 10 with (refine wpList_store_row rfl 31 (.tmp 5) (.tmp 26) rfl q (rcArr R2) rfl rfl 31 _ RQ3.out RI2.out RZ2.out RO2.out ?_)
        generalize W3.setRow q (rcArr R2) = W4 at *
        have CH := Lib.hid (fun W => rchash_any R2 SG.out W)
        obtain ⟨h, hh⟩ : ∃ h, rch R2 = h := ⟨_, rfl⟩
        have HL := Lib.hid (show h.length = 32 by rw [← hh]; exact rch_length _)
        rw [hh] at CH N1
        clear hh RQ3 BQ3 SZ
        go_wp2_with (refine wpList_load_row rfl 31 (.tmp 5) rfl q rfl 31 (rcArr R2) (0, 0) _ RQ4.out Tryz.underlying31 rfl RI2.out ?_)
        refine (CH.out _).mono ?_
        rintro e W5 ⟨rfl, hb5⟩
        have BQ5 := Lib.hid (BQ4.out.trans (hb5.mono (by have := BQ4.out.size; have h := HQ.out; omega)))
        have RQ5 := Lib.hid (heap_below RQ4.out hb5)
        clear hb5 RQ4 BQ4
        -- what the round has not touched
        have BW5 : Hid (Below wr.heap.size wr W5) := by have h := HQ.out; rw [h]; exact BQ5.out
        have HP5 := Lib.hid (heap_below HP.out BW5.out)
        have HN5 := Lib.hid (heap_below HA.out.nums BW5.out)
        have OW5 := Lib.hid (HA.out.row.below BW5.out)
        have BB5 := Lib.hid (HA.out.below.trans (BW5.out.mono HA.out.below.size))
        have SZ5 := Lib.hid (Nat.le_trans HA.out.size BW5.out.size)
        have LEN := Lib.hid (chSt_len i).1
        have HI := Lib.hid (hash_info h HL.out)
        have HZ := Lib.hid (show (hashArr pv).size = (hashArr h).size by rw [hashArr_size, hashArr_size, PL.out, HL.out])
        have HO := Lib.hid (hashArr_one h)
        have HP6 := Lib.hid (setRow_heap W5 P (hashArr pv) (hashArr h) _ _ HP5.out)
        clear HA BQ5 BW5 HP
        go_upto_region 11 with (refine wpList_store_row rfl 27 (.tmp 2) (.tmp 28) rfl P (hashArr h) rfl rfl 27 _ HP5.out HI.out HZ.out HO.out ?_)
        have HN6 := Lib.hid ((setRow_other W5 P N (hashArr h) (Ne.symm NPN.out)).trans HN5.out)
        have OW6 : Hid (OwnsR rcK (W5.setRow P (hashArr h)) (w.heap.size + 2) u1 (chSt i).1) := by
          refine OW5.out.grown (row := some P) ⟨rfl, rfl, rfl, by simp, fun k _ hk => setRow_other W5 P k (hashArr h) (fun e => hk (by rw [e]))⟩ (fun b hb e => ?_)
          injection e with e
          have := (OW5.out.base_le b hb).1
          have := PN2.out.1
          omega
        have BB6 := Lib.hid (below_setRow BB5.out PW.out (hashArr h))
        have RQ6 := Lib.hid ((setRow_other W5 P q (hashArr h) (by have := QW.out; have := PN2.out.1; omega)).trans RQ5.out)
        have SZ6 := Lib.hid (show w.heap.size + 2 ≤ (W5.setRow P (hashArr h)).heap.size by rw [setRow_size]; exact SZ5.out)
        generalize W5.setRow P (hashArr h) = W6 at *
        clear HP5 HN5 OW5 BB5 SZ5 RQ5 HZ HI HO
        have bz : Below W6.heap.size W6 (W6.alloc (.cells (rcK.enc R2).toArray rcK.ty)) := (Below.refl _ _).alloc (Nat.le_refl _) _
        have OZ := Lib.hid (OW6.out.below bz)
        have PZ := Lib.hid (heap_below HP6.out bz)
        have NZZ := Lib.hid (heap_below HN6.out bz)
        have BZ := Lib.hid (BB6.out.trans (bz.mono BB6.out.size))
        have SZZ := Lib.hid (Nat.le_trans SZ6.out bz.size)
        have NZ := Lib.hid (heap_alloc_new W6 (.cells (rcK.enc R2).toArray rcK.ty))
        have LZ : Hid ((chSt i).1.length ≤ 100000) := by show _ ≤ _; have := LEN.out; omega
        clear bz
        go_wp2_with (first
          | (refine wpList_load_row rfl 31 (.tmp 5) rfl q rfl 31 (rcArr R2) (0, 0) _ RQ6.out Tryz.underlying31 rfl RI2.out ?_)
          | (refine wpList_build_r rcK rfl (.tmp 30) rfl SGO.out (.agg (rcArr R2)) rfl rfl ?_)
          | (at_builtin; refine wpList_append_r rcK rfl (.tmp 29) (.tmp 31) rfl (w.heap.size + 2) u1 (chSt i).1 R2 W6.heap.size rfl rfl OZ.out SGO.out NZ.out LZ.out SZZ.out ?_; intro v5' w8 hown8 hg8))
        have rowB : ∀ b, u1.ownBlock = some b → w.heap.size + 2 ≤ b := fun b e => (OZ.out.base_le b e).1
        refine ⟨⟨i + 1, hlt, rfl, ?_, ?_, ?_, BZ.out.grown hg8 BZ.out.size (fun b e => by have := rowB b e; omega), Nat.le_trans SZZ.out hg8.size⟩, by simp [intOf]; omega⟩
        · rw [N1.out]
          exact (hg8.block P (Array.getElem?_eq_some_iff.1 PZ.out).1 (fun e => by have := rowB P e.symm; have := PN2.out.1; omega)).trans PZ.out
        · exact (hg8.block N (Array.getElem?_eq_some_iff.1 NZZ.out).1 (fun e => by have := rowB N e.symm; have := PN2.out.2; omega)).trans NZZ.out
        · rw [N1.out]
          exact hown8
    · have ei : i = 5 := by omega
      have di : decide ((i : Int) < 5) = false := decide_eq_false (by omega)
      have EI := Lib.hid ei
      clear ei
      go_wp2_with fail
      go_ret
      exact ⟨_, rfl, by have := HA.out.row; rw [EI.out] at this; exact this.mono (by omega), HA.out.below⟩
end Go.Proofs.YtpblfpnldbdncaaGreatDoor
namespace Go.Proofs.YtpblfpnldbdncaaGreatDoor
open Go.RowKit Go.Sort Go.Maps
open Sg (Rc)
open Mg (H Sale Pos zeroH)
set_option linter.unusedVariables false
set_option maxRecDepth 100000
structure SaleOk (x : Sale) : Prop where
  kiosk : x.kiosk ≤ 255
  draw : x.draw ≤ 255
  seen : x.seen ≤ 255
  stamp : x.stamp ≤ 255
  wrong : x.wrong ≤ 255
def saleList (x : Sale) : List Value := [.int .u8 (x.kiosk : Int), .int .u8 (x.draw : Int), .int .u8 (x.seen : Int), .int .u8 (x.stamp : Int), .int .u8 (x.wrong : Int)]
abbrev sale0 : Array Value := #[.int .u8 0, .int .u8 0, .int .u8 0, .int .u8 0, .int .u8 0]
def saleK : Rk Tryz.prog Sale where
  ty := 91
  sl := 22
  size := 5
  bytes := 5
  zero := .agg sale0
  enc := saleList
  ok := SaleOk
  len _ := rfl
  one u hu := by
    simp only [saleList, List.mem_cons, List.not_mem_nil, or_false] at hu
    rcases hu with rfl | rfl | rfl | rfl | rfl <;> rfl
  und := Tryz.underlying22
  info := by kernel_rfl
  zsize := rfl
  pos := by omega
  small := by decide
/-! four numbers, four hashes -/
def quad (f : Nat → Int) : Array Value := #[.int .i64 (f 0), .int .i64 (f 1), .int .i64 (f 2), .int .i64 (f 3)]
theorem quad_get (f : Nat → Int) {n : Nat} (h : n < 4) : (quad f)[n]? = some (.int .i64 (f n)) := by
  have : n = 0 ∨ n = 1 ∨ n = 2 ∨ n = 3 := by omega
  rcases this with rfl | rfl | rfl | rfl <;> rfl
theorem quad_set (f : Nat → Int) {n : Nat} (h : n < 4) (z : Int) : (quad f).setIfInBounds n (.int .i64 z) = quad fun i => if i = n then z else f i := by
  have : n = 0 ∨ n = 1 ∨ n = 2 ∨ n = 3 := by omega
  rcases this with rfl | rfl | rfl | rfl <;> rfl
def prevL (f : Nat → H) : List Value := hcl (f 0) ++ (hcl (f 1) ++ (hcl (f 2) ++ hcl (f 3)))
theorem prevL_length {f : Nat → H} (h : ∀ i, (f i).length = 32) : (prevL f).length = 128 := by
  simp only [prevL, List.length_append, hcl_length, h]
theorem prevL_split {f : Nat → H} (h : ∀ i, (f i).length = 32) {n : Nat} (hn : n < 4) (x : H) : ∃ pre post, pre.length = n * 32 ∧ prevL f = pre ++ (hcl (f n) ++ post) ∧ prevL (fun i => if i = n then x else f i) = pre ++ (hcl x ++ post) := by
  have hl : ∀ i, (hcl (f i)).length = 32 := fun i => by rw [hcl_length, h]
  have : n = 0 ∨ n = 1 ∨ n = 2 ∨ n = 3 := by omega
  rcases this with rfl | rfl | rfl | rfl
  · exact ⟨[], hcl (f 1) ++ (hcl (f 2) ++ hcl (f 3)), rfl, rfl, by simp [prevL]⟩
  · exact ⟨hcl (f 0), hcl (f 2) ++ hcl (f 3), by rw [hl], rfl, by simp [prevL]⟩
  · exact ⟨hcl (f 0) ++ hcl (f 1), hcl (f 3), by rw [List.length_append, hl, hl], by simp [prevL], by simp [prevL]⟩
  · exact ⟨hcl (f 0) ++ (hcl (f 1) ++ hcl (f 2)), [], by simp [hl], by simp [prevL], by simp [prevL]⟩
theorem prevL_put {f : Nat → H} (h : ∀ i, (f i).length = 32) {n : Nat} (hn : n < 4) (x : H) (hx : x.length = 32) : putCells (prevL f).toArray (n * 32) (hcl x) = (prevL fun i => if i = n then x else f i).toArray := by
  obtain ⟨pre, post, h1, h2, h3⟩ := prevL_split h hn x
  rw [h2, h3]
  exact putCells_mid pre (hcl (f n)) post (hcl x) (by rw [hcl_length, hcl_length, hx, h]) _ h1.symm
theorem prevL_at {f : Nat → H} (h : ∀ i, (f i).length = 32) {n : Nat} (hn : n < 4) {w : World} {b : Nat} {t : TypeId} {fr : Nat × Nat} (hb : w.heap[b]? = some (.cells (prevL f).toArray t fr)) : w.rangeAt b (n * 32) (hcl (f n)) := by
  obtain ⟨pre, post, h1, h2, _⟩ := prevL_split h hn []
  intro j v hv
  rw [cell_of_row _ _ _ _ _ _ hb, List.getElem?_toArray, h2, List.getElem?_append_right (by omega), h1, Nat.add_sub_cancel_left, List.getElem?_append_left (List.getElem?_eq_some_iff.1 hv).1]
  exact hv
/-! bounds of what is kept -/
structure PosOk (st : Nat → Pos) (k : Nat) : Prop where
  ser : ∀ i, 0 ≤ (st i).serial ∧ (st i).serial ≤ k
  seen : ∀ i, 0 ≤ (st i).seen ∧ (st i).seen ≤ 2 * k
  prev : ∀ i, (st i).prev.length = 32
theorem pos0_ok : PosOk pos0 0 := ⟨fun i => ⟨Int.le_refl 0, Int.le_refl 0⟩, fun i => ⟨Int.le_refl 0, Int.le_refl 0⟩, fun i => zeroH_length⟩
theorem PosOk.step {st : Nat → Pos} {k : Nat} (h : PosOk st k) (x : Sale) : PosOk (Mg.put st (x.kiosk % 4) (gnext x (st (x.kiosk % 4)))) (k + 1) := by
  obtain ⟨a1, a2⟩ := h.ser (x.kiosk % 4)
  obtain ⟨b1, b2⟩ := h.seen (x.kiosk % 4)
  have hx : x.seen % 3 ≤ 2 := by omega
  refine ⟨fun i => ?_, fun i => ?_, fun i => ?_⟩ <;> unfold Mg.put <;> split
  · show 0 ≤ (st (x.kiosk % 4)).serial + 1 ∧ (st (x.kiosk % 4)).serial + 1 ≤ _
    omega
  · have := h.ser i
    omega
  · show 0 ≤ (st (x.kiosk % 4)).seen + ((x.seen % 3 : Nat) : Int) ∧ (st (x.kiosk % 4)).seen + ((x.seen % 3 : Nat) : Int) ≤ _
    omega
  · have := h.seen i
    omega
  · exact rch_length _
  · exact h.prev i
theorem gst_ok (l : List Sale) : ∀ st k, PosOk st k → PosOk (gst st l) (k + l.length) := by
  induction l with
  | nil => intro st k h; exact h
  | cons x l ih =>
    intro st k h
    have := ih _ _ (h.step x)
    rw [List.length_cons, show k + (l.length + 1) = k + 1 + l.length by omega]
    exact this
theorem outOf_len (s : Int) : (Mg.outOf X0 s).length = 32 := by
  unfold Mg.outOf
  split
  · exact zeroH_length
  · exact outHash_len s
theorem sealHash_len (n : Nat) : (sealHash n).length = 32 := Sha.sum_length _
theorem drawName_len (n : Nat) : (drawName n).length ≤ 4 := by
  unfold drawName
  split
  · decide
  · split <;> decide
theorem gbase_sm {x : Sale} {st : Nat → Pos} {k : Nat} (h : PosOk st k) (hk : k ≤ 100) : RcSm (gbase x (st (x.kiosk % 4))) := by
  obtain ⟨a1, a2⟩ := h.ser (x.kiosk % 4)
  obtain ⟨b1, b2⟩ := h.seen (x.kiosk % 4)
  have hx : x.seen % 3 ≤ 2 := by omega
  have hn : x.kiosk % 4 < 4 := Nat.mod_lt _ (by omega)
  have hd := drawName_len x.draw
  refine ⟨⟨?_, ?_, ?_, by show I64 0; decide, by show I64 0; decide, by show (drawName x.draw).length ≤ 1000; omega, outOf_len _, sealHash_len _, h.prev _⟩, ?_, ?_, ?_, ?_, ?_⟩
  · show -9223372036854775808 ≤ ((x.kiosk % 4 : Nat) : Int) ∧ ((x.kiosk % 4 : Nat) : Int) ≤ 9223372036854775807
    omega
  · show -9223372036854775808 ≤ (st (x.kiosk % 4)).serial + 1 ∧ (st (x.kiosk % 4)).serial + 1 ≤ 9223372036854775807
    omega
  · show -9223372036854775808 ≤ (st (x.kiosk % 4)).seen + ((x.seen % 3 : Nat) : Int) ∧ (st (x.kiosk % 4)).seen + ((x.seen % 3 : Nat) : Int) ≤ 9223372036854775807
    omega
  · show (0 : Int) ≤ ((x.kiosk % 4 : Nat) : Int) ∧ ((x.kiosk % 4 : Nat) : Int) ≤ 72057594037927000
    omega
  · show (0 : Int) ≤ (st (x.kiosk % 4)).serial + 1 ∧ (st (x.kiosk % 4)).serial + 1 ≤ 72057594037927000
    omega
  · show (0 : Int) ≤ (st (x.kiosk % 4)).seen + ((x.seen % 3 : Nat) : Int) ∧ (st (x.kiosk % 4)).seen + ((x.seen % 3 : Nat) : Int) ≤ 72057594037927000
    omega
  · show (0 : Int) ≤ 0; omega
  · show (0 : Int) ≤ 0; omega
theorem flip_length (h : List UInt8) (i : Nat) : (flip h i).length = h.length := by unfold flip; rw [List.length_set]
theorem sm_seen {c : Rc} (h : RcSm c) {s : Int} (h0 : 0 ≤ s) (h1 : s ≤ 1000) : RcSm { c with seen := s } :=
  ⟨⟨h.ok.kiosk, h.ok.serial, ⟨by show _ ≤ s; omega, by show s ≤ _; omega⟩, h.ok.r, h.ok.s, h.ok.draw, h.ok.output, h.ok.hash, h.ok.prev⟩, h.k, h.s, ⟨h0, by show s ≤ _; omega⟩, h.r0, h.s0⟩
theorem sm_output {c : Rc} (h : RcSm c) {o : H} (ho : o.length = 32) : RcSm { c with output := o } :=
  ⟨⟨h.ok.kiosk, h.ok.serial, h.ok.seen, h.ok.r, h.ok.s, h.ok.draw, ho, h.ok.hash, h.ok.prev⟩, h.k, h.s, h.n, h.r0, h.s0⟩
theorem sm_hash {c : Rc} (h : RcSm c) {o : H} (ho : o.length = 32) : RcSm { c with hash := o } :=
  ⟨⟨h.ok.kiosk, h.ok.serial, h.ok.seen, h.ok.r, h.ok.s, h.ok.draw, h.ok.output, ho, h.ok.prev⟩, h.k, h.s, h.n, h.r0, h.s0⟩
theorem sm_prev {c : Rc} (h : RcSm c) {o : H} (ho : o.length = 32) : RcSm { c with prev := o } :=
  ⟨⟨h.ok.kiosk, h.ok.serial, h.ok.seen, h.ok.r, h.ok.s, h.ok.draw, h.ok.output, h.ok.hash, ho⟩, h.k, h.s, h.n, h.r0, h.s0⟩
theorem sm_serial {c : Rc} (h : RcSm c) {s : Int} (h0 : 0 ≤ s) (h1 : s ≤ 1000) : RcSm { c with serial := s } :=
  ⟨⟨h.ok.kiosk, ⟨by show _ ≤ s; omega, by show s ≤ _; omega⟩, h.ok.seen, h.ok.r, h.ok.s, h.ok.draw, h.ok.output, h.ok.hash, h.ok.prev⟩, h.k, ⟨h0, by show s ≤ _; omega⟩, h.n, h.r0, h.s0⟩
theorem gbent_sm {r : Rc} (h : RcSm r) (w : Nat) (h1 : r.serial ≤ 900) (h2 : r.seen ≤ 900) : RcSm (gbent w r) := by
  have s0 := h.s.1
  have n0 := h.n.1
  unfold gbent
  repeat' split
  · exact sm_output (sm_seen h (s := max 0 (r.seen - 2)) (by omega) (by omega)) (outOf_len (max 0 (r.seen - 2)))
  · exact sm_output h (by rw [flip_length, h.ok.output])
  · exact sm_prev h (by rw [flip_length, h.ok.prev])
  · exact sm_serial h (by omega) (by omega)
  · exact sm_output (sm_seen h (s := 0) (by omega) (by omega)) (o := flip r.output 5) (by rw [flip_length, h.ok.output])
  · exact h
end Go.Proofs.YtpblfpnldbdncaaGreatDoor
