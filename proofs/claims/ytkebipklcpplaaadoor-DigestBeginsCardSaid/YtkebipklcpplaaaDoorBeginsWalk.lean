/- The walk of the law DigestBegins. -/
import Derived.Test.YtkebipklcpplaaaDoorStreamWalk
namespace Go.Proofs.YtkebipklcpplaaaDoor
open Go.RowKit Go.Sort
set_option linter.unusedVariables false
theorem stream_len (x : List UInt8) (n : Nat) : (Sha.stream x n).length = n := by rw [Sha.stream_is]; simp
theorem stream_begin (x : List UInt8) (a b : Nat) (h : a ≤ b) : (Sha.stream x b).take a = Sha.stream x a := by
  rw [Sha.stream_is, Sha.stream_is, ← List.map_take]
  congr 1
  apply List.ext_getElem?
  intro i
  rw [List.getElem?_take]
  by_cases hi : i < a
  · rw [if_pos hi, List.getElem?_range hi, List.getElem?_range (by omega)]
  · rw [if_neg hi, List.getElem?_eq_none (by simp; omega)]
theorem extract_bytes (l : List UInt8) (i j : Nat) : (⟨l.toArray⟩ : ByteArray).extract i j = ⟨((l.drop i).take (j - i)).toArray⟩ := by
  ext1
  simp
theorem stream_block (x : List UInt8) (b k : Nat) (h : 32 * (k + 1) ≤ b) : ((Sha.stream x b).drop (32 * k)).take 32 = Sha.blk x k := by
  apply List.ext_getElem?
  intro i
  rw [List.getElem?_take, List.getElem?_drop]
  have hl : (Sha.blk x k).length = 32 := Sha.sum_length _
  by_cases hi : i < 32
  · rw [if_pos hi, Sha.stream_is, List.getElem?_map, List.getElem?_range (by omega)]
    show some (Sha.strm x (32 * k + i)) = _
    unfold Sha.strm
    rw [show (32 * k + i) / 32 = k by omega, show (32 * k + i) % 32 = i by omega, List.getD_eq_getElem?_getD, List.getElem?_eq_getElem (show i < (Sha.blk x k).length by omega)]
    rfl
  · rw [if_neg hi, List.getElem?_eq_none (by omega)]
/-- 'string(h[:])' of a hash that lies in memory, behind quiet steps -/
theorem cut_string (s : ByteArray) (i j : Nat) (hi : i ≤ j) (hj : j ≤ s.size) (x y : Int) (hx : x = (i : Int)) (hy : y = (j : Int)) (w : World) : (Instr.slice 9 (.string s) (some (.int .i64 x)) (some (.int .i64 y)) none).run Tryd.prog w = .ok (.string (s.extract i j)) w := by
  subst hx hy
  have r1 : (0 : Int) ≤ (i : Int) := by omega
  have r2 : (i : Int) ≤ (j : Int) := by omega
  have r3 : (j : Int) ≤ (s.size : Int) := by omega
  have r4 : (i : Int).toNat = i := by omega
  have r5 : (j : Int).toNat = j := by omega
  have r6 : (0 : Int) ≤ (j : Int) := by omega
  go_simp
theorem conv_hashB {w : World} {b : Nat} {l : List UInt8} {t : TypeId} {fr : Nat × Nat} (hl : l.length = 32) (hb : w.heap[b]? = some (.cells (hashArr l) t fr)) :
    (convert 33 9 (.slice (some ⟨b, 0, none⟩) 32 32)).run Tryd.prog w = .ok (.string ⟨l.toArray⟩) w := by
  have e : ((List.range 32).map fun i => UInt8.ofNat ((fun i => (l.getD i 0).toNat) i)) = l := by
    apply List.ext_getElem?
    intro i
    by_cases hi : i < 32
    · rw [List.getElem?_map, List.getElem?_range hi, List.getElem?_eq_getElem (show i < l.length by omega)]
      simp [List.getD_eq_getElem?_getD, List.getElem?_eq_getElem (show i < l.length by omega)]
    · rw [List.getElem?_eq_none (by simp; omega), List.getElem?_eq_none (by omega)]
  have := conv_row (P := Tryd.prog) (T := 24) (w := w) (b := b) (n := 32) (c := 32) (g := fun i => (l.getD i 0).toNat) Tryd.underlying33 Tryd.underlying5 Tryd.underlying9 (fun i hi => hash_cell' hl hb i hi)
  rw [e] at this
  exact this
set_option maxHeartbeats 2000000 in
set_option maxRecDepth 100000 in
theorem begins_at (s : ByteArray) (A B : Nat) (hA : A < 65536) (hB : B < 65536) (w : World) (hT : Tabs w) :
    Calls Tryd.prog 12 #[.string s, .int .u16 (A : Int), .int .u16 (B : Int)] w fun e w' => e = .returned (.bool true) ∧ Below w.heap.size w w' := by
  have HT := Lib.hid hT
  obtain ⟨p, ep⟩ : ∃ p, A % 330 = p := ⟨_, rfl⟩
  obtain ⟨q, eq⟩ : ∃ q, B % 330 = q := ⟨_, rfl⟩
  have qp : Int.tmod (A : Int) 330 = (p : Int) := by rw [Int.tmod_eq_emod_of_nonneg (by omega)]; omega
  have qq : Int.tmod (B : Int) 330 = (q : Int) := by rw [Int.tmod_eq_emod_of_nonneg (by omega)]; omega
  have wp : IntKind.u16.wrap (p : Int) = (p : Int) := by simp [IntKind.wrap, IntKind.signed, IntKind.bits]; omega
  have wq : IntKind.u16.wrap (q : Int) = (q : Int) := by simp [IntKind.wrap, IntKind.signed, IntKind.bits]; omega
  obtain ⟨a, ea⟩ : ∃ a, min p q = a := ⟨_, rfl⟩
  obtain ⟨b, eb⟩ : ∃ b, max p q = b := ⟨_, rfl⟩
  have qa : min (p : Int) (q : Int) = (a : Int) := by omega
  have qb : max (p : Int) (q : Int) = (b : Int) := by omega
  have wa : IntKind.i64.wrap (a : Int) = (a : Int) := IntWalk.i64_in _ (by omega)
  have wb : IntKind.i64.wrap (b : Int) = (b : Int) := IntWalk.i64_in _ (by omega)
  have hab : a ≤ b := by omega
  have hb330 : b < 330 := by omega
  clear hT ep eq ea eb
  go_enter Tryd.func12, Tryd.ntmps12
  go_wp2_with fail
  refine (sanity3_any _ HT.out).mono ?_
  rintro e w1 ⟨rfl, hb1⟩
  have HT1 := Lib.hid (HT.out.below hb1)
  have B1 := Lib.hid hb1
  clear hb1 HT
  have hx : (s.extract 0 (min (s.size : Int) 100).toNat).size ≤ 100 := by simp; omega
  go_wp2_with fail
  generalize s.extract 0 (min (s.size : Int) 100).toNat = x at *
  obtain ⟨sa, CA, _, ea⟩ := streams_agree x a (by omega) (by omega)
  obtain ⟨tb, CB, _, eb⟩ := streams_agree x b (by omega) (by omega)
  have la : sa.size = a := by rw [ea]; simpa [ByteArray.size] using stream_len x.data.toList a
  have lb : tb.size = b := by rw [eb]; simpa [ByteArray.size] using stream_len x.data.toList b
  have ext : tb.extract 0 a = sa := by rw [ea, eb, extract_bytes, List.drop_zero, Nat.sub_zero, stream_begin _ _ _ hab]
  have EBLK : Hid (∀ k, 32 * (k + 1) ≤ b → tb.extract (32 * k) (32 * (k + 1)) = ⟨(Sha.blk x.data.toList k).toArray⟩) := fun k hk => by
    rw [eb, extract_bytes, show 32 * (k + 1) - 32 * k = 32 by omega, stream_block _ _ _ hk]
  have eqs : (sa.toList == sa.toList) = true := by simp
  have dab : (a : Int) ≤ (b : Int) := by omega
  have da0 : (0 : Int) ≤ (a : Int) := by omega
  have dat : (a : Int).toNat = a := by omega
  have HA := Lib.hid CA
  have HB := Lib.hid CB
  clear CA CB ea eb
  refine (HA.out _ HT1.out).mono ?_
  rintro e w2 ⟨rfl, hb2⟩
  have B2 := Lib.hid (below_join B1.out hb2)
  have HT2 := Lib.hid (HT1.out.below hb2)
  clear hb2 B1 HT1
  go_wp2_with fail
  refine (HB.out _ HT2.out).mono ?_
  rintro e w3 ⟨rfl, hb3⟩
  have B3 := Lib.hid (below_join B2.out hb3)
  have HT3 := Lib.hid (HT2.out.below hb3)
  clear hb3 B2 HT2
  go_wp2_with fail
  go_loopw [13] (fun v wr => ∃ k : Nat, 32 * k ≤ b ∧ v = .int .i64 k ∧ Below w3.heap.size w3 wr) (fun v _ => 12 - (intOf v).toNat)
  case atStart => exact ⟨0, by omega, rfl, Below.refl _ _⟩
  case round =>
    obtain ⟨k, hk, rfl, hbw⟩ := hrel
    have HBW := Lib.hid hbw
    clear hbw
    have q1 : IntKind.i64.wrap ((k : Int) + 1) = (k : Int) + 1 := IntWalk.i64_in _ (by omega)
    have q2 : IntKind.i64.wrap (32 * ((k : Int) + 1)) = 32 * ((k : Int) + 1) := IntWalk.i64_in _ (by omega)
    by_cases hkb : 32 * (k + 1) ≤ b
    · have dk : decide (32 * ((k : Int) + 1) ≤ (b : Int)) = true := by simp; omega
      have q3 : Int.tmod (k : Int) 10 = (k : Int) := by rw [Int.tmod_eq_emod_of_nonneg (by omega)]; omega
      have q4 : IntKind.i64.wrap (k : Int) = (k : Int) := IntWalk.i64_in _ (by omega)
      have q5 : IntKind.i64.wrap (48 + (k : Int)) = 48 + (k : Int) := IntWalk.i64_in _ (by omega)
      have q6 : IntKind.u8.wrap (48 + (k : Int)) = 48 + (k : Int) := by simp [IntKind.wrap, IntKind.signed, IntKind.bits]; omega
      have d9 : decide ((9 : Int) < (k : Int)) = false := by simp; omega
      have q7 : IntKind.i64.wrap (32 * (k : Int)) = 32 * (k : Int) := IntWalk.i64_in _ (by omega)
      have r1 : (0 : Int) ≤ 32 * (k : Int) := by omega
      have r2 : 32 * (k : Int) ≤ 32 * ((k : Int) + 1) := by omega
      have r3 : 32 * ((k : Int) + 1) ≤ (b : Int) := by omega
      have r4 : (32 * (k : Int)).toNat = 32 * k := by omega
      have r5 : (32 * ((k : Int) + 1)).toNat = 32 * (k + 1) := by omega
      have hcv := conv_one (P := Tryd.prog) (T := 5) Tryd.underlying33 Tryd.underlying5 Tryd.underlying9 (48 + (k : Int)) wr
      obtain ⟨ds, eds⟩ : ∃ s : ByteArray, (⟨#[UInt8.ofNat (48 + (k : Int)).toNat]⟩ : ByteArray) = s := ⟨_, rfl⟩
      rw [eds] at hcv
      have zd : ds.size = 1 := by rw [← eds]; rfl
      have zone : (⟨#[47]⟩ : ByteArray).size = 1 := rfl
      obtain ⟨x1, ex1⟩ : ∃ s : ByteArray, x ++ (⟨#[47]⟩ : ByteArray) = s := ⟨_, rfl⟩
      have z1 : x1.size = x.size + 1 := by rw [← ex1, ByteArray.size_append, zone]
      obtain ⟨x2, ex2⟩ : ∃ s : ByteArray, x1 ++ ds = s := ⟨_, rfl⟩
      have z2 : x2.size ≤ 2000 := by rw [← ex2, ByteArray.size_append]; omega
      have BK : Hid (Sha.sum x2.data.toList = Sha.blk x.data.toList k) := by
        show _ = _
        rw [← ex2, ← ex1, ← eds, Sha.blk, Lib.decDigits, dif_pos (show k < 10 by omega), show (48 + (k : Int)).toNat = 48 + k by omega]
        congr 1
        simp
      have n1 : ¬ 9223372036854775807 < x.size + 1 := by omega
      have n2 : ¬ 9223372036854775807 < x1.size + ds.size := by omega
      have ba : Below wr.heap.size wr (wr.alloc (.cells #[.int .u8 (48 + (k : Int))] 5)) := (Below.refl _ _).alloc (Nat.le_refl _) _
      have HBA := Lib.hid (below_join HBW.out ba)
      have CS := Lib.hid (sum_any x2 (wr.alloc (.cells #[.int .u8 (48 + (k : Int))] 5)) (by omega) (HT3.out.below HBA.out))
      rw [BK.out] at CS
      have LB : Hid ((Sha.blk x.data.toList k).length = 32) := Sha.sum_length _
      have EX := EBLK.out k hkb
      obtain ⟨hs, ehs⟩ : ∃ s : ByteArray, (⟨(Sha.blk x.data.toList k).toArray⟩ : ByteArray) = s := ⟨_, rfl⟩
      rw [ehs] at EX
      have EHS := Lib.hid ehs
      have eqh : (hs.toList == hs.toList) = true := by simp
      clear eds zd zone z1 z2 ba ehs
      go_wp2_with fail
      refine CS.out.mono ?_
      rintro e w4 ⟨rfl, hb4⟩
      have B4 := Lib.hid (below_join HBA.out hb4)
      clear hb4 CS hcv
      go_wp2_with (refine store_hash LB.out rfl (.tmp 15) (.tmp 78) rfl rfl rfl rfl rfl ?_)
      have P5 := Lib.hid (heap_alloc_new w4 (.cells (hashArr (Sha.blk x.data.toList k)) 24))
      have B5 := Lib.hid (below_join B4.out ((Below.refl w4.heap.size w4).alloc (Nat.le_refl _) (.cells (hashArr (Sha.blk x.data.toList k)) 24)))
      clear B4
      generalize w4.alloc (.cells (hashArr (Sha.blk x.data.toList k)) 24) = W5 at *
      have cv : ∀ d os, (convert 33 9 (.slice (some ⟨w4.heap.size, 0, none⟩) 32 32)).run Tryd.prog (grow (redrawn W5 d) os) = .ok (.string hs) (grow (redrawn W5 d) os) := fun d os => by
        rw [← EHS.out]
        exact conv_hashB LB.out (heap_below P5.out (below_regrown W5 d os))
      have hsl : ∀ V, (Instr.slice 9 (.string tb) (some (.int .i64 (32 * (k : Int)))) (some (.int .i64 (32 * ((k : Int) + 1)))) none).run Tryd.prog V = .ok (.string hs) V := fun V => by
        rw [← EX]
        exact cut_string tb (32 * k) (32 * (k + 1)) (by omega) (by omega) _ _ (by omega) (by omega) V
      refine wp_region_quiet_below (by kernel_rfl) (by kernel_rfl) ?_
      repeat (go_big_quiet_step (fail))
      refine wpQuiet_nil ?_
      intro _ hw'
      obtain ⟨⟨dq, osq⟩, hw''⟩ := hw'
      subst hw''
      have BQ := Lib.hid (below_join B5.out (below_regrown W5 dq osq))
      clear cv
      go_wp2_with fail
      go_roundw
      case rel => exact ⟨k + 1, by omega, by go_num, BQ.out⟩
      case measure => simp [intOf]; omega
    · have dk : decide (32 * ((k : Int) + 1) ≤ (b : Int)) = false := by simp; omega
      have BE := Lib.hid (below_join B3.out HBW.out)
      go_wp2_with fail
      go_ret
      exact ⟨rfl, BE.out⟩
theorem walk_DigestBegins (s : ByteArray) (n m : Int) (hn : (Lit.int .u16 n).wf = true) (hm : (Lit.int .u16 m).wf = true) (w : World) (hT : Tabs w) :
    Calls Tryd.prog 12 #[.string s, .int .u16 n, .int .u16 m] w fun e w' => e = .returned (.bool true) ∧ Below w.heap.size w w' := by
  have hn1 : 0 ≤ n ∧ n ≤ 65535 := by simpa [Lit.wf, IntKind.min, IntKind.max, IntKind.signed, IntKind.bits] using hn
  have hm1 : 0 ≤ m ∧ m ≤ 65535 := by simpa [Lit.wf, IntKind.min, IntKind.max, IntKind.signed, IntKind.bits] using hm
  obtain ⟨A, rfl⟩ : ∃ A : Nat, n = (A : Int) := ⟨n.toNat, by omega⟩
  obtain ⟨B, rfl⟩ : ∃ B : Nat, m = (B : Int) := ⟨m.toNat, by omega⟩
  exact begins_at s A B (by omega) (by omega) w hT
end Go.Proofs.YtkebipklcpplaaaDoor
