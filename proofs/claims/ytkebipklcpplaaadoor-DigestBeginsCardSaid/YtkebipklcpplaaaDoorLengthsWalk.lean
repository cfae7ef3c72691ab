/- The contracts of mod and repeated, and the walk of the law DigestLengths. -/
import Derived.Test.YtkebipklcpplaaaDoorSumsWalk3
import Derived.Test.YtkebipklcpplaaaDoorNum
import Derived.Laws.MakeOwn
namespace Go.Proofs.YtkebipklcpplaaaDoor
open Go.RowKit
set_option linter.unusedVariables false

theorem mod_eq (n m : Int) (hm : 1 ≤ m) : (n.tmod m + m) % m = n % m := by
  have h1 := Int.tmod_eq_emod (a := n) (b := m)
  have h4 : (m.natAbs : Int) = m := by omega
  split at h1
  · rw [h1]; simp
  · rw [h1, h4, Int.sub_add_cancel, Int.emod_emod]
theorem mod_any (n m : Int) (w : World) (h1 : 1 ≤ m) (h2 : m ≤ 4611686018427387904) (hn : -9223372036854775808 ≤ n) (hn' : n ≤ 9223372036854775807) :
    Calls Tryd.prog 19 #[.int .i64 n, .int .i64 m] w fun e w' => e = .returned (.int .i64 (n % m)) ∧ w = w' := by
  have hl := Num.tmod_lo n m h1
  have H := Lib.hid (mod_eq n m h1)
  have hd : (m == 0) = false := by simp; omega
  go_enter Tryd.func19, Tryd.ntmps19
  go_wp2
  go_ret
  exact ⟨ret_int H.out, rfl⟩

/-- a string of n bytes -/
def SomeStr (n : Nat) (e : Ending) : Prop := ∃ s : ByteArray, s.size = n ∧ e = .returned (.string s)
theorem byte_info : (Tryd.prog.info? 5).map (fun i => (i.zero, i.size, i.bytes)) = some (some (.int .u8 0), 1, 1) := by kernel_rfl

set_option maxHeartbeats 1000000 in
theorem repeated_any (c : Int) (hc : 0 ≤ c) (hc' : c ≤ 255) (n : Nat) (hn : n ≤ 400) (w : World) :
    Calls Tryd.prog 18 #[.int .u8 c, .int .i64 (n : Int)] w fun e w' => SomeStr n e ∧ Below w.heap.size w w' := by
  obtain ⟨i0, hi, hz0, hz1, hz2⟩ := info_parts byte_info
  have hmk : ∀ u : World, (Instr.makeSlice 33 (.int .i64 (n : Int)) (.int .i64 (n : Int))).run Tryd.prog u =
      .ok (.slice (some ⟨u.heap.size, 0, none⟩) n n) (u.alloc (.cells (madeCells #[.int .u8 0] n) 5)) := fun u => by
    have h := run_make (P := Tryd.prog) u 33 5 i0 (.int .u8 0) Tryd.underlying33 hi hz0 .i64 .i64 (n : Int) (n : Int) (by omega) (Int.le_refl _) (by rw [hz2]; omega) (by omega)
    rw [Int.toNat_natCast] at h
    simpa [hz1, Value.cells] using h
  clear hi hz0 hz1 hz2
  go_enter Tryd.func18, Tryd.ntmps18
  go_wp2_with fail
  have hr0 := World.rowIs_made w (.int .u8 0) n 5
  have hb0 : Below w.heap.size w (w.alloc (.cells (madeCells #[.int .u8 0] n) 5)) := (Below.refl _ _).alloc (Nat.le_refl _) _
  generalize w.alloc _ = W0 at *
  clear hmk
  go_loopw [6] (fun i wr => ∃ (k : Nat) (f : Nat → Nat), k ≤ n ∧ i = .int .i64 k ∧ wr.rowIs w.heap.size 5 n (fun j => .int .u8 (f j : Nat)) ∧ Below w.heap.size w wr) (fun i _ => n - (intOf i).toNat)
  case atStart => exact ⟨0, fun _ => 0, by omega, rfl, hr0, hb0⟩
  case round =>
    obtain ⟨k, f, hk, rfl, hr, hbw⟩ := hrel
    by_cases hlt : k < n
    · have c0 := hr.cell (i := k) hlt
      have f0 := hr.frozen k
      have hd : decide ((k : Int) < (n : Int)) = true := by simp; omega
      go_wp2_with fail
      go_roundw
      case rel =>
        refine ⟨k + 1, fun j => if j = k then ((c + (k : Int) / 100) % 256).toNat else f j, by omega, by go_num, (hr.set k _).congr fun j _ => ?_, hbw.setCell (by simp) _⟩
        by_cases e : j = k
        · simp only [if_pos e]
          congr 1
          omega
        · simp only [if_neg e]
      case measure => simp [intOf]; omega
    · have hd : decide ((k : Int) < (n : Int)) = false := by simp; omega
      obtain ⟨s, es⟩ : ∃ s : ByteArray, (⟨((List.range n).map fun i => UInt8.ofNat (f i)).toArray⟩ : ByteArray) = s := ⟨_, rfl⟩
      have hss : Hid (s.size = n) := by
        show s.size = n
        rw [← es]; show (List.map _ _).toArray.size = n; simp
      have hcv : Sem.run Tryd.prog (convert 33 9 (Value.slice (some ⟨w.heap.size, 0, none⟩) n n)) wr = Result.ok (.string s) wr := by
        rw [← es]
        exact conv_row (P := Tryd.prog) (T := 5) (c := n) Tryd.underlying33 Tryd.underlying5 Tryd.underlying9 (fun i hi => hr.cell (i := i) (n := n) hi)
      clear es
      go_wp2_with fail
      go_ret
      exact ⟨⟨s, hss.out, rfl⟩, hbw⟩

set_option maxHeartbeats 1000000 in
set_option maxRecDepth 100000 in
theorem walk_DigestLengths (c n far : Int) (hc : (Lit.int .u8 c).wf = true) (hn : (Lit.int .i64 n).wf = true) (hf : (Lit.int .i64 far).wf = true) (w : World) (hT : Tabs w) :
    Calls Tryd.prog 4 #[.int .u8 c, .int .i64 n, .int .i64 far] w fun e w' => e = .returned (.bool true) ∧ Below w.heap.size w w' := by
  have hc1 : 0 ≤ c ∧ c ≤ 255 := by simpa [Lit.wf, IntKind.min, IntKind.max, IntKind.signed, IntKind.bits] using hc
  have hn1 : -9223372036854775808 ≤ n ∧ n ≤ 9223372036854775807 := by simpa [Lit.wf, IntKind.min, IntKind.max, IntKind.signed, IntKind.bits] using hn
  have hf1 : -9223372036854775808 ≤ far ∧ far ≤ 9223372036854775807 := by simpa [Lit.wf, IntKind.min, IntKind.max, IntKind.signed, IntKind.bits] using hf
  clear hc hn hf
  have HT := Lib.hid hT
  clear hT
  go_enter Tryd.func4, Tryd.ntmps4
  go_wp2_with fail
  refine (sanity3_any _ HT.out).mono ?_
  rintro e w1 ⟨rfl, hb1⟩
  have HT1 := Lib.hid (HT.out.below hb1)
  go_wp2_with fail
  refine (mod_any _ _ _ (by omega) (by omega) (by omega) (by omega)).mono ?_
  rintro e w' ⟨rfl, rfl⟩
  obtain ⟨a, ha⟩ := Int.eq_ofNat_of_zero_le (show 0 ≤ n % 300 by omega)
  have ha2 : a < 300 := by omega
  rw [ha]
  clear ha
  go_wp2_with fail
  refine (repeated_any c (by omega) (by omega) a (by omega) _).mono ?_
  rintro e w2 ⟨⟨s, hs, rfl⟩, hb2⟩
  have hs1 : s.size ≤ 400 := by omega
  clear hs
  have HT2 := Lib.hid (HT1.out.below hb2)
  go_wp2_with fail
  refine (mod_any _ _ _ (by omega) (by omega) (by omega) (by omega)).mono ?_
  rintro e w' ⟨rfl, rfl⟩
  obtain ⟨b, hb⟩ := Int.eq_ofNat_of_zero_le (show 0 ≤ n % 4 by omega)
  have hb4 : b < 4 := by omega
  rw [hb]
  clear hb
  go_wp2_with fail
  refine (mod_any _ _ _ (by omega) (by omega) (by omega) (by omega)).mono ?_
  rintro e w' ⟨rfl, rfl⟩
  obtain ⟨d, hd⟩ := Int.eq_ofNat_of_zero_le (show 0 ≤ far % 20 by omega)
  have hd4 : d < 20 := by omega
  rw [hd]
  clear hd
  go_wp2_with fail
  rw [show (64 * (b : Int) + 50 + (d : Int)) = ((64 * b + 50 + d : Nat) : Int) by omega]
  refine (repeated_any c (by omega) (by omega) (64 * b + 50 + d) (by omega) _).mono ?_
  rintro e w3 ⟨⟨t, ht, rfl⟩, hb3⟩
  have ht1 : t.size ≤ 400 := by omega
  clear ht
  have HT3 := Lib.hid (HT2.out.below hb3)
  obtain ⟨h, eh, lh⟩ := some_sum s
  have EH := Lib.hid eh
  have heq := fun W => hash_eql h h lh lh W
  clear eh lh
  obtain ⟨g, eg, lg⟩ := some_sum t
  have EG := Lib.hid eg
  have geq := fun W => hash_eql g g lg lg W
  clear eg lg
  go_wp2_with fail
  refine (sum_is s h _ (by omega) HT3.out EH.out).mono ?_
  rintro e w4 ⟨rfl, hb4'⟩
  have HT4 := Lib.hid (HT3.out.below hb4')
  go_wp2_with fail
  refine (rsum_is s h _ (by omega) EH.out).mono ?_
  rintro e w5 ⟨rfl, hb5⟩
  have HT5 := Lib.hid (HT4.out.below hb5)
  go_wp2_with fail
  refine (sum_is t g _ (by omega) HT5.out EG.out).mono ?_
  rintro e w6 ⟨rfl, hb6⟩
  go_wp2_with fail
  refine (rsum_is t g _ (by omega) EG.out).mono ?_
  rintro e w7 ⟨rfl, hb7⟩
  go_wp2_with fail
  go_ret
  exact ⟨ret_bool (by simp), below_join (below_join (below_join (below_join (below_join (below_join hb1 hb2) hb3) hb4') hb5) hb6) hb7⟩
end Go.Proofs.YtkebipklcpplaaaDoor
