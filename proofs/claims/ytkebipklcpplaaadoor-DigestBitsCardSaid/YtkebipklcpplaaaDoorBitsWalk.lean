/- The walk of the law DigestBits. -/
import Derived.Test.YtkebipklcpplaaaDoorTextsWalk
import Derived.Lib.ConvBytes
namespace Go.Proofs.YtkebipklcpplaaaDoor
open Go.RowKit Go.Sort
set_option linter.unusedVariables false

theorem below_bytes (w : World) (e : TypeId) (s : ByteArray) : Below w.heap.size w (Lib.bytesWorld w e s) :=
  ⟨rfl, rfl, rfl, by rw [Lib.bytesWorld_size]; omega, fun k hk => Lib.bytesWorld_at_old w e s k hk⟩
theorem bytes_frozen (w : World) (e : TypeId) (s : ByteArray) (j : Nat) (hj : j < s.size) : (Lib.bytesWorld w e s).frozen? ⟨w.heap.size, j, none⟩ = false := by
  have : s.size ≤ (Lib.bytesCells w e s).size := by simp [Lib.bytesCells]
  simp [World.frozen?, Lib.bytesWorld_at_new]
  omega
set_option maxHeartbeats 2000000 in
set_option maxRecDepth 100000 in
theorem walk_DigestBits (s : ByteArray) (bit : Int) (hs : s.size ≤ maxLen) (hm : (Lit.int .i64 bit).wf = true) (w : World) (hT : Tabs w) :
    Calls Tryd.prog 7 #[.string s, .int .i64 bit] w fun e w' => e = .returned (.bool true) ∧ Below w.heap.size w w' := by
  have hn1 : -9223372036854775808 ≤ bit ∧ bit ≤ 9223372036854775807 := by simpa [Lit.wf, IntKind.min, IntKind.max, IntKind.signed, IntKind.bits] using hm
  clear hm
  unfold maxLen at hs
  have HT := Lib.hid hT
  clear hT
  have hcv := fun (W : World) (x : ByteArray) => Lib.run_convert_string_bytes (P := Tryd.prog) W 9 33 5 x (u := .string) Tryd.underlying9 Tryd.underlying33 Tryd.underlying5
  go_enter Tryd.func7, Tryd.ntmps7
  go_wp2_with fail
  refine (sanity3_any _ HT.out).mono ?_
  rintro e w1 ⟨rfl, hb1⟩
  have HT1 := Lib.hid (HT.out.below hb1)
  go_wp2_with fail
  have hm1 : min (min (s.size : Int) 200).toNat s.size ≤ 200 := by omega
  have hx : (s.extract 0 (min (s.size : Int) 200).toNat ++ (⟨#[101, 110, 100]⟩ : ByteArray)).size = min (min (s.size : Int) 200).toNat s.size + 3 := by
    rw [ByteArray.size_append, show (⟨#[101, 110, 100]⟩ : ByteArray).size = 3 from rfl]; simp
  generalize s.extract 0 (min (s.size : Int) 200).toNat ++ (⟨#[101, 110, 100]⟩ : ByteArray) = x at *
  generalize min (min (s.size : Int) 200).toNat s.size = m at *
  have hbl := (below_bytes w1 5 x)
  have hce := fun j (hj : j < m + 3) => Lib.bytesWorld_cell w1 5 x j (by omega)
  have hfr := fun j (hj : j < m + 3) => bytes_frozen w1 5 x j (by omega)
  have hsz := Lib.bytesWorld_size w1 5 x
  have hbig : w1.heap.size < (Lib.bytesWorld w1 5 x).heap.size := by omega
  clear hsz hcv
  generalize Lib.bytesWorld w1 5 x = W2 at *
  refine (mod_any _ _ _ (by omega) (by omega) (by omega) (by omega)).mono ?_
  rintro e w' ⟨rfl, rfl⟩
  obtain ⟨k, hk⟩ := Int.eq_ofNat_of_zero_le (show 0 ≤ bit % (8 * ((m : Int) + 3)) from Int.emod_nonneg _ (by omega))
  have hk2 : k < 8 * (m + 3) := by
    have := Int.emod_lt_of_pos bit (show 0 < 8 * ((m : Int) + 3) by omega)
    omega
  rw [hk]
  clear hk
  generalize grownCap w1 (m + 3) 0 5 = c at *
  have hc0 := hce (k / 8) (by omega)
  have hf0 := hfr (k / 8) (by omega)
  obtain ⟨y, ey⟩ : ∃ y, (x.data.toList.getD (k / 8) 0).toNat = y := ⟨_, rfl⟩
  have hy : y < 256 := by rw [← ey]; exact UInt8.toNat_lt _
  rw [ey] at hc0
  clear ey
  have q1 : (0 : Int) ≤ (k : Int) / 8 := by omega
  have q2 : (k : Int) / 8 < (m : Int) + 3 := by omega
  have q3 : ((k : Int) / 8).toNat = k / 8 := by omega
  have q4 : (0 : Int) ≤ (k : Int) % 8 := by omega
  have HCE := Lib.hid hce
  have HFR := Lib.hid hfr
  have HX := Lib.hid hx
  clear hce hfr hx
  go_wp2_with fail
  go_region
  obtain ⟨v, ev⟩ : ∃ v : Nat, bits BinOp.xor IntKind.u8 (y : Int) (2 ^ (k % 8) % 256) = (v : Int) :=
    ⟨_, u8_xor (y : Int) (2 ^ (k % 8) % 256) (by omega) (by omega) (Int.emod_nonneg _ (by omega)) (Int.emod_lt_of_pos _ (by omega))⟩
  rw [ev]
  clear ev
  have hb3 : Below w1.heap.size w1 ((W2.setCell ⟨w1.heap.size, k / 8, none⟩ (.int .u8 (v : Int))).drew) := (hbl.setCell (Nat.le_refl _) _).drew
  have hce3 : ∀ j, j < m + 3 → ((W2.setCell ⟨w1.heap.size, k / 8, none⟩ (.int .u8 (v : Int))).drew).cell? ⟨w1.heap.size, j, none⟩ = some (.int .u8 (((fun j => if j = k / 8 then v else (x.data.toList.getD j 0).toNat) j : Nat) : Int)) := by
    intro j hj
    show (W2.setCell ⟨w1.heap.size, k / 8, none⟩ (.int .u8 (v : Int))).cell? ⟨w1.heap.size, j, none⟩ = _
    by_cases e : j = k / 8
    · subst e
      show _ = some (Value.int .u8 ((if k / 8 = k / 8 then v else (x.data.toList.getD (k / 8) 0).toNat : Nat) : Int))
      rw [if_pos rfl]
      exact World.cell?_setCell_same W2 _ _ hc0
    · rw [World.cell?_setCell_other _ _ _ _ (fun h => e (by injection h with _ h2 _; exact h2.symm)), HCE.out j hj]
      simp only [if_neg e]
  have hbig3 : w1.heap.size < ((W2.setCell ⟨w1.heap.size, k / 8, none⟩ (.int .u8 (v : Int))).drew).heap.size := by simpa using hbig
  have hcv := fun (W : World) (hW : ∀ j, j < m + 3 → W.cell? ⟨w1.heap.size, j, none⟩ = some (.int .u8 (((fun j => if j = k / 8 then v else (x.data.toList.getD j 0).toNat) j : Nat) : Int))) => conv_row (P := Tryd.prog) (T := 54) (c := c) Tryd.underlying33 Tryd.underlying5 Tryd.underlying9 hW
  generalize (W2.setCell ⟨w1.heap.size, k / 8, none⟩ (.int .u8 (v : Int))).drew = W3 at *
  have hcv3 := hcv W3 hce3
  obtain ⟨z, ez⟩ : ∃ z : ByteArray, (⟨((List.range (m + 3)).map fun i => UInt8.ofNat ((fun j => if j = k / 8 then v else (x.data.toList.getD j 0).toNat) i)).toArray⟩ : ByteArray) = z := ⟨_, rfl⟩
  have hzs : z.size ≤ 300 := by
    rw [← ez]; show (Array.size _) ≤ 300; simp; omega
  rw [ez] at hcv3
  have HCV : Hid (∀ (W : World), Below W3.heap.size W3 W → (convert 33 9 (.slice (some ⟨w1.heap.size, 0, none⟩) (m + 3) c)).run Tryd.prog W = .ok (.string z) W) := by
    intro W hW
    rw [← ez]
    exact hcv W (fun j hj => (hW.cell (p := ⟨w1.heap.size, j, none⟩) hbig3).trans (hce3 j hj))
  clear hcv hce3 ez hc0 hf0 HCE HFR HX q1 q2 q3 q4 hbl hbig
  have HT3 := Lib.hid (HT1.out.below hb3)
  obtain ⟨h, eh, lh⟩ := some_sum z
  have EH := Lib.hid eh
  have heq := fun W => hash_eql h h lh lh W
  have LH := Lib.hid lh
  clear eh lh
  go_wp2_with fail
  refine (sum_is z h _ (by omega) HT3.out EH.out).mono ?_
  rintro e w4 ⟨rfl, hb4⟩
  clear hcv3
  go_wp2_with (refine store_hash LH.out rfl (.tmp 8) (.tmp 37) rfl rfl rfl rfl rfl ?_)
  have hbx : Below w4.heap.size w4 (w4.alloc (.cells (hashArr h) 24)) := (Below.refl _ _).alloc (Nat.le_refl _) _
  have LB := Lib.hid (hash_load LH.out (heap_alloc_new w4 (.cells (hashArr h) 24)))
  generalize w4.alloc (.cells (hashArr h) 24) = W5 at *
  have hB5 := below_join hb4 hbx
  have CV : ∀ (d : Nat) (os : Array Obj), (convert 33 9 (.slice (some ⟨w1.heap.size, 0, none⟩) (m + 3) c)).run Tryd.prog (grow (redrawn W5 d) os) = .ok (.string z) (grow (redrawn W5 d) os) := fun d os => HCV.out _ (below_join hB5 (below_regrown W5 d os))
  have HB5 := Lib.hid (below_join hb1 (hb3.trans (hB5.mono hb3.size)))
  clear hb1 hb3 hb4 hbx hB5
  refine wp_region_quiet_below (by kernel_rfl) (by kernel_rfl) ?_
  repeat (first | (refine quiet_load_row (by rfl) _ _ rfl _ _ rfl _ LB.out ?_; simp only [Act.put, List.setIfInBounds_toArray, List.set_cons_zero, List.set_cons_succ]) | go_big_quiet_step ((with_reducible exact Calls.regrown_of (rsum_is z h _ (by omega) EH.out))))
  refine wpQuiet_nil ?_
  intro _ hw'
  obtain ⟨⟨dq, osq⟩, hw''⟩ := hw'
  subst hw''
  go_wp2_with fail
  go_ret
  exact ⟨by first | rfl | exact ret_bool (by simp), HB5.out.trans ((below_regrown W5 dq osq).mono HB5.out.size)⟩
end Go.Proofs.YtkebipklcpplaaaDoor
