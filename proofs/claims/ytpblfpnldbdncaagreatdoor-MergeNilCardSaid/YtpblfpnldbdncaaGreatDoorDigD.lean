/- Contracts of the reference's numbers by digits: number. -/
import Derived.Test.YtpblfpnldbdncaaGreatDoorDigC
import Derived.Deep.RegionHeld3
import Derived.WalkSpells
import Derived.Deep.AppendLies
namespace Go.Proofs.YtpblfpnldbdncaaGreatDoor
open Go.RowKit Go.Sort
set_option linter.unusedVariables false
def b3 (d : Nat) : List UInt8 := [UInt8.ofNat (d / 65536), UInt8.ofNat (d / 256), UInt8.ofNat d]
theorem wrap_u8 (k : Nat) : IntKind.u8.wrap (k : Int) = ((UInt8.ofNat k).toNat : Int) := by
  simp only [UInt8.toNat_ofNat']
  show (k : Int) % 256 = _
  omega
theorem b3_cells (d : Nat) : (bvals (b3 d)).toArray = #[.int .u8 (IntKind.u8.wrap ((d : Int) / 65536)), .int .u8 (IntKind.u8.wrap ((d : Int) / 256)), .int .u8 (IntKind.u8.wrap (d : Int))] := by
  have h1 : ((d : Int) / 65536) = ((d / 65536 : Nat) : Int) := by omega
  have h2 : ((d : Int) / 256) = ((d / 256 : Nat) : Int) := by omega
  rw [h1, h2, wrap_u8, wrap_u8, wrap_u8]
  rfl
theorem b3_val (bs : List UInt8) (d : Nat) (h : d < 16777216) : Nb.val (bs ++ b3 d) = Nb.val bs * 16777216 + d := by
  rw [Nb.val_append]
  show Nb.val bs * 256 ^ 3 + (((0 * 256 + (UInt8.ofNat (d / 65536)).toNat) * 256 + (UInt8.ofNat (d / 256)).toNat) * 256 + (UInt8.ofNat d).toNat) = _
  simp only [UInt8.toNat_ofNat']
  omega
theorem step_append_b3 {ops : Array Oper} {o : Oper} {a : Act} {w : World} {K : Act → World → Prop} {Q : Exit → Act → World → Prop} {E : Prop} (hgd : o.guard = none) (s x : Operand)
    (ho : o.op = Op.call { callee := Callee.builtin Builtin.append, args := #[s, x], argTypes := #[67, 67] })
    (base : Nat) (v : Value) (xs : List UInt8) (d : Nat) (B : Nat) (hsv : a.eval s = v) (hx : a.eval x = .slice (some ⟨B, 0, none⟩) 3 3) (hown : w.ownsRow base 5 1 v xs.length (bvals xs)) (hB : w.heap[B]? = some (.cells #[.int .u8 (IntKind.u8.wrap ((d : Int) / 65536)), .int .u8 (IntKind.u8.wrap ((d : Int) / 256)), .int .u8 (IntKind.u8.wrap (d : Int))] 5 (0, 0))) (hl : xs.length ≤ 100000) (hb : base ≤ w.heap.size)
    (h : ∀ v' w', w'.ownsRow base 5 1 v' (xs ++ b3 d).length (bvals (xs ++ b3 d)) → w.grownBy w' v.ownBlock → K (a.put o.dst v') w') :
    if Region.wanted o (yielded ops a.tmps) = true then Oper.wp Tryz.prog o a w K Q else E := by
  obtain ⟨i0, hi, hz0, hz1, hz2⟩ := info_parts byte_info
  rw [← b3_cells] at hB
  refine step_append_lies (P := Tryz.prog) w hgd s x 67 ho base 5 i0 _ 1 1 Tryz.underlying67 hi hz0 hz1 hz2 rfl (by omega) v xs.length (bvals xs) hsv hown ⟨B, 0, none⟩ 3 3 (bvals (b3 d)) hx rfl (World.news_of_block hB)
    (by intro u hu; obtain ⟨y, _, rfl⟩ := List.mem_map.1 hu; rfl) (by omega) (by unfold maxLen; omega) (by omega) hb w.heap.size rfl ?_
  intro g cap w' hown' hgrow hat hlt
  refine h _ w' ?_ hgrow
  rw [show bvals (xs ++ b3 d) = bvals xs ++ bvals (b3 d) by simp [bvals], List.length_append]
  exact hown'
theorem owns_u8 {w : World} {base : Nat} {v : Value} {n : Nat} {xs : List Value} (h : w.ownsRow base 5 1 v n xs) : ∀ b, v.ownBlock = some b → base ≤ b ∧ b < w.heap.size := by
  intro b hb
  rcases h.2 with ⟨rfl, _⟩ | ⟨g, cap, cur, rfl, h1, h2, _⟩
  · cases hb
  · have : g = b := by simpa [Value.ownBlock] using hb
    subst this
    refine ⟨h1, ?_⟩
    rcases Nat.lt_or_ge g w.heap.size with h | h
    · exact h
    · rw [Array.getElem?_eq_none h] at h2; cases h2
set_option maxHeartbeats 4000000 in
set_option maxRecDepth 100000 in
theorem dnumber_any {w : World} {u : Value} {l : List Nat} (h : DigAt w u l) (hf : Dg.Fit l) (hl : l.length ≤ 100) :
    Calls Tryz.prog 130 #[u] w fun e w' => e = .returned (.string (bstr (Nb.enc (Dg.dval l)))) ∧ Below w.heap.size w w' := by
  obtain ⟨n, hn⟩ : ∃ n, l.length = n := ⟨_, rfl⟩
  obtain ⟨ao, cap, rfl, hnc, hc⟩ := h.slice hn
  rw [hn] at hl
  have HN := Lib.hid hn
  have HC := Lib.hid hc
  have HF := Lib.hid hf
  clear h hc hn hf
  go_enter Tryz.func130, Tryz.ntmps130
  go_wp2_with fail
  go_loopw [3, 4] (fun o z wr => ∃ (i : Nat) (zz : Int) (bs : List UInt8), zz = (i : Int) - 1 ∧ i ≤ n ∧ z = .int .i64 zz ∧ Nb.val bs = Dg.dval (l.drop i) ∧ bs.length = 3 * (n - i) ∧ wr.ownsRow w.heap.size 5 1 o bs.length (bvals bs) ∧ Below w.heap.size w wr) (fun _ z _ => (intOf z + 1).toNat)
  case atStart => exact ⟨n, _, [], rfl, Nat.le_refl _, rfl, by rw [List.drop_of_length_le (by rw [HN.out]; exact Nat.le_refl _)]; rfl, by simp, ⟨rfl, .inl ⟨rfl, rfl⟩⟩, Below.refl _ _⟩
  case round =>
    obtain ⟨i, zz, bs, hzz, hi, rfl, hv, hbl, hO, hb⟩ := hrel
    have HV := Lib.hid hv
    have HBL := Lib.hid hbl
    have HO := Lib.hid hO
    have HB := Lib.hid hb
    clear hv hbl hO hb
    rcases Nat.eq_zero_or_pos i with h0 | h0
    · subst h0
      have hz' : zz = -1 := by simpa using hzz
      subst hz'
      clear hzz
      have hcv := fun (D : TypeId) (hd : Tryz.prog.underlying D = some .string) => conv_owns HO.out D hd
      have CC := Lib.hid (canon_num (bstr bs) (Dg.dval l) wr (by rw [bstr_size, HBL.out]; unfold maxLen; omega) (by show Nb.val bs = _; have := HV.out; simpa using this))
      have cv := hcv 40 Tryz.underlying40
      clear hcv
      go_wp2_with fail
      refine CC.out.mono ?_
      rintro e w' ⟨rfl, rfl⟩
      clear cv
      go_wp2_with fail
      go_ret
      exact ⟨rfl, HB.out⟩
    · obtain ⟨j, rfl⟩ : ∃ j, i = j + 1 := ⟨i - 1, by omega⟩
      obtain rfl : zz = (j : Int) := by rw [hzz]; omega
      clear hzz h0
      obtain ⟨d, hd⟩ : ∃ d, l[j]? = some d := ⟨l[j]'(by rw [HN.out]; omega), List.getElem?_eq_getElem _⟩
      have hdb := HF.out d (List.mem_of_getElem? hd)
      obtain ⟨g, rfl, cx⟩ := HC.out j d hd
      have cx2 : wr.cell? ⟨g, j, none⟩ = some (.int .i64 (d : Int)) := (HB.out.cell (block_lt_of_cell cx)).trans cx
      have NV : Hid (Nb.val (bs ++ b3 d) = Dg.dval (l.drop j)) := by
        show _ = _
        rw [b3_val bs d hdb, HV.out, List.drop_eq_getElem_cons (show j < l.length by rw [HN.out]; omega)]
        rw [List.getElem?_eq_getElem (by rw [HN.out]; omega)] at hd
        injection hd with hd
        rw [hd, Dg.dval]
        omega
      have r1 : (0 : Int) ≤ (j : Int) := by omega
      have r2 : (j : Int) < (n : Int) := by omega
      have r3 : (j : Int).toNat = j := by omega
      have db1 : (d : Int) ≤ 16777215 := by omega
      have db0 : (0 : Int) ≤ (d : Int) := by omega
      have ba : Below wr.heap.size wr (wr.alloc (.cells #[.int .u8 (IntKind.u8.wrap ((d : Int) / 65536)), .int .u8 (IntKind.u8.wrap ((d : Int) / 256)), .int .u8 (IntKind.u8.wrap (d : Int))] 5)).drew := ((Below.refl _ _).alloc (Nat.le_refl _) _).drew
      have OA := Lib.hid (rows_below HO.out ba)
      have BA := Lib.hid (below_join HB.out ba)
      have LL := Lib.hid (show bs.length ≤ 100000 by rw [HBL.out]; omega)
      have NB : Hid ((wr.alloc (.cells #[.int .u8 (IntKind.u8.wrap ((d : Int) / 65536)), .int .u8 (IntKind.u8.wrap ((d : Int) / 256)), .int .u8 (IntKind.u8.wrap (d : Int))] 5)).drew.heap[wr.heap.size]? = some (.cells #[.int .u8 (IntKind.u8.wrap ((d : Int) / 65536)), .int .u8 (IntKind.u8.wrap ((d : Int) / 256)), .int .u8 (IntKind.u8.wrap (d : Int))] 5 (0, 0))) := heap_alloc_new wr _
      have CX := Lib.hid cx
      clear hd cx ba
      go_wp2_with fail
      go_region_held3 (fun w' => w'.cell? ⟨g, j, none⟩ = some (.int .i64 (d : Int))) (first | exact K2.out | go_keep) (first | (refine step_append_b3 (by rfl) (.tmp 12) (.tmp 30) (by rfl) w.heap.size _ bs d wr.heap.size (by rfl) (by rfl) OA.out NB.out LL.out BA.out.size ?_; intro o2 w2 hO2 hg2; have hO3 := Lib.hid hO2; have B2 := Lib.hid (BA.out.grown hg2 BA.out.size (fun b e => (owns_u8 OA.out b e).1)); have K2 := Lib.hid ((B2.out.cell (block_lt_of_cell CX.out)).trans CX.out); clear hO2 hg2))
      go_wp2
      refine ⟨⟨j, _, bs ++ b3 d, rfl, by omega, rfl, NV.out, by rw [List.length_append, HBL.out]; show _ + 3 = _; omega, hO3.out, B2.out⟩, ?_⟩
      show ((j : Int) - 1 + 1).toNat < ((j : Int) + 1).toNat
      omega
end Go.Proofs.YtpblfpnldbdncaaGreatDoor
