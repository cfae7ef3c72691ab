/- Contracts of the reference's numbers by digits: of. -/
import Derived.Test.YtpblfpnldbdncaaGreatDoorDigB
namespace Go.Proofs.YtpblfpnldbdncaaGreatDoor
open Go.RowKit Go.Sort
set_option linter.unusedVariables false
theorem pow24 (i : Nat) : 16777216 ^ i = 256 ^ (3 * i) := by rw [Nat.pow_mul]
theorem enc_take (n E : Nat) (h : E ≤ (Nb.enc n).length) : Nb.val ((Nb.enc n).take E) = n / 256 ^ ((Nb.enc n).length - E) := by
  have e := Nb.val_append ((Nb.enc n).take E) ((Nb.enc n).drop E)
  rw [List.take_append_drop, Nb.val_enc, List.length_drop] at e
  have h2 := Nb.val_lt ((Nb.enc n).drop E)
  rw [List.length_drop] at h2
  generalize Nb.val ((Nb.enc n).take E) = A at *
  generalize Nb.val ((Nb.enc n).drop E) = D at *
  generalize 256 ^ ((Nb.enc n).length - E) = M at *
  have e2 : n / M = A := by
    rw [e, Nat.mul_comm, Nat.mul_add_div (by omega), Nat.div_eq_of_lt h2]
    rfl
  exact e2.symm
theorem of_digit {n E S L : Nat} (hL : (Nb.enc n).length = L) (hE : E ≤ L) (hS : S = E - 3) (i : Nat) (hi : L - E = 3 * i) :
    Nb.val (((Nb.enc n).take E).drop S) = n / 16777216 ^ i % 16777216 := by
  have h1 := enc_take n E (by omega)
  rw [hL, hi, ← pow24] at h1
  have e := Nb.val_append (((Nb.enc n).take E).take S) (((Nb.enc n).take E).drop S)
  rw [List.take_append_drop, h1, List.length_drop, List.length_take, hL, Nat.min_eq_left hE] at e
  have h2 := Nb.val_lt (((Nb.enc n).take E).drop S)
  rw [List.length_drop, List.length_take, hL, Nat.min_eq_left hE] at h2
  rcases Nat.lt_or_ge E 3 with h3 | h3
  · have e0 : S = 0 := by omega
    subst e0
    rw [List.take_zero] at e
    have e4 : Nb.val [] = 0 := rfl
    rw [e4, Nat.zero_mul, Nat.zero_add] at e
    rw [e, Nat.mod_eq_of_lt]
    refine Nat.lt_of_lt_of_le h2 ?_
    have : 256 ^ (E - 0) ≤ 256 ^ 3 := Nat.pow_le_pow_right (by omega) (by omega)
    omega
  · have e0 : E - S = 3 := by omega
    rw [e0] at e h2
    omega
theorem of_end {n i L : Nat} (hL : (Nb.enc n).length = L) (h1 : L ≤ 3 * i) (h2 : 3 * i ≤ L + 2) : Dg.digs n i = Dg.dg n := by
  refine Dg.digs_eq ?_ ?_
  · rw [pow24]
    exact Nat.lt_of_lt_of_le ((Nb.enc_length_le n L).1 (by omega)) (Nat.pow_le_pow_right (by omega) h1)
  · rcases Nat.eq_zero_or_pos i with h | h
    · exact .inl h
    · refine .inr ?_
      rw [pow24]
      rcases Nat.lt_or_ge n (256 ^ (3 * (i - 1))) with h3 | h3
      · have := (Nb.enc_length_le n (3 * (i - 1))).2 h3
        omega
      · exact h3
theorem sub_snoc {e : List UInt8} {k S : Nat} (hk : k < e.length) (hS : S ≤ k) : (e.take (k + 1)).drop S = (e.take k).drop S ++ [e[k]] := by
  rw [List.take_succ_eq_append_getElem hk, List.drop_append_of_le_length (by rw [List.length_take]; omega)]
set_option maxHeartbeats 4000000 in
set_option maxRecDepth 100000 in
theorem ofDigs_any (s : ByteArray) (n : Nat) (w : World) (hs : s.size ≤ 1000) (h : Nb.val s.data.toList = n) :
    Calls Tryz.prog 124 #[.string s] w fun e w' => ∃ v, e = .returned v ∧ DigAt w' v (Dg.dg n) ∧ Below w.heap.size w w' := by
  have CC := Lib.hid (canon_num s n w (by unfold maxLen; omega) h)
  have hle : (Nb.enc n).length ≤ 1000 := by
    refine Nat.le_trans ((Nb.enc_length_le n s.data.toList.length).2 ?_) (by rw [Array.length_toList]; exact hs)
    rw [← h]
    exact Nb.val_lt _
  obtain ⟨L, hL⟩ : ∃ L, (Nb.enc n).length = L := ⟨_, rfl⟩
  rw [hL] at hle
  have HL := Lib.hid hL
  obtain ⟨c, hc⟩ : ∃ c, bstr (Nb.enc n) = c := ⟨_, rfl⟩
  have hcs : c.size = L := by rw [← hc, bstr_size, hL]
  have CG : Hid (∀ (k : Nat) (hk : k < c.size), (Nb.enc n)[k]? = some c[k]) := by
    subst hc
    intro k hk
    rw [← List.getElem?_toArray]
    exact Array.getElem?_eq_getElem (xs := (Nb.enc n).toArray) hk
  rw [hc] at CC
  have HCS := Lib.hid hcs
  clear h hL hc
  go_enter Tryz.func124, Tryz.ntmps124
  go_wp2_with fail
  refine CC.out.mono ?_
  rintro e w' ⟨rfl, rfl⟩
  clear CC hcs
  go_wp2_with fail
  rw [HCS.out]
  go_loopw [3, 4] (fun o z wr => ∃ (i : Nat) (zz : Int), zz = (L : Int) - 3 * (i : Int) ∧ 3 * i ≤ L + 2 ∧ z = .int .i64 zz ∧ wr.ownsRow w'.heap.size 3 1 o (Dg.digs n i).length (dvals (Dg.digs n i)) ∧ Below w'.heap.size w' wr) (fun _ z _ => (intOf z).toNat)
  case atStart => exact ⟨0, _, rfl, by omega, by simp, ⟨rfl, .inl ⟨rfl, rfl⟩⟩, Below.refl _ _⟩
  case round =>
    obtain ⟨i, zz, hzz, hi, rfl, hO, hb⟩ := hrel
    have HO := Lib.hid hO
    have HB := Lib.hid hb
    clear hO hb
    by_cases hpos : 0 < zz
    · obtain ⟨E, rfl⟩ : ∃ E : Nat, zz = (E : Int) := ⟨zz.toNat, by omega⟩
      have hEL : E ≤ L := by omega
      obtain ⟨S, hS⟩ : ∃ S, S = E - 3 := ⟨_, rfl⟩
      have HSD := Lib.hid (show S = E - 3 from hS)
      have hSE : S ≤ E := by omega
      have hSE3 : E ≤ S + 3 := by omega
      have OD := Lib.hid (of_digit HL.out hEL hS i (by omega))
      have HZZ := Lib.hid hzz
      have e1 : (1 : Int) ≤ (E : Int) := by omega
      clear hS hzz hpos
      go_wp2_with fail
      all_goals
        go_loop [5, 6] (fun dv kv => ∃ (k d : Nat), S ≤ k ∧ k ≤ E ∧ kv = .int .i64 k ∧ dv = .int .i64 d ∧ d = Nb.val (((Nb.enc n).take k).drop S)) (fun _ kv => E - (intOf kv).toNat)
        case atStart => exact ⟨S, 0, Nat.le_refl _, hSE, by have := HSD.out; congr 1; omega, rfl, by rw [List.drop_of_length_le (by rw [List.length_take]; omega)]; rfl⟩
        case round =>
          obtain ⟨k, d, hSk, hkE, rfl, rfl, hd⟩ := hrel
          by_cases hlt : k < E
          · have hkL : k < c.size := by rw [HCS.out]; omega
            have hkl2 : (k : Int) < (c.size : Int) := by omega
            have sn := sub_snoc (e := Nb.enc n) (k := k) (S := S) (by rw [HL.out]; omega) hSk
            have hval := CG.out k hkL
            have hb1 : d < 256 ^ 2 := by
              rw [hd]
              refine Nat.lt_of_lt_of_le (Nb.val_lt _) (Nat.pow_le_pow_right (by omega) ?_)
              rw [List.length_drop, List.length_take, HL.out]
              omega
            have ND : Hid (d * 256 + c[k].toNat = Nb.val (((Nb.enc n).take (k + 1)).drop S)) := by
              show _ = _
              rw [sn, Nb.val_snoc, ← hd]
              rw [List.getElem?_eq_getElem (by rw [HL.out]; omega)] at hval
              injection hval with hval
              rw [hval]
            have db : (d : Int) ≤ 65535 := by omega
            have cb : c[k].toNat < 256 := c[k].toNat_lt
            have cb2 : (c[k].toNat : Int) ≤ 255 := by omega
            clear sn hval hd hb1
            go_wp2_with fail
            refine ⟨⟨k + 1, d * 256 + c[k].toNat, by omega, by omega, by go_num, by first | rfl | (congr 1; omega), ND.out⟩, by simp [intOf]; omega⟩
          · obtain rfl : k = E := by omega
            have DV : Hid (d = n / 16777216 ^ i % 16777216) := by show _ = _; rw [hd]; exact OD.out
            have db : d < 16777216 := by have := DV.out; omega
            clear hd
            have OA := Lib.hid (rows_below HO.out ((Below.refl _ _).alloc (Nat.le_refl _) (.cells #[.int .i64 (d : Int)] 3)))
            have BA := Lib.hid (HB.out.alloc HB.out.size (.cells #[.int .i64 (d : Int)] 3))
            have LL := Lib.hid (show (Dg.digs n i).length ≤ 100000 by rw [Dg.digs_length]; omega)
            have EN : Hid (Dg.digs n (i + 1) = Dg.digs n i ++ [d]) := by show _ = _; rw [Dg.digs_succ, DV.out]
            go_wp2_with (at_builtin; (refine wpList_append_dig rfl (.tmp 30) (.tmp 32) rfl w'.heap.size _ (Dg.digs n i) d wr.heap.size rfl rfl OA.out (heap_alloc_new wr _) LL.out BA.out.size ?_); intro v2 w2 r2 g2; have R2 := Lib.hid r2; have B2 := Lib.hid (BA.out.grown g2 BA.out.size (fun b e => (owns_lt_d OA.out b e).1)); clear r2 g2)
            have hzz := HZZ.out
            refine ⟨⟨i + 1, (k : Int) - 3, by omega, by omega, rfl, by rw [EN.out]; exact R2.out, B2.out⟩, by simp [intOf]; omega⟩
    · have hz0 : zz ≤ 0 := by omega
      have EV := Lib.hid (of_end HL.out (show L ≤ 3 * i by omega) hi)
      have R := Lib.hid (DigAt.own HO.out)
      clear hzz hpos
      go_wp2_with fail
      go_ret
      exact ⟨_, rfl, by rw [← EV.out]; exact R.out, HB.out⟩
end Go.Proofs.YtpblfpnldbdncaaGreatDoor
