/- The contract of the reference's Encode, where outputs alone are there. -/
import Derived.Test.YtpblfpnldbdncaaGreatDoorRMrg
import Derived.Test.YtpblfpnldbdncaaGreatDoorDigR
import Derived.Test.YtpblfpnldbdncaaGreatDoorG15
namespace Go.Proofs.YtpblfpnldbdncaaGreatDoor
open Go.RowKit Go.Sort Go.Maps
open Sg (Rc)
open Mg (Mst Jd H)
set_option linter.unusedVariables false
set_option maxRecDepth 100000
theorem decimal_big (z : Int) (h0 : 0 ≤ z) (h : I64 z) (w : World) : Calls Tryz.prog 40 #[.int .i64 z] w fun e w' => e = .returned (.string (bstr (Lib.itoa z))) ∧ Below w.heap.size w w' :=
  decimal_of z.toNat z w (by omega) (by have := h.2; omega) (fun m hm h1 => quo_any m 10 (Nat.lt_of_lt_of_le (show m < 9223372036854775808 by have := h.2; omega) (by decide)) (by decide) (by omega))
theorem oLine_len {o : Ot} (h : OtOk o) : (oLine o).length ≤ 100 := by
  have h1 := itoa_size h.rd
  have h2 := hex_length o.hash
  rw [h.hash] at h2
  simp only [oLine, List.length_append, List.length_cons, List.length_nil]
  omega
set_option maxHeartbeats 8000000 in
theorem rencode_any {w : World} {p : Nat} {vo : Value} {L : List Ot} (h : RMAt w p vo L) (hn : L.length ≤ 1000) (hd : ∀ o ∈ L, 1 ≤ o.rd) :
    Calls Tryz.prog 30 #[.pointer (some ⟨p, 0, none⟩)] w fun e w' => e = .returned (.string (bstr (L.flatMap oLine))) ∧ Below w.heap.size w w' := by
  obtain ⟨N, hN⟩ : ∃ N, L.length = N := ⟨_, rfl⟩
  obtain ⟨ao, cap, hv⟩ : ∃ ao cap, vo = .slice ao N cap := by
    obtain ⟨ao, cap, h | h⟩ := h.outs.lies.slice hN
    · exact ⟨ao, cap, h.1⟩
    · exact ⟨ao, cap, h.1⟩
  subst hv
  rw [hN] at hn
  have HM := Lib.hid h
  have HN := Lib.hid hN
  have HD := Lib.hid hd
  have MX : Hid (∀ W, Below w.heap.size w W → RMAt W p (.slice ao N cap) L) := fun W hb => h.below hb
  have CX : Hid (∀ W, Below w.heap.size w W → W.cell? ⟨p, 1, none⟩ = some (.slice ao N cap) ∧ W.cell? ⟨p, 2, none⟩ = some (.slice none 0 0) ∧ W.cell? ⟨p, 4, none⟩ = some (.slice none 0 0)) := fun W hb =>
    ⟨(cell_of_row _ _ 1 _ _ _ (MX.out W hb).cells).trans rfl, (cell_of_row _ _ 2 _ _ _ (MX.out W hb).cells).trans rfl, (cell_of_row _ _ 4 _ _ _ (MX.out W hb).cells).trans rfl⟩
  clear h hN hd
  go_enter Tryz.func30, Tryz.ntmps30
  go_wp2_with fail
  go_loopw [3, 4] (fun v3 v4 wx => ∃ i : Nat, i ≤ N ∧ v4 = .int .i64 i ∧ v3 = .string (bstr ((L.take i).flatMap oLine)) ∧ Below w.heap.size w wx) (fun _ v4 _ => N - (intOf v4).toNat)
  case atStart => exact ⟨0, Nat.zero_le _, rfl, by rw [List.take_zero]; rfl, Below.refl _ _⟩
  case round =>
    obtain ⟨i, hi, rfl, rfl, hb⟩ := hrel
    have BW := Lib.hid hb
    have c1 := (CX.out wr hb).1
    clear hb
    by_cases hlt : i < N
    · have di : decide ((i : Int) < (N : Int)) = true := decide_eq_true (by omega)
      have di' : decide (i < N) = true := decide_eq_true hlt
      obtain ⟨x, hx⟩ : ∃ x, L[i]? = some x := ⟨L[i]'(by rw [HN.out]; exact hlt), List.getElem?_eq_getElem _⟩
      obtain ⟨g, capg, e⟩ := keys_nil_slice HM.out.outs HN.out (by omega)
      injection e with e4 e5 e6
      subst e4
      clear e5 e6
      have hat := fun W hb => (MX.out W hb).outs.lies.at hx
      have RX : Hid (∀ W, Below w.heap.size w W → W.cell? ⟨g, i * 67, none⟩ = some (.int .i64 x.rd) ∧ W.rangeAt g (i * 67 + 35) (hcl x.hash)) := fun W hb => by
        obtain ⟨g', o', c', e', _, glt, rg, xok⟩ := hat W hb
        injection e' with e' _ _
        injection e' with e'
        injection e' with e1 e2 _
        subst e1 e2
        rw [Nat.zero_add] at rg
        exact ot_range xok rg
      have XOK : Hid (OtOk x) := HM.out.outs.1 x (List.mem_of_getElem? hx)
      have XR1 := HD.out x (List.mem_of_getElem? hx)
      have ES : Hid (bstr ((L.take (i + 1)).flatMap oLine) = bstr ((L.take i).flatMap oLine) ++ ⟨#[111, 117, 116, 112, 117, 116, 32]⟩ ++ bstr (Lib.itoa x.rd) ++ ⟨#[32]⟩ ++ bstr (Sg.hex x.hash) ++ ⟨#[10]⟩) := by
        show _ = _
        rw [flat_snoc _ hx]
        unfold oLine
        apply ByteArray.ext
        simp [bstr, ByteArray.data_append]
      have SL : ((L.take i).flatMap oLine).length ≤ 1000 * 100 := by
        have h1 := flat_len oLine 100 (L.take i) (fun x hx => oLine_len (HM.out.outs.1 x (List.mem_of_mem_take hx)))
        have h2 := List.length_take_le' i L
        rw [HN.out] at h2
        have h3 : (L.take i).length * 100 ≤ 1000 * 100 := Nat.mul_le_mul_right _ (by omega)
        omega
      have s0 : (bstr ((L.take i).flatMap oLine)).size ≤ 100000 := by rw [bstr_size]; omega
      have s1 : (bstr (Lib.itoa x.rd)).size ≤ 21 := by rw [bstr_size]; exact itoa_size XOK.out.rd
      have s2 : (bstr (Sg.hex x.hash)).size ≤ 64 := by rw [bstr_size, hex_length, XOK.out.hash]; omega
      have CD := Lib.hid (fun W => decimal_big x.rd (by omega) XOK.out.rd W)
      have CT : Hid (∀ W, Calls Tryz.prog 66 #[.agg (hashArr x.hash)] W fun e w' => e = .returned (.string (bstr (Sg.hex x.hash))) ∧ Below W.heap.size W w') := fun W => rtext_any x.hash XOK.out.hash W
      have LX : Hid (∀ W, Below w.heap.size w W → (loadVar 117 ⟨p, 1, none⟩).run Tryz.prog W = .ok (.slice (some ⟨g, 0, none⟩) N cap) W) := fun W hb => by
        have c0 := (CX.out W hb).1
        go_simp
      have LR : Hid (∀ W, Below w.heap.size w W → (loadVar 3 ⟨g, i * 67, none⟩).run Tryz.prog W = .ok (.int .i64 x.rd) W) := fun W hb => load_i64 (RX.out W hb).1
      have LH : Hid (∀ W, Below w.heap.size w W → (loadVar 27 ⟨g, i * 67 + 35, none⟩).run Tryz.prog W = .ok (.agg (hashArr x.hash)) W) := fun W hb => load_hash_at XOK.out.hash (RX.out W hb).2
      obtain ⟨S0, hS0⟩ : ∃ s, bstr ((L.take i).flatMap oLine) = s := ⟨_, rfl⟩
      obtain ⟨X1, hX1⟩ : ∃ s, bstr (Lib.itoa x.rd) = s := ⟨_, rfl⟩
      obtain ⟨X2, hX2⟩ : ∃ s, bstr (Sg.hex x.hash) = s := ⟨_, rfl⟩
      obtain ⟨h1, hh1⟩ : ∃ s, hashArr x.hash = s := ⟨_, rfl⟩
      obtain ⟨xr, hxr⟩ : ∃ s, x.rd = s := ⟨_, rfl⟩
      rw [hS0, hX1, hX2] at ES
      rw [hS0] at s0 ⊢
      rw [hX1] at s1 CD
      rw [hX2] at s2 CT
      rw [hh1] at CT LH
      rw [hxr] at CD LR
      have n1 : ¬ 9223372036854775807 < S0.size + 7 := by omega
      have n2 : ¬ 9223372036854775807 < S0.size + 7 + X1.size := by omega
      have n3 : ¬ 9223372036854775807 < S0.size + 7 + X1.size + 1 := by omega
      have n4 : ¬ 9223372036854775807 < S0.size + 7 + X1.size + 1 + X2.size := by omega
      have n5 : ¬ 9223372036854775807 < S0.size + 7 + X1.size + 1 + X2.size + 1 := by omega
      have z0 : (0 : Int) ≤ (i : Int) := by omega
      have z1 : (i : Int) < (N : Int) := by omega
      clear hx hat XR1 SL hS0 hX1 hX2 hh1 hxr s0 s1 s2 RX
      go_upto_region 5 with fail
      refine wp_region_tree (fun W => Below w.heap.size w W) (.two [0, 1, 2, 6, 13, 17] 3 (.two [4, 5, 7, 8, 9] 10 (.one [11, 12] 14 (.one [15, 16, 18, 19, 20] 21 (.last [22, 23, 24]))) 14 (.one [15, 16, 18, 19, 20] 10 (.one [11, 12] 21 (.last [22, 23, 24])))) 14 (.one [15, 16, 18, 19, 20] 3 (.one [4, 5, 7, 8, 9] 10 (.one [11, 12] 21 (.last [22, 23, 24]))))) (by kernel_rfl) (by kernel_rfl) (by kernel_rfl) BW.out.drew ?_
      have FRv0 : Hid (Below w.heap.size w wr.drew) := BW.out.drew
      generalize wr.drew = v0 at *
      refine tree_two ?_
      simp only [List.map_cons, List.map_nil, opN, List.getD_cons_succ, List.getD_cons_zero]
      repeat (first
        | go_big_quiet_step (fail)
        | (go_big_quiet_want; go_big_quiet_op; refine ⟨_, fun _ _ => rfl, ?_⟩; go_big_quiet_on))
      refine wpQuiet_nil ?_
      refine ⟨tree_step (by rfl) fun K hK => ?_, tree_step (by rfl) fun K hK => ?_⟩
      · go_simp
        refine hK _ _ FRv0.out ?_
        clear hK K
        refine tree_two ?_
        simp only [List.map_cons, List.map_nil, opN, List.getD_cons_succ, List.getD_cons_zero]
        repeat (first
          | (refine quiet_load_row (by rfl) _ (.tmp 24) rfl _ _ rfl (.slice (some ⟨g, 0, none⟩) N cap) (fun w' h => LX.out w' h) ?_; simp only [Act.put, List.setIfInBounds_toArray, List.set_cons_zero, List.set_cons_succ])
          | (refine quiet_load_row (by rfl) _ (.tmp 28) rfl _ _ rfl (.int .i64 xr) (fun w' h => LR.out w' h) ?_; simp only [Act.put, List.setIfInBounds_toArray, List.set_cons_zero, List.set_cons_succ])
          | go_big_quiet_step (fail)
          | (go_big_quiet_want; go_big_quiet_op; refine ⟨_, fun _ _ => rfl, ?_⟩; go_big_quiet_on))
        refine wpQuiet_nil ?_
        refine ⟨tree_step (by rfl) fun K hK => ?_, tree_step (by rfl) fun K hK => ?_⟩
        · go_simp
          refine (CD.out _).mono ?_
          rintro e v1 ⟨rfl, bq⟩
          have FRv1 := Lib.hid (FRv0.out.trans (bq.mono FRv0.out.size))
          refine hK _ _ FRv1.out ?_
          clear hK K bq
          refine tree_one ?_
          simp only [List.map_cons, List.map_nil, opN, List.getD_cons_succ, List.getD_cons_zero]
          repeat (first
            | go_big_quiet_step (fail)
            | (go_big_quiet_want; go_big_quiet_op; refine ⟨_, fun _ _ => rfl, ?_⟩; go_big_quiet_on))
          refine wpQuiet_nil ?_
          refine tree_step (by rfl) fun K hK => ?_
          go_simp
          refine hK _ _ FRv1.out ?_
          clear hK K
          refine tree_one ?_
          simp only [List.map_cons, List.map_nil, opN, List.getD_cons_succ, List.getD_cons_zero]
          repeat (first
            | (refine quiet_load_row (by rfl) _ (.tmp 35) rfl _ _ rfl (.slice (some ⟨g, 0, none⟩) N cap) (fun w' h => LX.out w' h) ?_; simp only [Act.put, List.setIfInBounds_toArray, List.set_cons_zero, List.set_cons_succ])
            | (refine quiet_load_row (by rfl) _ (.tmp 39) rfl _ _ rfl (.agg h1) (fun w' h => LH.out w' h) ?_; simp only [Act.put, List.setIfInBounds_toArray, List.set_cons_zero, List.set_cons_succ])
            | go_big_quiet_step (fail)
            | (go_big_quiet_want; go_big_quiet_op; refine ⟨_, fun _ _ => rfl, ?_⟩; go_big_quiet_on))
          refine wpQuiet_nil ?_
          refine tree_step (by rfl) fun K hK => ?_
          go_simp
          refine (CT.out _).mono ?_
          rintro e v2 ⟨rfl, bq⟩
          have FRv2 := Lib.hid (FRv1.out.trans (bq.mono FRv1.out.size))
          refine hK _ _ FRv2.out ?_
          clear hK K bq
          refine tree_last ?_
          simp only [List.map_cons, List.map_nil, opN, List.getD_cons_succ, List.getD_cons_zero]
          repeat (first
            | go_big_quiet_step (fail)
            | (go_big_quiet_want; go_big_quiet_op; refine ⟨_, fun _ _ => rfl, ?_⟩; go_big_quiet_on))
          refine wpQuiet_nil ?_
          refine NoPanic.normal ?_
          go_wp2_with fail
          refine ⟨⟨i + 1, hlt, rfl, ?_, FRv2.out⟩, by simp [intOf]; omega⟩
          rw [ES.out]
        · go_simp
          refine hK _ _ FRv0.out ?_
          clear hK K
          refine tree_one ?_
          simp only [List.map_cons, List.map_nil, opN, List.getD_cons_succ, List.getD_cons_zero]
          repeat (first
            | (refine quiet_load_row (by rfl) _ (.tmp 35) rfl _ _ rfl (.slice (some ⟨g, 0, none⟩) N cap) (fun w' h => LX.out w' h) ?_; simp only [Act.put, List.setIfInBounds_toArray, List.set_cons_zero, List.set_cons_succ])
            | (refine quiet_load_row (by rfl) _ (.tmp 39) rfl _ _ rfl (.agg h1) (fun w' h => LH.out w' h) ?_; simp only [Act.put, List.setIfInBounds_toArray, List.set_cons_zero, List.set_cons_succ])
            | go_big_quiet_step (fail)
            | (go_big_quiet_want; go_big_quiet_op; refine ⟨_, fun _ _ => rfl, ?_⟩; go_big_quiet_on))
          refine wpQuiet_nil ?_
          refine tree_step (by rfl) fun K hK => ?_
          go_simp
          refine (CD.out _).mono ?_
          rintro e v1 ⟨rfl, bq⟩
          have FRv1 := Lib.hid (FRv0.out.trans (bq.mono FRv0.out.size))
          refine hK _ _ FRv1.out ?_
          clear hK K bq
          refine tree_one ?_
          simp only [List.map_cons, List.map_nil, opN, List.getD_cons_succ, List.getD_cons_zero]
          repeat (first
            | go_big_quiet_step (fail)
            | (go_big_quiet_want; go_big_quiet_op; refine ⟨_, fun _ _ => rfl, ?_⟩; go_big_quiet_on))
          refine wpQuiet_nil ?_
          refine tree_step (by rfl) fun K hK => ?_
          go_simp
          refine (CT.out _).mono ?_
          rintro e v2 ⟨rfl, bq⟩
          have FRv2 := Lib.hid (FRv1.out.trans (bq.mono FRv1.out.size))
          refine hK _ _ FRv2.out ?_
          clear hK K bq
          refine tree_last ?_
          simp only [List.map_cons, List.map_nil, opN, List.getD_cons_succ, List.getD_cons_zero]
          repeat (first
            | go_big_quiet_step (fail)
            | (go_big_quiet_want; go_big_quiet_op; refine ⟨_, fun _ _ => rfl, ?_⟩; go_big_quiet_on))
          refine wpQuiet_nil ?_
          refine NoPanic.normal ?_
          go_wp2_with fail
          refine ⟨⟨i + 1, hlt, rfl, ?_, FRv2.out⟩, by simp [intOf]; omega⟩
          rw [ES.out]
      · go_simp
        refine hK _ _ FRv0.out ?_
        clear hK K
        refine tree_one ?_
        simp only [List.map_cons, List.map_nil, opN, List.getD_cons_succ, List.getD_cons_zero]
        repeat (first
          | (refine quiet_load_row (by rfl) _ (.tmp 35) rfl _ _ rfl (.slice (some ⟨g, 0, none⟩) N cap) (fun w' h => LX.out w' h) ?_; simp only [Act.put, List.setIfInBounds_toArray, List.set_cons_zero, List.set_cons_succ])
          | (refine quiet_load_row (by rfl) _ (.tmp 39) rfl _ _ rfl (.agg h1) (fun w' h => LH.out w' h) ?_; simp only [Act.put, List.setIfInBounds_toArray, List.set_cons_zero, List.set_cons_succ])
          | go_big_quiet_step (fail)
          | (go_big_quiet_want; go_big_quiet_op; refine ⟨_, fun _ _ => rfl, ?_⟩; go_big_quiet_on))
        refine wpQuiet_nil ?_
        refine tree_step (by rfl) fun K hK => ?_
        go_simp
        refine hK _ _ FRv0.out ?_
        clear hK K
        refine tree_one ?_
        simp only [List.map_cons, List.map_nil, opN, List.getD_cons_succ, List.getD_cons_zero]
        repeat (first
          | (refine quiet_load_row (by rfl) _ (.tmp 24) rfl _ _ rfl (.slice (some ⟨g, 0, none⟩) N cap) (fun w' h => LX.out w' h) ?_; simp only [Act.put, List.setIfInBounds_toArray, List.set_cons_zero, List.set_cons_succ])
          | (refine quiet_load_row (by rfl) _ (.tmp 28) rfl _ _ rfl (.int .i64 xr) (fun w' h => LR.out w' h) ?_; simp only [Act.put, List.setIfInBounds_toArray, List.set_cons_zero, List.set_cons_succ])
          | go_big_quiet_step (fail)
          | (go_big_quiet_want; go_big_quiet_op; refine ⟨_, fun _ _ => rfl, ?_⟩; go_big_quiet_on))
        refine wpQuiet_nil ?_
        refine tree_step (by rfl) fun K hK => ?_
        go_simp
        refine (CD.out _).mono ?_
        rintro e v1 ⟨rfl, bq⟩
        have FRv1 := Lib.hid (FRv0.out.trans (bq.mono FRv0.out.size))
        refine hK _ _ FRv1.out ?_
        clear hK K bq
        refine tree_one ?_
        simp only [List.map_cons, List.map_nil, opN, List.getD_cons_succ, List.getD_cons_zero]
        repeat (first
          | go_big_quiet_step (fail)
          | (go_big_quiet_want; go_big_quiet_op; refine ⟨_, fun _ _ => rfl, ?_⟩; go_big_quiet_on))
        refine wpQuiet_nil ?_
        refine tree_step (by rfl) fun K hK => ?_
        go_simp
        refine (CT.out _).mono ?_
        rintro e v2 ⟨rfl, bq⟩
        have FRv2 := Lib.hid (FRv1.out.trans (bq.mono FRv1.out.size))
        refine hK _ _ FRv2.out ?_
        clear hK K bq
        refine tree_last ?_
        simp only [List.map_cons, List.map_nil, opN, List.getD_cons_succ, List.getD_cons_zero]
        repeat (first
          | go_big_quiet_step (fail)
          | (go_big_quiet_want; go_big_quiet_op; refine ⟨_, fun _ _ => rfl, ?_⟩; go_big_quiet_on))
        refine wpQuiet_nil ?_
        refine NoPanic.normal ?_
        go_wp2_with fail
        refine ⟨⟨i + 1, hlt, rfl, ?_, FRv2.out⟩, by simp [intOf]; omega⟩
        rw [ES.out]
    · have ei : i = N := by omega
      have ET := Lib.hid (show L.take i = L by rw [ei, ← HN.out]; exact List.take_length)
      have di : decide ((i : Int) < (N : Int)) = false := decide_eq_false (by omega)
      have di' : decide (i < N) = false := decide_eq_false hlt
      rw [ET.out]
      obtain ⟨S0, hS0⟩ : ∃ s, bstr (L.flatMap oLine) = s := ⟨_, rfl⟩
      rw [hS0]
      have HS0 := Lib.hid hS0
      have c2 := (CX.out wr BW.out).2.1
      have c4 := (CX.out wr BW.out).2.2
      clear ei ET hi hlt hS0
      go_wp2_with fail
      go_loopw [3, 5] (fun v3 v5 wx => v3 = .string S0 ∧ v5 = .int .i64 0 ∧ wx = wr) (fun _ _ _ => 0)
      case atStart => exact ⟨rfl, rfl, rfl⟩
      case round =>
        obtain ⟨rfl, rfl, rfl⟩ := hrel
        go_wp2_with fail
        go_loopw [3, 9] (fun v3 v9 wx => v3 = .string S0 ∧ v9 = .int .i64 0 ∧ wx = wr) (fun _ _ _ => 0)
        case atStart => exact ⟨rfl, rfl, rfl⟩
        case round =>
          obtain ⟨rfl, rfl, rfl⟩ := hrel
          go_wp2_with fail
          go_ret
          exact ⟨by rw [HS0.out]; rfl, BW.out⟩
end Go.Proofs.YtpblfpnldbdncaaGreatDoor
