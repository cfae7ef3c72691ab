/- The contract of the reference's SameEvidence, at lists that read alike. -/
import Derived.Test.YtpblfpnldbdncaaGreatDoorG17
import Derived.Test.YtpblfpnldbdncaaGreatDoorG18
namespace Go.Proofs.YtpblfpnldbdncaaGreatDoor
open Go.RowKit Go.Sort Go.Maps
open Sg (Rc)
open Mg (Mst Jd)
set_option linter.unusedVariables false
set_option maxRecDepth 100000
theorem cells_ev : Tryz.prog.cellsOf 58 = 19 := by kernel_rfl
theorem cells_vote : Tryz.prog.cellsOf 50 = 4 := by kernel_rfl
theorem cells_disp : Tryz.prog.cellsOf 52 = 5 := by kernel_rfl
theorem cells_comp : Tryz.prog.cellsOf 56 = 4 := by kernel_rfl
theorem cells_proof : Tryz.prog.cellsOf 54 = 2 := by kernel_rfl
theorem cells_nat : Tryz.prog.cellsOf 40 = 1 := by kernel_rfl
theorem lits_natz (d : Nat) : Tryz.prog.keyLits (d + 1) 40 [.string ⟨#[]⟩] = some [.string []] := by
  unfold Program.keyLits
  rw [Tryz.underlying40]
  have h : (⟨#[]⟩ : ByteArray).size ≤ maxLen := by decide
  simp [h]
theorem i64_zero : I64 0 := by show I64 0; decide
theorem lits_vote (d : Nat) {x : Int} {s : ByteArray} (hx : I64 x) (hs : s.size ≤ maxLen) : ∃ L, Tryz.prog.keyLits (d + 3) 50 [.int .i64 x, .string s, .int .i64 0, .int .i64 0] = some L := by
  unfold Program.keyLits
  rw [Tryz.underlying50]
  simp [cells_vote, cells_sig, cells_int, cells_str, lits_int (d + 1) hx, lits_str (d + 1) s hs, lits_sig d i64_zero i64_zero]
theorem lits_disp (d : Nat) : ∃ L, Tryz.prog.keyLits (d + 3) 52 [.int .i64 0, .int .i64 0, .string ⟨#[]⟩, .string ⟨#[]⟩, .string ⟨#[]⟩] = some L := by
  unfold Program.keyLits
  rw [Tryz.underlying52]
  simp [cells_disp, cells_int, cells_nat, lits_int (d + 1) i64_zero, lits_natz (d + 1)]
theorem lits_proof (d : Nat) : ∃ L, Tryz.prog.keyLits (d + 2) 54 [.int .i64 0, .int .i64 0] = some L := by
  unfold Program.keyLits
  rw [Tryz.underlying54]
  simp [cells_proof, cells_int, lits_int d i64_zero]
theorem lits_comp (d : Nat) : ∃ L, Tryz.prog.keyLits (d + 3) 56 [.int .i64 0, .int .i64 0, .int .i64 0, .int .i64 0] = some L := by
  obtain ⟨L, hL⟩ := lits_proof d
  unfold Program.keyLits
  rw [Tryz.underlying56]
  simp [cells_comp, cells_int, cells_proof, lits_int (d + 1) i64_zero, hL]
theorem lits_ev (d : Nat) {e : Ev} (he : EvOk e) : ∃ L, Tryz.prog.keyLits (d + 4) 58 (evList e) = some L := by
  have m1 : (bstr e.ta).size ≤ maxLen := by rw [bstr_size]; have := he.ta; unfold maxLen; omega
  have m2 : (bstr e.tb).size ≤ maxLen := by rw [bstr_size]; have := he.tb; unfold maxLen; omega
  obtain ⟨L1, h1⟩ := lits_vote d he.who m1
  obtain ⟨L2, h2⟩ := lits_vote d he.who m2
  obtain ⟨L3, h3⟩ := lits_disp d
  obtain ⟨L4, h4⟩ := lits_comp d
  have e1 : (evList e).take 1 = [.int .i64 e.kind] := rfl
  have e2 : (evList e).tail.take 1 = [.int .i64 e.who] := rfl
  have e3 : ((evList e).drop 2).take 4 = [.int .i64 e.who, .string (bstr e.ta), .int .i64 0, .int .i64 0] := rfl
  have e4 : ((evList e).drop 6).take 4 = [.int .i64 e.who, .string (bstr e.tb), .int .i64 0, .int .i64 0] := rfl
  have e5 : ((evList e).drop 10).take 5 = [.int .i64 0, .int .i64 0, .string ⟨#[]⟩, .string ⟨#[]⟩, .string ⟨#[]⟩] := rfl
  have e6 : ((evList e).drop 15).take 4 = [.int .i64 0, .int .i64 0, .int .i64 0, .int .i64 0] := rfl
  have hl : (evList e).length = 19 := rfl
  unfold Program.keyLits
  rw [Tryz.underlying58]
  generalize evList e = L at *
  simp [cells_ev, hl, cells_int, cells_vote, cells_disp, cells_comp, e1, e2, e3, e4, e5, e6, h1, h2, h3, h4, lits_int (d + 2) he.kind, lits_int (d + 2) he.who]
theorem ev_formed (e : Ev) : (Value.agg (evArr e)).formed Tryz.prog 58 = true := by
  simp only [Value.formed, Tryz.underlying58, show (evArr e).size = 19 from rfl, cells_ev, beq_self_eq_true]
theorem ev_neq {e : Ev} (he : EvOk e) (w : World) : (binOp .neq 58 (.agg (evArr e)) (.agg (evArr e))).run Tryz.prog w = .ok (.bool false) w := by
  obtain ⟨L, hL⟩ := lits_ev 0 he
  obtain ⟨r, hr, hiff⟩ := run_equalIn_deep 9990 10 58 (P := Tryz.prog) (by kernel_rfl) w 4 4 _ _ L L (ev_formed e) (ev_formed e) (by rw [show (Value.agg (evArr e)).cells.toList = evList e from rfl]; exact hL) (by rw [show (Value.agg (evArr e)).cells.toList = evList e from rfl]; exact hL)
  have e1 : (9990 + 10 : Nat) = 10000 := by omega
  rw [e1] at hr
  have e2 : r = true := hiff.2 rfl
  rw [e2] at hr
  rw [run_neq_struct, hr]
  rfl
theorem ev_infoL (e : Ev) : (Tryz.prog.info? 58).map (·.size) = some (evList e).length := by
  rw [show (evList e).length = 19 from rfl]; kernel_rfl
theorem load_ev_re {w : World} {b o : Nat} {e : Ev} (h : w.rangeAt b o (evList e)) (hb : b < w.heap.size) : ∀ w', (∃ p : Regrown, w' = grow (redrawn w p.d) p.os) → (loadVar 58 ⟨b, o, none⟩).run Tryz.prog w' = .ok (.agg (evArr e)) w' :=
  fun w' hw' => run_loadVar_mid w' b o 58 (evList e) _ (range_regrown h hb w' hw') Tryz.underlying58 rfl (ev_infoL e)
theorem ev_row_at {w : World} {g o n c : Nat} {xs : List Ev} {k : Nat} {x : Ev} (h : LiesR evK w (.slice (some ⟨g, o, none⟩) n c) xs) (hx : xs[k]? = some x) : w.rangeAt g (o + k * 19) (evList x) ∧ EvOk x ∧ g < w.heap.size := by
  obtain ⟨g', o', c', e, _, lt, rg, ok⟩ := h.at hx
  injection e with e
  injection e with e
  injection e with e1 e2
  subst e1 e2
  exact ⟨rg, ok, lt⟩
set_option maxHeartbeats 2000000 in
theorem same_evs {w : World} {v u : Value} {xs : List Ev} (hA : LiesR evK w v xs) (hB : LiesR evK w u xs) (hx : xs.length ≤ 100000) :
    Calls Tryz.prog 33 #[v, u] w fun e w' => e = .returned (.bool true) ∧ Below w.heap.size w w' := by
  obtain ⟨N, hN⟩ : ∃ N, xs.length = N := ⟨_, rfl⟩
  obtain ⟨ao, cap, hv⟩ : ∃ ao cap, v = .slice ao N cap := by
    obtain ⟨ao, cap, h | h⟩ := hA.slice hN
    · exact ⟨ao, cap, h.1⟩
    · exact ⟨ao, cap, h.1⟩
  obtain ⟨bo, cbp, hu⟩ : ∃ ao cap, u = .slice ao N cap := by
    obtain ⟨ao, cap, h | h⟩ := hB.slice hN
    · exact ⟨ao, cap, h.1⟩
    · exact ⟨ao, cap, h.1⟩
  subst hv hu
  have HN := Lib.hid hN
  have HA := Lib.hid hA
  have HB := Lib.hid hB
  have N3 : N ≤ 100000 := by omega
  clear hN hA hB hx
  have dn : ((N : Int) != (N : Int)) = false := by simp
  have de : ((N : Int) == (N : Int)) = true := by simp
  go_enter Tryz.func33, Tryz.ntmps33
  go_wp2_with fail
  go_loopw [5] (fun v5 wx => ∃ i : Nat, i ≤ N ∧ v5 = .int .i64 i ∧ Below w.heap.size w wx) (fun v5 _ => N - (intOf v5).toNat)
  case atStart => exact ⟨0, Nat.zero_le _, rfl, Below.refl _ _⟩
  case round =>
    obtain ⟨i, hi, rfl, hb⟩ := hrel
    have HBW := Lib.hid hb
    clear hb
    by_cases hlt : i < N
    · have di : decide ((i : Int) < (N : Int)) = true := decide_eq_true (by omega)
      obtain ⟨x, hx⟩ : ∃ x, xs[i]? = some x := ⟨xs[i]'(by rw [HN.out]; exact hlt), List.getElem?_eq_getElem _⟩
      obtain ⟨g1, o1, rfl⟩ : ∃ g o, ao = some ⟨g, o, none⟩ := by
        rcases HA.out.2 with ⟨e, _⟩ | ⟨g, o, cap, e, _⟩
        · rw [e] at hx; cases hx
        · injection e with e; exact ⟨g, o, e⟩
      obtain ⟨g2, o2, rfl⟩ : ∃ g o, bo = some ⟨g, o, none⟩ := by
        rcases HB.out.2 with ⟨e, _⟩ | ⟨g, o, cap, e, _⟩
        · rw [e] at hx; cases hx
        · injection e with e; exact ⟨g, o, e⟩
      obtain ⟨a1, a2, a3⟩ := ev_row_at (HA.out.below HBW.out) hx
      obtain ⟨b1, b2, b3⟩ := ev_row_at (HB.out.below HBW.out) hx
      have EQ := ev_neq a2
      have l1 := Lib.hid (load_ev_re a1 a3)
      have l2 := Lib.hid (load_ev_re b1 b3)
      have da0 : (0 : Int) ≤ (i : Int) := by omega
      have da1 : (i : Int) < (N : Int) := by omega
      obtain ⟨X, hX⟩ : ∃ X, evArr x = X := ⟨_, rfl⟩
      rw [hX] at EQ l1 l2
      clear a1 a2 a3 b1 b2 b3 hx hX
      go_upto_region 6 with fail
      refine wp_region_quiet_below (by kernel_rfl) (by kernel_rfl) ?_
      repeat (first
        | (refine quiet_load_row (by rfl) _ (.tmp 19) rfl _ _ rfl _ l1.out ?_; simp only [Act.put, List.setIfInBounds_toArray, List.set_cons_zero, List.set_cons_succ])
        | (refine quiet_load_row (by rfl) _ (.tmp 23) rfl _ _ rfl _ l2.out ?_; simp only [Act.put, List.setIfInBounds_toArray, List.set_cons_zero, List.set_cons_succ])
        | go_big_quiet_step (fail))
      refine wpQuiet_nil ?_
      intro _ hw'
      obtain ⟨⟨dq, osq⟩, hw''⟩ := hw'
      subst hw''
      have HQ := Lib.hid (HBW.out.trans ((below_regrown wr dq osq).mono HBW.out.size))
      generalize grow (redrawn wr dq) osq = W1 at *
      go_wp2_with fail
      exact ⟨⟨i + 1, hlt, rfl, HQ.out⟩, by simp [intOf]; omega⟩
    · have ei : i = N := by omega
      have di : decide ((i : Int) < (N : Int)) = false := decide_eq_false (by omega)
      have dj : decide (i < N) = false := decide_eq_false (by omega)
      clear ei
      go_wp2_with fail
      go_ret
      exact ⟨rfl, HBW.out⟩
end Go.Proofs.YtpblfpnldbdncaaGreatDoor
