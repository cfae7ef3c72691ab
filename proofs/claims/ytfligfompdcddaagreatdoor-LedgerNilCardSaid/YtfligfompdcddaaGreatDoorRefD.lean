/- The model of the ledger: New, Accounts, Encode, Postings; lists that are alike. -/
import Derived.Test.YtfligfompdcddaaGreatDoorRefC
import Derived.Test.YtfligfompdcddaaGreatDoorLedEnc
import Derived.Test.YtfligfompdcddaaGreatDoorLedCopy
import Derived.Test.YtfligfompdcddaaGreatDoorNatD
namespace Go.Proofs.YtfligfompdcddaaGreatDoor
open Go.RowKit Go.Sort Go.Maps
set_option linter.unusedVariables false
def RefMade (w : World) (e : Ending) (w' : World) : Prop := ∃ m, e = .returned (.pointer (some ⟨m, 0, none⟩)) ∧ Fresh (RefT m []) w w'
set_option maxHeartbeats 1000000 in
theorem refNew_any (w : World) : Calls Tryz.prog 9 #[] w (RefMade w) := by
  have H := Lib.hid (heap_alloc_new w (.cells #[.slice none 0 0] 60))
  have DONE : Hid (RefMade w (.returned (.pointer (some ⟨w.heap.size, 0, none⟩))) (w.alloc (.cells #[.slice none 0 0] 60))) := by
    refine ⟨_, rfl, (Below.refl _ _).alloc (Nat.le_refl _) _, fun k => k = w.heap.size, ⟨_, H.out, ⟨rfl, .inl ⟨rfl, rfl⟩⟩, ⟨fun p hp => by simp at hp, by simp, List.Pairwise.nil⟩, fun k => ⟨.inl, fun h => h.elim id (fun h => by cases h)⟩⟩, fun k hk => by omega⟩
  go_enter Tryz.func9, Tryz.ntmps9
  go_wp2_with fail
  go_ret
  exact DONE.out
def Accounted (L : List Pst) (w : World) (e : Ending) (w' : World) : Prop := ∃ x, e = .returned x ∧ w'.ownsRow w.heap.size 9 1 x (Led.names L).length ((Led.names L).map Go.Proofs.encStr) ∧ Below w.heap.size w w'
set_option maxHeartbeats 4000000 in
set_option maxRecDepth 100000 in
theorem refAccounts_on {m : Nat} {L : List Pst} {w0 w : World} (h : Has (RefT m L) w0 w) (hl1 : L.length ≤ 1000) :
    Calls Tryz.prog 35 #[.pointer (some ⟨m, 0, none⟩)] w (Accounted L w) := by
  obtain ⟨ao, cap, x0, hcq, hok⟩ := RefT.cells h
  have HCQ := Lib.hid hcq
  obtain ⟨l, el⟩ : ∃ l, L.length = l := ⟨_, rfl⟩
  rw [el] at x0 hl1
  have EL := Lib.hid el
  have X0 := Lib.hid x0
  clear h hcq hok el
  go_enter Tryz.func35, Tryz.ntmps35
  go_wp2_with fail
  clear x0
  go_loopw [3, 4] (fun v i wr => ∃ j : Nat, j ≤ l ∧ i = .int .i64 j ∧ wr.ownsRow w.heap.size 9 1 v (Led.names (L.take j)).length ((Led.names (L.take j)).map Go.Proofs.encStr) ∧ Below w.heap.size w wr) (fun _ i _ => l - (intOf i).toNat)
  case atStart => exact ⟨0, Nat.zero_le _, rfl, ⟨rfl, .inl ⟨rfl, rfl⟩⟩, Below.refl _ _⟩
  case round =>
    obtain ⟨j, hj, rfl, hO, hb⟩ := hrel
    have HO := Lib.hid hO
    have BW := Lib.hid hb
    clear hO hb
    have x0 : wr.cell? ⟨m, 0, none⟩ = some (.slice ao l cap) := (BW.out.cell (p := ⟨m, 0, none⟩) (block_lt_of_cell X0.out)).trans X0.out
    by_cases hjl : j < l
    · obtain ⟨q, hq⟩ : ∃ q, L[j]? = some q := ⟨L[j]'(by rw [EL.out]; exact hjl), List.getElem?_eq_getElem _⟩
      have htk : L.take (j + 1) = L.take j ++ [q] := by rw [List.take_add_one, hq]; rfl
      have NX := Lib.hid (show Led.names (L.take (j + 1)) = Led.ins (Led.ins (Led.names (L.take j)) q.src.data.toList) q.dst.data.toList by rw [htk, Led.names_snoc])
      obtain ⟨g4, rfl, cq⟩ := HCQ.out j q hq
      obtain ⟨qk, qs, qd, qn⟩ := q
      have c1 : wr.cell? ⟨g4, j * 4 + 1, none⟩ = some (.string qs) := by
        have c := (cq 1 (by omega)).trans (rfl : _ = some (Value.string qs))
        exact (BW.out.cell (p := ⟨g4, j * 4 + 1, none⟩) (block_lt_of_cell c)).trans c
      have c2 : wr.cell? ⟨g4, j * 4 + 2, none⟩ = some (.string qd) := by
        have c := (cq 2 (by omega)).trans (rfl : _ = some (Value.string qd))
        exact (BW.out.cell (p := ⟨g4, j * 4 + 2, none⟩) (block_lt_of_cell c)).trans c
      have KS := Lib.hid (fun (W : World) (hb : Below wr.heap.size wr W) => (⟨(hb.cell (block_lt_of_cell x0)).trans x0, (hb.cell (block_lt_of_cell c1)).trans c1, (hb.cell (block_lt_of_cell c2)).trans c2⟩ : W.cell? ⟨m, 0, none⟩ = some (.slice (some ⟨g4, 0, none⟩) l cap) ∧ W.cell? ⟨g4, j * 4 + 1, none⟩ = some (.string qs) ∧ W.cell? ⟨g4, j * 4 + 2, none⟩ = some (.string qd)))
      have nl := Led.names_length (L.take j)
      have nl2 : (L.take j).length ≤ 1000 := by rw [List.length_take]; omega
      have nl3 := Led.ins_length qs.data.toList (Led.names (L.take j))
      have C1 := Lib.hid (fun (W : World) (hb : Below wr.heap.size wr W) => insert_any (rows_below HO.out hb) qs (Nat.le_trans BW.out.size hb.size) (by omega))
      have C2 := Lib.hid (fun (W : World) (v : Value) (hv : W.ownsRow w.heap.size 9 1 v (Led.ins (Led.names (L.take j)) qs.data.toList).length ((Led.ins (Led.names (L.take j)) qs.data.toList).map Go.Proofs.encStr)) (hz : w.heap.size ≤ W.heap.size) => insert_any hv qd hz (by omega))
      have r1 : (0 : Int) ≤ (j : Int) := by omega
      have r2 : (j : Int) < (l : Int) := by omega
      have r3 : (j : Int).toNat = j := by omega
      clear htk hq cq nl nl2 nl3
      go_wp2_with fail
      go_region_held3 (fun w' => w'.cell? ⟨m, 0, none⟩ = some (.slice (some ⟨g4, 0, none⟩) l cap) ∧ w'.cell? ⟨g4, j * 4 + 1, none⟩ = some (.string qs) ∧ w'.cell? ⟨g4, j * 4 + 2, none⟩ = some (.string qd)) (go_keep)
        (first
          | ((with_reducible refine (C2.out _ _ R1.out Z1.out).mono ?_); (rintro e w2 ⟨v2, rfl, rr2, b2⟩); have bw2 := Lib.hid (below_join bw.out b2); (obtain ⟨k3, k4, k5⟩ := KS.out _ bw2.out); have R2 := Lib.hid rr2; clear rr2 b2)
          | ((with_reducible refine (C1.out _ ((Below.refl _ _).drew)).mono ?_); (rintro e w1 ⟨v1, rfl, rr1, b1⟩); have bw := Lib.hid (below_join ((Below.refl wr.heap.size wr).drew) b1); (obtain ⟨k0, k1, k2⟩ := KS.out _ bw.out); have R1 := Lib.hid rr1; have Z1 := Lib.hid (Nat.le_trans BW.out.size bw.out.size); clear rr1 b1))
      have B9 := Lib.hid (below_join BW.out bw2.out)
      go_wp2_with fail
      refine ⟨⟨j + 1, by omega, by go_num, by rw [NX.out]; exact R2.out, B9.out⟩, by simp [intOf]; omega⟩
    · obtain rfl : j = l := by omega
      have ES := Lib.hid (show L.take j = L by rw [← EL.out]; exact List.take_length)
      go_wp2_with fail
      go_ret
      exact ⟨_, rfl, by rw [ES.out] at HO; exact HO.out, BW.out⟩
end Go.Proofs.YtfligfompdcddaaGreatDoor
