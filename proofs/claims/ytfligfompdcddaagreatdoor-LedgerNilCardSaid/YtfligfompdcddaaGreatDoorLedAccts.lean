/- The contract of Accounts. -/
import Derived.Test.YtfligfompdcddaaGreatDoorLedSet
import Derived.Test.YtfligfompdcddaaGreatDoorLedSmall
import Derived.Laws.OwnMore
namespace Go.Proofs.YtfligfompdcddaaGreatDoor
open Go.RowKit Go.Sort Go.Maps
set_option linter.unusedVariables false
/-- the accounts of postings, each as often as it is named -/
def Led.named (L : List Pst) : List (List UInt8) := L.flatMap fun q => [q.src.data.toList, q.dst.data.toList]
theorem named_snoc (L : List Pst) (q : Pst) : Led.named (L ++ [q]) = Led.named L ++ [q.src.data.toList] ++ [q.dst.data.toList] := by simp [Led.named]
/-- the cells of the postings of a ledger -/
theorem LedAt.cellsq {w : World} {p : Nat} {vs vk vb : Value} {L : List Pst} {c : Nat} (h : LedAt w p vs vk vb L c) {k : Nat} {q : Pst} (hq : L[k]? = some q) : ∃ g cap, vs = .slice (some ⟨g, 0, none⟩) L.length cap ∧ ∀ j, j < 4 → w.cell? ⟨g, k * 4 + j, none⟩ = q.arr[j]? := by
  have hk : k < L.length := (List.getElem?_eq_some_iff.1 hq).1
  have hr := h.row
  rcases hr.2 with ⟨_, h0⟩ | ⟨g, cap, cur, rfl, _⟩
  · omega
  · refine ⟨g, cap, rfl, fun j hj => ?_⟩
    rw [hr.cellAt (k * 4 + j) (by omega), rowP_get L k j q hq hj]
set_option maxHeartbeats 4000000 in
set_option maxRecDepth 100000 in
theorem accounts_any {w : World} {p : Nat} {vs vk vb : Value} {L : List Pst} {c : Nat} (hA : LedAt w p vs vk vb L c) (hl : L.length ≤ 1000) :
    Calls Tryz.prog 23 #[.pointer (some ⟨p, 0, none⟩)] w fun e w' => ∃ (v : Value) (ns : List (List UInt8)), e = .returned v ∧ ns.Pairwise (· < ·) ∧ (∀ x, x ∈ ns ↔ x ∈ Led.named L) ∧ ns.length ≤ 2 * L.length ∧
      w'.ownsRow w.heap.size 9 1 v ns.length (ns.map Go.Proofs.encStr) ∧ Below w.heap.size w w' := by
  obtain ⟨ls, cap, hvs⟩ := hA.slice
  subst hvs
  have hpl : p < w.heap.size := hA.foot_lt p (.inl rfl)
  obtain ⟨n, hn⟩ : ∃ n, L.length = n := ⟨_, rfl⟩
  have x0 : (w.alloc (.map #[] 0)).cell? ⟨p, 0, none⟩ = some (.slice ls n cap) := by
    rw [← hn]
    exact (((Below.refl w.heap.size w).alloc (Nat.le_refl _) _).cell (p := ⟨p, 0, none⟩) hpl).trans ((cell_of_row _ _ 0 _ _ _ hA.cells).trans rfl)
  have HA := Lib.hid hA
  have HN := Lib.hid hn
  have HS : Hid (SetAt (w.alloc (.map #[] 0)) w.heap.size 0 []) := SetAt.made w
  have BW := Lib.hid ((Below.refl w.heap.size w).alloc (Nat.le_refl _) (.map #[] 0))
  rw [hn] at hl ⊢
  clear hA hn
  have hmk := @run_makeMap Tryz.prog
  go_enter Tryz.func23, Tryz.ntmps23
  go_wp2_with fail
  generalize w.alloc (.map #[] 0) = W0 at *
  obtain ⟨B, hB⟩ : ∃ B, w.heap.size = B := ⟨_, rfl⟩
  have EB := Lib.hid hB
  rw [hB] at HS ⊢
  clear hB x0
  go_loopw [14] (fun i wr => ∃ k : Nat, k ≤ n ∧ i = .int .i64 k ∧ SetAt wr B (2 * k) (Led.named (L.take k)) ∧ Below B w wr) (fun i _ => n - (intOf i).toNat)
  case atStart => exact ⟨0, Nat.zero_le _, rfl, by rw [List.take_zero]; exact HS.out, by rw [← EB.out]; exact BW.out⟩
  case round =>
    obtain ⟨k, hk, rfl, hS, hb⟩ := hrel
    by_cases hlt : k < n
    · obtain ⟨q, hq⟩ : ∃ q, L[k]? = some q := ⟨L[k]'(by rw [HN.out]; exact hlt), List.getElem?_eq_getElem _⟩
      have htake : L.take (k + 1) = L.take k ++ [q] := by
        rw [List.take_add_one, hq]; rfl
      have hA' := HA.out.below (hb.mono (by rw [EB.out]; exact Nat.le_refl _))
      obtain ⟨g, cap', e1, cellsq⟩ := hA'.cellsq hq
      injection e1 with e1 _ e3
      subst e1 e3
      have hzq := Led.right_sizes (HA.out.ok.1 q (List.mem_of_getElem? hq))
      obtain ⟨qk, qs, qd, qn⟩ := q
      have g0 : wr.cell? ⟨g, k * 4, none⟩ = some (.string qk) := (cellsq 0 (by omega)).trans rfl
      have g1 : wr.cell? ⟨g, k * 4 + 1, none⟩ = some (.string qs) := (cellsq 1 (by omega)).trans rfl
      have g2 : wr.cell? ⟨g, k * 4 + 2, none⟩ = some (.string qd) := (cellsq 2 (by omega)).trans rfl
      have g3 : wr.cell? ⟨g, k * 4 + 3, none⟩ = some (.int .i64 qn) := (cellsq 3 (by omega)).trans rfl
      have hS1 := Lib.hid (hS.below ((Below.refl _ _).alloc (Nat.le_refl _) (.cells #[.string qk, .string qs, .string qd, .int .i64 qn] 24)))
      have hb1 := Lib.hid (hb.alloc (by have := hb.size; have := EB.out; omega) (.cells #[.string qk, .string qs, .string qd, .int .i64 qn] 24))
      have hq2 := heap_alloc_new wr (.cells #[.string qk, .string qs, .string qd, .int .i64 qn] 24)
      have c1 := (cell_of_row _ _ 1 _ _ _ hq2).trans rfl
      have HQ2 := Lib.hid hq2
      have s1 := Lib.hid (show qs.size ≤ maxLen by have := hzq.2.1; unfold maxLen; simp only at this; omega)
      have s2 := Lib.hid (show qd.size ≤ maxLen by have := hzq.2.2; unfold maxLen; simp only at this; omega)
      have HT := Lib.hid htake
      have BL := Lib.hid hS.lt
      clear htake hA' cellsq hzq hq2 hS hb
      go_wp2_with (first
        | (refine wpList_putB rfl rfl (.tmp 18) (.tmp 20) (.const (.bool true)) rfl rfl hS1.out rfl s1.out (by unfold maxLen; omega) rfl ?_
           intro w2 hS2 hg2
           have hq3 := (hg2.block wr.heap.size (by simp) (by intro e; injection e with e; have := BL.out; omega)).trans HQ2.out
           have d1 := (cell_of_row _ _ 2 _ _ _ hq3).trans rfl
           have hS2' := Lib.hid hS2
           have hb2 := Lib.hid (hb1.out.grown hg2 (by have := BL.out; simp; omega) (by intro b e; injection e with e; omega))
           clear hS2 hg2 hq3)
        | (refine wpList_putB rfl rfl (.tmp 21) (.tmp 23) (.const (.bool true)) rfl rfl hS2'.out rfl s2.out (by unfold maxLen; omega) rfl ?_
           intro w3 hS3 hg3
           have hb3 := Lib.hid (hb2.out.grown hg3 (by have := hb2.out.size; have := EB.out; omega) (by intro b e; injection e with e; omega))
           have hS3' := Lib.hid hS3
           clear hS3 hg3))
      refine ⟨⟨k + 1, by omega, by go_num, ?_, hb3.out⟩, by simp [intOf]; omega⟩
      rw [HT.out, named_snoc, show 2 * (k + 1) = 2 * k + 1 + 1 by omega]
      exact hS3'.out
    · obtain rfl : k = n := by omega
      rw [show L.take k = L by rw [← HN.out]; exact List.take_length] at hS
      have CK := Lib.hid keys_any
      have CS := Lib.hid (sorted_any hS (by omega) 76)
      have HB := Lib.hid hb
      clear hS hb
      go_wp2_with fail
      refine (CK.out _ _).mono ?_
      rintro e w2 ⟨rfl, rfl⟩
      go_wp2_with fail
      refine CS.out.mono ?_
      rintro e w3 ⟨v, ns, rfl, h1, h2, h3, h4, h5⟩
      have H4 := Lib.hid h4
      have H5 := Lib.hid (HB.out.trans (h5.mono (by have := HB.out.size; have := EB.out; omega)))
      clear h4 h5
      go_wp2_with fail
      go_ret
      exact ⟨v, ns, rfl, h1, h2, h3, ownsRow_base_a H4.out (by have := HB.out.size; have := EB.out; omega), by have h := H5.out; rw [← EB.out] at h; exact h⟩
end Go.Proofs.YtfligfompdcddaaGreatDoor
