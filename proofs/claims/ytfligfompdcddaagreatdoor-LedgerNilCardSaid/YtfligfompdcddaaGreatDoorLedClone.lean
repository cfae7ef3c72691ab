/- The contract of Postings. -/
import Derived.Test.YtfligfompdcddaaGreatDoorLedLists
import Derived.Laws.OwnMore
import Derived.WalkSpells
namespace Go.Proofs.YtfligfompdcddaaGreatDoor
open Go.RowKit Go.Sort Go.Maps
set_option linter.unusedVariables false
set_option maxHeartbeats 4000000 in
set_option maxRecDepth 100000 in
theorem clone_any {w : World} {v : Value} {n : Nat} {xs : List Value} (h : w.ownsRow 0 24 4 v n xs) (h1 : ∀ u ∈ xs, u.oneCell' = true) (hn : n ≤ 100000) :
    Calls Tryz.prog 39 #[v] w fun e w' => ∃ v', e = .returned v' ∧ w'.ownsRow w.heap.size 24 4 v' n xs ∧ Below w.heap.size w w' := by
  have H := Lib.hid h
  rcases h.2 with ⟨rfl, rfl⟩ | ⟨g, cap, cur, rfl, _⟩
  · clear h
    have hq := Lib.run_eql_slice_nil (P := Tryz.prog) w 30 24 none 0 0 0 0 Tryz.underlying30
    go_enter Tryz.func39, Tryz.ntmps39
    go_wp2_with fail
    go_ret
    exact ⟨_, rfl, ⟨H.out.1, .inl ⟨rfl, rfl⟩⟩, Below.refl _ _⟩
  · have gl := (rows_lt h g rfl).2
    have HL : Hid (xs.length = n * 4) := h.1
    have cells : Hid (∀ (j : Nat) (u : Value), xs[j]? = some u → (w.alloc (.cells #[] 24)).cell? ((⟨g, 0, none⟩ : Addr).add j) = some u) := by
      intro j u hu
      exact (((Below.refl w.heap.size w).alloc (Nat.le_refl _) (.cells #[] 24)).cell (p := (⟨g, 0, none⟩ : Addr).add j) (by simp only [Addr.add]; split <;> exact gl)).trans (h.cells rfl j u hu)
    have OA : Hid ((w.alloc (.cells #[] 24)).ownsRow w.heap.size 24 4 (.slice (some ⟨w.heap.size, 0, none⟩) 0 0) 0 []) :=
      ⟨rfl, .inr ⟨w.heap.size, 0, #[], rfl, Nat.le_refl _, heap_alloc_new _ _, Nat.le_refl _, Nat.zero_le _, rfl, rfl⟩⟩
    have BA := Lib.hid ((Below.refl w.heap.size w).alloc (Nat.le_refl _) (.cells #[] 24))
    have H1 := Lib.hid h1
    obtain ⟨i0, hi, hz0, hz1, hz2⟩ := info_parts (show (Tryz.prog.info? 24).map (fun i => (i.zero, i.size, i.bytes)) = some (some (.agg #[.string ⟨#[]⟩, .string ⟨#[]⟩, .string ⟨#[]⟩, .int .i64 0]), 4, 56) by kernel_rfl)
    have hq := Lib.run_eql_slice_nil (P := Tryz.prog) w 30 24 (some ⟨g, 0, none⟩) n cap 0 0 Tryz.underlying30
    clear h gl h1
    go_enter Tryz.func39, Tryz.ntmps39
    go_wp2_with (at_builtin; go_loud (refine wpList_append_own (P := Tryz.prog) (w.alloc (.cells #[] 24)) rfl (.tmp 5) (.tmp 6) 30 rfl w.heap.size 24 i0 _ 4 56 Tryz.underlying30 hi hz0 hz1 hz2 rfl (by omega) (.slice (some ⟨w.heap.size, 0, none⟩) 0 0) 0 [] rfl OA.out ⟨g, 0, none⟩ n cap xs rfl HL.out cells.out H1.out (by unfold maxLen; omega) (by omega) BA.out.size ?_); intro v2 w2 hown2 hg2 hn2; have OB := Lib.hid hown2; have BB := Lib.hid (BA.out.grown hg2 BA.out.size (fun b e => (rows_lt OA.out b e).1)); clear hown2 hg2 hn2)
    go_ret
    refine ⟨_, rfl, ?_, BB.out⟩
    have := OB.out
    rw [Nat.zero_add, List.nil_append] at this
    exact this
theorem rowP_one (L : List Pst) : ∀ u ∈ rowP L, u.oneCell' = true := by
  intro u hu
  obtain ⟨q, _, hq⟩ := List.mem_flatMap.1 hu
  simp [Pst.arr] at hq
  rcases hq with rfl | rfl | rfl | rfl <;> rfl
set_option maxHeartbeats 4000000 in
set_option maxRecDepth 100000 in
theorem list_any {w : World} {p : Nat} {vs vk vb : Value} {L : List Pst} {c : Nat} (hA : LedAt w p vs vk vb L c) :
    Calls Tryz.prog 19 #[.pointer (some ⟨p, 0, none⟩)] w fun e w' => ∃ v', e = .returned v' ∧ w'.ownsRow w.heap.size 24 4 v' L.length (rowP L) ∧ Below w.heap.size w w' := by
  have CC := Lib.hid (clone_any hA.row (rowP_one L) hA.ok.2.1)
  have x0 : w.cell? ⟨p, 0, none⟩ = some vs := (cell_of_row _ _ 0 _ _ _ hA.cells).trans rfl
  clear hA
  go_enter Tryz.func19, Tryz.ntmps19
  go_wp2_with fail
  refine CC.out.mono ?_
  rintro e w2 ⟨v', rfl, h1, h2⟩
  have H1 := Lib.hid h1
  have H2 := Lib.hid h2
  clear h1 h2
  go_wp2_with fail
  go_ret
  exact ⟨_, rfl, H1.out, H2.out⟩
end Go.Proofs.YtfligfompdcddaaGreatDoor
