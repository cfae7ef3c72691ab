/- The contracts of the law's postings and of Postings. -/
import Derived.Test.YtfligfompdcddaaGreatDoorLedArg
import Derived.Test.YtfligfompdcddaaGreatDoorLedMid
namespace Go.Proofs.YtfligfompdcddaaGreatDoor
open Go.RowKit Go.Sort Go.Maps
set_option linter.unusedVariables false
theorem rows_below {W w1 : World} {base : Nat} {e : TypeId} {size : Nat} {v : Value} {n : Nat} {xs : List Value} (h : W.ownsRow base e size v n xs) (hb : Below W.heap.size W w1) : w1.ownsRow base e size v n xs := by
  rcases h.2 with h1 | ⟨g, cap, cur, rfl, h1, h2, h3⟩
  · exact ⟨h.1, .inl h1⟩
  · exact ⟨h.1, .inr ⟨g, cap, cur, rfl, h1, heap_below h2 hb, h3⟩⟩
theorem rows_lt {w : World} {base : Nat} {e : TypeId} {size : Nat} {v : Value} {n : Nat} {xs : List Value} (h : w.ownsRow base e size v n xs) : ∀ b, v.ownBlock = some b → base ≤ b ∧ b < w.heap.size := by
  intro b hb
  rcases h.2 with ⟨rfl, _⟩ | ⟨g, cap, cur, rfl, h1, h2, _⟩
  · cases hb
  · injection hb with hb
    subst hb
    exact ⟨h1, (Array.getElem?_eq_some_iff.1 h2).1⟩
set_option maxHeartbeats 4000000 in
set_option maxRecDepth 100000 in
theorem postings_any {w : World} {ao : Option Addr} {n c : Nat} {ns : List Num} (h : ArgNums w ao n c ns) (m : Nat) (hm : m ≤ 40) :
    Calls Tryz.prog 10 #[.slice ao n c, .int .i64 m] w fun e w' => ∃ v, e = .returned v ∧
      w'.ownsRow w.heap.size 24 4 v ((ns.take m).map Led.pst).length (rowP ((ns.take m).map Led.pst)) ∧ Below w.heap.size w w' := by
  obtain ⟨h1, h2, h3, h4⟩ := h
  have HN := Lib.hid h3
  have HC := Lib.hid h4
  clear h3 h4
  go_enter Tryz.func10, Tryz.ntmps10
  go_wp2_with fail
  go_loopw [5, 6] (fun v i wr => ∃ k : Nat, k ≤ n ∧ k ≤ m ∧ i = .int .i64 k ∧ wr.ownsRow w.heap.size 24 4 v k (rowP ((ns.take k).map Led.pst)) ∧ Below w.heap.size w wr) (fun _ i _ => m - (intOf i).toNat)
  case atStart => exact ⟨0, Nat.zero_le _, Nat.zero_le _, rfl, ⟨rfl, .inl ⟨rfl, rfl⟩⟩, Below.refl _ _⟩
  case round =>
    obtain ⟨k, hkn, hkm, rfl, hO, hb⟩ := hrel
    by_cases hl1 : k < n
    · by_cases hl2 : k < m
      · obtain ⟨b, off, rfl, hcell⟩ := HC.out (by omega)
        obtain ⟨q, hq⟩ : ∃ q, ns[k]? = some q := ⟨ns[k]'(by rw [HN.out]; exact hl1), List.getElem?_eq_getElem _⟩
        have hbl : b < w.heap.size := block_lt_of_cell ((hcell k q hq 0 (by omega)).trans rfl)
        have htake : (ns.take (k + 1)).map Led.pst = (ns.take k).map Led.pst ++ [Led.pst q] := by
          rw [List.take_add_one, hq, List.map_append]; rfl
        obtain ⟨z0, z1, z2, z3⟩ := q
        have g0 : wr.cell? ⟨b, off + k * 4, none⟩ = some (.int .i64 z0) := (hb.cell (p := ⟨b, off + k * 4, none⟩) hbl).trans ((hcell k _ hq 0 (by omega)).trans rfl)
        have g1 : wr.cell? ⟨b, off + k * 4 + 1, none⟩ = some (.int .i64 z1) := (hb.cell (p := ⟨b, off + k * 4 + 1, none⟩) hbl).trans ((hcell k _ hq 1 (by omega)).trans rfl)
        have g2 : wr.cell? ⟨b, off + k * 4 + 2, none⟩ = some (.int .i64 z2) := (hb.cell (p := ⟨b, off + k * 4 + 2, none⟩) hbl).trans ((hcell k _ hq 2 (by omega)).trans rfl)
        have g3 : wr.cell? ⟨b, off + k * 4 + 3, none⟩ = some (.int .i64 z3) := (hb.cell (p := ⟨b, off + k * 4 + 3, none⟩) hbl).trans ((hcell k _ hq 3 (by omega)).trans rfl)
        obtain ⟨q, hq'⟩ : ∃ q, Led.pst ⟨z0, z1, z2, z3⟩ = q := ⟨_, rfl⟩
        rw [hq'] at htake
        have CP0 := posting_any ⟨z0, z1, z2, z3⟩
        rw [hq'] at CP0
        obtain ⟨qk, qs, qd, qn⟩ := q
        have CP : Hid (∀ w : World, Calls Tryz.prog 24 #[.agg #[.int .i64 z0, .int .i64 z1, .int .i64 z2, .int .i64 z3]] w fun e w' => e = .returned (.agg #[.string qk, .string qs, .string qd, .int .i64 qn]) ∧ Below w.heap.size w w') := CP0
        have HO := Lib.hid hO
        have HB := Lib.hid hb
        have HT := Lib.hid htake
        clear hcell hO hb htake hq hq' CP0
        go_wp2_with fail
        refine (CP.out _).mono ?_
        rintro e w1 ⟨rfl, hb1⟩
        have szb := HB.out.size
        have OA := Lib.hid (rows_below HO.out (hb1.trans ((Below.refl _ _).alloc hb1.size (.cells #[.string qk, .string qs, .string qd, .int .i64 qn] 24))))
        have BA := Lib.hid (HB.out.trans ((hb1.mono szb).alloc (by have := hb1.size; omega) (.cells #[.string qk, .string qs, .string qd, .int .i64 qn] 24)))
        have NB := Lib.hid (heap_alloc_new w1 (.cells #[.string qk, .string qs, .string qd, .int .i64 qn] 24))
        obtain ⟨i0, hi, hz0, hz1, hz2⟩ := info_parts (show (Tryz.prog.info? 24).map (fun i => (i.zero, i.size, i.bytes)) = some (some (.agg #[.string ⟨#[]⟩, .string ⟨#[]⟩, .string ⟨#[]⟩, .int .i64 0]), 4, 56) by kernel_rfl)
        clear hb1
        go_wp2_with (at_builtin; go_loud (refine wpList_append_own (P := Tryz.prog) (w1.alloc (.cells #[.string qk, .string qs, .string qd, .int .i64 qn] 24)) rfl (.tmp 18) (.tmp 24) 30 rfl w.heap.size 24 i0 _ 4 56 Tryz.underlying30 hi hz0 hz1 hz2 rfl (by omega) _ k _ rfl OA.out ⟨w1.heap.size, 0, none⟩ 1 1 (Pst.mk qk qs qd qn).arr.toList rfl rfl (World.news_of_block NB.out) (by intro u hu; simp [Pst.arr] at hu; rcases hu with rfl | rfl | rfl | rfl <;> rfl) (by unfold maxLen; omega) (by omega) BA.out.size ?_); intro v2 w2 hown2 hg2 hn2; have OB := Lib.hid hown2; have BB := Lib.hid (BA.out.grown hg2 BA.out.size (fun b e => (rows_lt OA.out b e).1)); clear hown2 hg2 hn2)
        refine ⟨⟨k + 1, by omega, by omega, by go_num, ?_, BB.out⟩, by simp [intOf]; omega⟩
        rw [HT.out, rowP_snoc]
        exact OB.out
      · obtain rfl : k = m := by omega
        have HO := Lib.hid hO
        have HB := Lib.hid hb
        clear hO hb
        go_wp2_with fail
        go_ret
        refine ⟨_, rfl, ?_, HB.out⟩
        rw [List.length_map, List.length_take, HN.out, show min k n = k by omega]
        exact HO.out
    · obtain rfl : k = n := by omega
      have HO := Lib.hid hO
      have HB := Lib.hid hb
      clear hO hb
      go_wp2_with fail
      go_ret
      refine ⟨_, rfl, ?_, HB.out⟩
      have e : ns.take m = ns.take k := by rw [List.take_of_length_le (by rw [HN.out]; omega), List.take_of_length_le (by rw [HN.out]; omega)]
      rw [e, List.length_map, List.length_take, HN.out, show min k k = k by omega]
      exact HO.out
end Go.Proofs.YtfligfompdcddaaGreatDoor
