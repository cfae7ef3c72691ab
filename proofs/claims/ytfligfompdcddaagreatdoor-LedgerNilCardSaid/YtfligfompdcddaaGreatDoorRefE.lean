/- The model of the ledger: Encode, Postings; lists that are alike. -/
import Derived.Test.YtfligfompdcddaaGreatDoorRefD
namespace Go.Proofs.YtfligfompdcddaaGreatDoor
open Go.RowKit Go.Sort Go.Maps
set_option linter.unusedVariables false
theorem enc_next (L : List Pst) (ns : List (List UInt8)) (x : List UInt8) (n : Int) (h : Led.bal L (bstr x) = n) : bstr (Led.encs L ns) ++ bstr (Lib.itoa n) ++ ⟨#[32]⟩ ++ bstr x ++ ⟨#[10]⟩ = bstr (Led.encs L (ns ++ [x])) := by
  rw [Led.encs_snoc, Led.line, ← h]
  apply ByteArray.ext
  simp [bstr, ByteArray.data_append]
set_option maxHeartbeats 4000000 in
set_option maxRecDepth 100000 in
theorem refEncode_on {m : Nat} {L : List Pst} {w0 w : World} (h : Has (RefT m L) w0 w) (hl : L.length ≤ 1000) :
    Calls Tryz.prog 25 #[.pointer (some ⟨m, 0, none⟩)] w (Encoded L w) := by
  have H := Lib.hid h
  have HL := Lib.hid hl
  have OK : Hid (Led.Ok L) := by obtain ⟨_, _, _, _, h3⟩ := RefT.cells h; exact h3
  have CA := Lib.hid (refAccounts_on h hl)
  clear h hl
  go_enter Tryz.func25, Tryz.ntmps25
  go_wp2_with fail
  refine CA.out.mono ?_
  rintro e W ⟨x, rfl, s1, s2⟩
  obtain ⟨ao, cap, rfl, hc⟩ := strs_row s1
  have B2 := Lib.hid s2
  have S2 := Lib.hid s1
  have HC := Lib.hid hc
  have NL := Lib.hid (show (Led.names L).length ≤ 2000 by have := Led.names_length L; have := HL.out; omega)
  have NM := Lib.hid (show ∀ x ∈ Led.names L, x.length ≤ 100 from fun x hx => named_size OK.out.1 (Led.mem_names.1 hx))
  obtain ⟨ns, hns⟩ : ∃ ns, Led.names L = ns := ⟨_, rfl⟩
  rw [hns] at NL NM S2 HC ⊢
  obtain ⟨n, hn⟩ : ∃ n, ns.length = n := ⟨_, rfl⟩
  rw [hn] at NL S2 ⊢
  have HN := Lib.hid hn
  have HNS := Lib.hid hns
  have nb : n ≤ 2000 := NL.out
  clear s1 s2 hc hn hns CA
  go_wp2_with fail
  go_loopw [3, 5] (fun s i wr => ∃ k : Nat, k ≤ n ∧ i = .int .i64 k ∧ s = .string (bstr (Led.encs L (ns.take k))) ∧ Below W.heap.size W wr) (fun _ i _ => n - (intOf i).toNat)
  case atStart => exact ⟨0, Nat.zero_le _, rfl, by rw [List.take_zero]; rfl, Below.refl _ _⟩
  case round =>
    obtain ⟨k, hk, rfl, rfl, hb⟩ := hrel
    have BW := Lib.hid hb
    clear hb
    by_cases hlt : k < n
    · obtain ⟨x, hx⟩ : ∃ x, ns[k]? = some x := ⟨ns[k]'(by rw [HN.out]; exact hlt), List.getElem?_eq_getElem _⟩
      obtain ⟨g, rfl, cx⟩ := HC.out k x hx
      have cx2 : wr.cell? ⟨g, k, none⟩ = some (.string (bstr x)) := (BW.out.cell (block_lt_of_cell cx)).trans cx
      have xl := NM.out x (List.mem_of_getElem? hx)
      have htk : ns.take (k + 1) = ns.take k ++ [x] := by rw [List.take_add_one, hx]; rfl
      have hbal := Led.bal_le OK.out.1 (bstr x)
      have hl1 := HL.out
      obtain ⟨N, hN⟩ : ∃ N, Led.bal L (bstr x) = N := ⟨_, rfl⟩
      rw [hN] at hbal
      have il := Lib.itoa_length_le N (by omega) (by omega)
      have el := encs_length L OK.out.1 hl1 (ns.take k) (fun y hy => NM.out y (List.mem_of_mem_take hy))
      have tl : (ns.take k).length ≤ 2000 := by rw [List.length_take]; omega
      have bw := below_join B2.out BW.out
      have CB : Hid (∀ dd os, Calls Tryz.prog 14 #[.pointer (some ⟨m, 0, none⟩), .string (bstr x)] (grow (redrawn wr dd) os) fun e w' => e = .returned (.int .i64 N) ∧ Below (grow (redrawn wr dd) os).heap.size (grow (redrawn wr dd) os) w') := fun dd os =>
        (refBalance_on (H.out.below (below_join bw (below_regrown wr dd os))) (bstr x) N hN).mono fun e w' ⟨he, hw⟩ => ⟨he, by rw [hw]; exact Below.refl _ _⟩
      have CD : Hid (∀ V, Calls Tryz.prog 45 #[.int .i64 N] V fun e w' => e = .returned (.string (bstr (Lib.itoa N))) ∧ Below V.heap.size V w') := fun V => decimal_any N V (by omega) (by omega)
      have EN := Lib.hid (enc_next L (ns.take k) x N hN)
      have q1 : (bstr (Lib.itoa N)).size ≤ 21 := by rw [bstr_size]; exact il
      have q2 : (bstr x).size ≤ 100 := by rw [bstr_size]; exact xl
      have q3 : (bstr (Led.encs L (ns.take k))).size ≤ 260000 := by rw [bstr_size]; omega
      have HT := Lib.hid htk
      obtain ⟨eb, heb⟩ : ∃ eb, bstr (Led.encs L (ns.take k)) = eb := ⟨_, rfl⟩
      obtain ⟨tx, htx⟩ : ∃ tx, bstr (Lib.itoa N) = tx := ⟨_, rfl⟩
      obtain ⟨xb, hxb⟩ : ∃ xb, bstr x = xb := ⟨_, rfl⟩
      rw [htx] at q1 CD EN
      rw [hxb] at q2 cx2 CB EN
      rw [heb] at q3 EN ⊢
      have p1 : ¬ 9223372036854775807 < eb.size + tx.size := by omega
      have p2 : ¬ 9223372036854775807 < eb.size + tx.size + 1 := by omega
      have p3 : ¬ 9223372036854775807 < eb.size + tx.size + 1 + xb.size := by omega
      have p4 : ¬ 9223372036854775807 < eb.size + tx.size + 1 + xb.size + 1 := by omega
      have cx3 : ∀ dd os, (grow (redrawn wr dd) os).cell? ⟨g, k, none⟩ = some (.string xb) := fun dd os => ((below_regrown wr dd os).cell (block_lt_of_cell cx2)).trans cx2
      have r1 : (0 : Int) ≤ (k : Int) := by omega
      have r2 : (k : Int) < (n : Int) := by omega
      have r3 : (k : Int).toNat = k := by omega
      clear cx xl htk hbal hl1 hN il el tl bw heb htx hxb hx q1 q2 q3 cx2
      go_wp2_with fail
      refine wp_region_quiet_below (by kernel_rfl) (by kernel_rfl) ?_
      repeat (go_big_quiet_step (first | (with_reducible exact Calls.regrown_of (CB.out _ _)) | (with_reducible exact Calls.regrown_of (CD.out _))))
      refine wpQuiet_nil ?_
      intro _ hw'
      obtain ⟨⟨dq, osq⟩, hw''⟩ := hw'
      subst hw''
      have B3 := Lib.hid (below_join BW.out (below_regrown wr dq osq))
      rw [EN.out, ← HT.out]
      clear p1 p2 p3 p4 cx3
      go_wp2_with fail
      refine ⟨⟨k + 1, by omega, by go_num, by first | trivial | rfl, B3.out⟩, by simp [intOf]; omega⟩
    · obtain rfl : k = n := by omega
      have ES := Lib.hid (show ns.take k = ns by rw [← HN.out]; exact List.take_length)
      rw [ES.out]
      go_wp2_with fail
      go_ret
      exact ⟨by rw [Led.enc, HNS.out]; rfl, below_join B2.out BW.out⟩
def Listed (L : List Pst) (w : World) (e : Ending) (w' : World) : Prop := ∃ v, e = .returned v ∧ w'.ownsRow w.heap.size 24 4 v L.length (rowP L) ∧ Below w.heap.size w w'
set_option maxHeartbeats 4000000 in
set_option maxRecDepth 100000 in
theorem refPostings_on {m : Nat} {L : List Pst} {w0 w : World} (h : Has (RefT m L) w0 w) :
    Calls Tryz.prog 33 #[.pointer (some ⟨m, 0, none⟩)] w (Listed L w) := by
  obtain ⟨F, ⟨vs, h1, h2, h3, _⟩, _⟩ := h
  have ba : Below w.heap.size w (w.alloc (.cells #[] 24)) := (Below.refl _ _).alloc (Nat.le_refl _) _
  have x0 : (w.alloc (.cells #[] 24)).cell? ⟨m, 0, none⟩ = some vs := (cell_of_row _ _ 0 _ _ _ (heap_below h1 ba)).trans rfl
  have OA : Hid ((w.alloc (.cells #[] 24)).ownsRow w.heap.size 24 4 (.slice (some ⟨w.heap.size, 0, none⟩) 0 0) 0 []) :=
    ⟨rfl, .inr ⟨w.heap.size, 0, #[], rfl, Nat.le_refl _, heap_alloc_new _ _, Nat.le_refl _, Nat.zero_le _, rfl, rfl⟩⟩
  have R := Lib.hid (rows_below h2 ba)
  have BA := Lib.hid ba
  have HL := Lib.hid (h3.2.1)
  obtain ⟨i0, hi, hz0, hz1, hz2⟩ := info_parts (show (Tryz.prog.info? 24).map (fun i => (i.zero, i.size, i.bytes)) = some (some (.agg #[.string ⟨#[]⟩, .string ⟨#[]⟩, .string ⟨#[]⟩, .int .i64 0]), 4, 56) by kernel_rfl)
  rcases h2.2 with ⟨rfl, h0⟩ | ⟨g, cap, cur, rfl, _⟩
  · have HN := Lib.hid h0
    clear h1 h2 h3 ba h0
    go_enter Tryz.func33, Tryz.ntmps33
    go_wp2_with (at_builtin; refine wpList_append_own_none rfl (.tmp 3) (.tmp 7) 30 rfl w.heap.size 24 i0 4 Tryz.underlying30 hi (.slice (some ⟨w.heap.size, 0, none⟩) 0 0) 0 [] rfl OA.out rfl ?_)
    go_ret
    refine ⟨_, rfl, ?_, BA.out⟩
    rw [List.eq_nil_of_length_eq_zero HN.out]
    exact OA.out
  · have HX : Hid ((rowP L).length = L.length * 4) := h2.1
    have CELLS : Hid (∀ (j : Nat) (u : Value), (rowP L)[j]? = some u → (w.alloc (.cells #[] 24)).cell? ((⟨g, 0, none⟩ : Addr).add j) = some u) := fun j u hu => R.out.cells rfl j u hu
    obtain ⟨n, hn⟩ : ∃ n, L.length = n := ⟨_, rfl⟩
    rw [hn] at x0 HX HL
    have HN := Lib.hid hn
    have nb := HL.out
    clear h1 h2 h3 ba hn
    go_enter Tryz.func33, Tryz.ntmps33
    go_wp2_with (at_builtin; (refine wpList_append_own (P := Tryz.prog) (w.alloc (.cells #[] 24)) rfl (.tmp 3) (.tmp 7) 30 rfl w.heap.size 24 i0 _ 4 56 Tryz.underlying30 hi hz0 hz1 hz2 rfl (by omega) (.slice (some ⟨w.heap.size, 0, none⟩) 0 0) 0 [] rfl OA.out ⟨g, 0, none⟩ n cap (rowP L) rfl HX.out CELLS.out (rowP_one L) (by unfold maxLen; omega) (by omega) BA.out.size ?_); intro v2 w2 hown2 hg2 hn2; have OB := Lib.hid hown2; have BB := Lib.hid (BA.out.grown hg2 BA.out.size (fun b e => (rows_lt OA.out b e).1)); clear hown2 hg2 hn2)
    go_ret
    refine ⟨_, rfl, ?_, BB.out⟩
    rw [HN.out]
    have r := OB.out
    rw [Nat.zero_add, List.nil_append] at r
    exact r
theorem pst_neq (x : Pst) (w : World) : (binOp .neq 24 (.agg #[.string x.key, .string x.src, .string x.dst, .int .i64 x.amt]) (.agg #[.string x.key, .string x.src, .string x.dst, .int .i64 x.amt])).run Tryz.prog w = .ok (.bool false) w := by
  have h := pst_eql x x w
  rw [run_eql_struct] at h
  rw [run_neq_struct]
  generalize (Op.equalIn 10000 24 (.agg #[.string x.key, .string x.src, .string x.dst, .int .i64 x.amt]) (.agg #[.string x.key, .string x.src, .string x.dst, .int .i64 x.amt])).run Tryz.prog w = r at h ⊢
  cases r with
  | ok b w' =>
    simp only [Result.andThen, decide_true, Result.ok.injEq, Value.bool.injEq] at h ⊢
    obtain ⟨rfl, rfl⟩ := h
    exact ⟨rfl, rfl⟩
  | halt x w' => simp [Result.andThen] at h
set_option maxHeartbeats 4000000 in
set_option maxRecDepth 100000 in
theorem same_any {w : World} {B1 B2 : Nat} {v1 v2 : Value} {ps : List Pst} (h1 : w.ownsRow B1 24 4 v1 ps.length (rowP ps)) (h2 : w.ownsRow B2 24 4 v2 ps.length (rowP ps)) (hl : ps.length ≤ 100000) :
    Calls Tryz.prog 21 #[v1, v2] w fun e w' => e = .returned (.bool true) ∧ Below w.heap.size w w' := by
  obtain ⟨a1, c1, rfl, q1⟩ := psts_cells h1
  obtain ⟨a2, c2, rfl, q2⟩ := psts_cells h2
  obtain ⟨n, hn⟩ : ∃ n, ps.length = n := ⟨_, rfl⟩
  rw [hn] at hl ⊢
  have HN := Lib.hid hn
  have Q1 := Lib.hid q1
  have Q2 := Lib.hid q2
  clear h1 h2 q1 q2 hn
  go_enter Tryz.func21, Tryz.ntmps21
  go_wp2_with fail
  go_loopw [5] (fun i wr => ∃ k : Nat, k ≤ n ∧ i = .int .i64 k ∧ Below w.heap.size w wr) (fun i _ => n - (intOf i).toNat)
  case atStart => exact ⟨0, Nat.zero_le _, rfl, Below.refl _ _⟩
  case round =>
    obtain ⟨k, hk, rfl, hB⟩ := hrel
    have HB := Lib.hid hB
    clear hB
    by_cases hlt : k < n
    · obtain ⟨q, hq⟩ : ∃ q, ps[k]? = some q := ⟨ps[k]'(by rw [HN.out]; exact hlt), List.getElem?_eq_getElem _⟩
      obtain ⟨g1, rfl, d1⟩ := Q1.out k q hq
      obtain ⟨g2, rfl, d2⟩ := Q2.out k q hq
      obtain ⟨qk, qs, qd, qn⟩ := q
      have kept : ∀ (a : Addr) (v : Value), w.cell? a = some v → ∀ dd os, (grow (redrawn wr dd) os).cell? a = some v := fun a v ha dd os =>
        ((below_join HB.out (below_regrown wr dd os)).cell (block_lt_of_cell ha)).trans ha
      have x0 := kept _ (.string qk) ((d1 0 (by omega)).trans rfl)
      have x1 := kept _ (.string qs) ((d1 1 (by omega)).trans rfl)
      have x2 := kept _ (.string qd) ((d1 2 (by omega)).trans rfl)
      have x3 := kept _ (.int .i64 qn) ((d1 3 (by omega)).trans rfl)
      have y0 := kept _ (.string qk) ((d2 0 (by omega)).trans rfl)
      have y1 := kept _ (.string qs) ((d2 1 (by omega)).trans rfl)
      have y2 := kept _ (.string qd) ((d2 2 (by omega)).trans rfl)
      have y3 := kept _ (.int .i64 qn) ((d2 3 (by omega)).trans rfl)
      rw [Nat.add_zero] at x0 y0
      have hne := fun W => pst_neq ⟨qk, qs, qd, qn⟩ W
      have r1 : (0 : Int) ≤ (k : Int) := by omega
      have r2 : (k : Int) < (n : Int) := by omega
      have r3 : (k : Int).toNat = k := by omega
      clear kept d1 d2 hq
      go_wp2_with fail
      refine wp_region_quiet_below (by kernel_rfl) (by kernel_rfl) ?_
      repeat (go_big_quiet_step (fail))
      refine wpQuiet_nil ?_
      intro _ hw'
      obtain ⟨⟨dq, osq⟩, hw''⟩ := hw'
      subst hw''
      have B := Lib.hid (below_join HB.out (below_regrown wr dq osq))
      clear x0 x1 x2 x3 y0 y1 y2 y3 hne
      go_wp2_with fail
      refine ⟨⟨k + 1, by omega, by go_num, B.out⟩, by simp [intOf]; omega⟩
    · obtain rfl : k = n := by omega
      go_wp2_with fail
      go_ret
      exact ⟨rfl, HB.out⟩
set_option maxHeartbeats 4000000 in
set_option maxRecDepth 100000 in
theorem strings_any {w : World} {B1 B2 : Nat} {v1 v2 : Value} {ns : List (List UInt8)} (h1 : w.ownsRow B1 9 1 v1 ns.length (ns.map Go.Proofs.encStr)) (h2 : w.ownsRow B2 9 1 v2 ns.length (ns.map Go.Proofs.encStr)) (hl : ns.length ≤ 100000) :
    Calls Tryz.prog 34 #[v1, v2] w fun e w' => e = .returned (.bool true) ∧ Below w.heap.size w w' := by
  obtain ⟨a1, c1, rfl, q1⟩ := strs_row h1
  obtain ⟨a2, c2, rfl, q2⟩ := strs_row h2
  obtain ⟨n, hn⟩ : ∃ n, ns.length = n := ⟨_, rfl⟩
  rw [hn] at hl ⊢
  have HN := Lib.hid hn
  have Q1 := Lib.hid q1
  have Q2 := Lib.hid q2
  clear h1 h2 q1 q2 hn
  go_enter Tryz.func34, Tryz.ntmps34
  go_wp2_with fail
  go_loopw [5] (fun i wr => ∃ k : Nat, k ≤ n ∧ i = .int .i64 k ∧ Below w.heap.size w wr) (fun i _ => n - (intOf i).toNat)
  case atStart => exact ⟨0, Nat.zero_le _, rfl, Below.refl _ _⟩
  case round =>
    obtain ⟨k, hk, rfl, hB⟩ := hrel
    have HB := Lib.hid hB
    clear hB
    by_cases hlt : k < n
    · obtain ⟨x, hx⟩ : ∃ x, ns[k]? = some x := ⟨ns[k]'(by rw [HN.out]; exact hlt), List.getElem?_eq_getElem _⟩
      obtain ⟨g1, rfl, d1⟩ := Q1.out k x hx
      obtain ⟨g2, rfl, d2⟩ := Q2.out k x hx
      obtain ⟨xb, hxb⟩ : ∃ xb : ByteArray, (⟨x.toArray⟩ : ByteArray) = xb := ⟨_, rfl⟩
      rw [hxb] at d1 d2
      have kept : ∀ (a : Addr) (v : Value), w.cell? a = some v → ∀ dd os, (grow (redrawn wr dd) os).cell? a = some v := fun a v ha dd os =>
        ((below_join HB.out (below_regrown wr dd os)).cell (block_lt_of_cell ha)).trans ha
      have x0 := kept _ _ d1
      have y0 := kept _ _ d2
      have hne := bytes_eq xb
      have r1 : (0 : Int) ≤ (k : Int) := by omega
      have r2 : (k : Int) < (n : Int) := by omega
      have r3 : (k : Int).toNat = k := by omega
      clear kept d1 d2 hx hxb
      go_wp2_with fail
      refine wp_region_quiet_below (by kernel_rfl) (by kernel_rfl) ?_
      repeat (go_big_quiet_step (fail))
      refine wpQuiet_nil ?_
      intro _ hw'
      obtain ⟨⟨dq, osq⟩, hw''⟩ := hw'
      subst hw''
      have B := Lib.hid (below_join HB.out (below_regrown wr dq osq))
      clear x0 y0
      go_wp2_with fail
      refine ⟨⟨k + 1, by omega, by go_num, B.out⟩, by simp [intOf]; omega⟩
    · obtain rfl : k = n := by omega
      go_wp2_with fail
      go_ret
      exact ⟨rfl, HB.out⟩
end Go.Proofs.YtfligfompdcddaaGreatDoor
