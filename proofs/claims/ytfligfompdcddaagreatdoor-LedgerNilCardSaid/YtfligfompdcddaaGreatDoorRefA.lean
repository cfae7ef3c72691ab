/- The model of the ledger: names, sources, balances, keys. -/
import Derived.Test.YtfligfompdcddaaGreatDoorLedThing
import Derived.Test.YtfligfompdcddaaGreatDoorLedSan
import Derived.Lib.IndexAny
import Derived.WalkLawsBesides
namespace Go.Proofs.YtfligfompdcddaaGreatDoor
open Go.RowKit Go.Sort Go.Maps
set_option linter.unusedVariables false
theorem name_eq (s : ByteArray) : Led.name s = (decide (1 ≤ s.size) && decide (s.size ≤ 100) && !(s.data.toList.contains 10)) := by
  unfold Led.name
  rw [Lib.contains_iff_indexByte]
  have e : (!(s.size == 0)) = decide (1 ≤ s.size) := by
    by_cases h : s.size = 0
    · rw [h]; rfl
    · rw [decide_eq_true (by omega)]; simp [h]
  rw [e]
theorem u8_ne {x : UInt8} {n : Nat} (hn : n < 256) (h : x ≠ UInt8.ofNat n) : x.toNat ≠ n := fun e => h (by rw [← e]; simp)
set_option maxHeartbeats 1000000 in
theorem refName_any (s : ByteArray) (w : World) (hs : s.size ≤ maxLen) (b : Bool) (hb : Led.name s = b) : Calls Tryz.prog 31 #[.string s] w fun e w' => e = .returned (.bool b) ∧ w' = w := by
  unfold maxLen at hs
  have EB := Lib.hid (hb.symm.trans (name_eq s))
  clear hb
  go_enter Tryz.func31, Tryz.ntmps31
  go_wp2_with fail
  go_loop [3] (fun i => ∃ k : Nat, k ≤ s.size ∧ i = .int .i64 k ∧ ∀ j, j < k → s.data.toList[j]? ≠ some 10) (fun i => s.size - (intOf i).toNat)
  case atStart => exact ⟨0, Nat.zero_le _, rfl, fun j hj => by omega⟩
  case round =>
    obtain ⟨k, hk, rfl, hall⟩ := hrel
    have ALL := Lib.hid hall
    clear hall
    by_cases hlt : k < s.size
    · have eg : s.data.toList[k]? = some s[k] := by
        rw [Array.getElem?_toList, Array.getElem?_eq_getElem hlt]; rfl
      have EG := Lib.hid eg
      clear eg
      by_cases h0 : s[k] = 10
      · have b1 : ((s[k].toNat : Int) == 10) = true := by rw [h0]; rfl
        have b2 : (s[k].toNat == 10) = true := by rw [h0]; rfl
        have hc : s.data.toList.contains 10 = true := by
          rw [List.contains_iff_mem]
          have := List.mem_of_getElem? EG.out
          rw [h0] at this
          exact this
        have e : b = false := by rw [EB.out, hc]; simp
        subst e
        clear h0 hc
        go_wp2_with fail
        go_ret
        exact ⟨rfl, rfl⟩
      · have hn : s[k].toNat ≠ 10 := u8_ne (n := 10) (by omega) h0
        have b1 : ((s[k].toNat : Int) == 10) = false := by simp; omega
        have b2 : (s[k].toNat == 10) = false := by simp; omega
        have H0 := Lib.hid h0
        clear h0 hn
        go_wp2_with fail
        go_round
        case rel => exact ⟨k + 1, by omega, by go_num, fun j hj => by
          by_cases e : j = k
          · subst e; rw [EG.out]; exact fun e => H0.out (by injection e)
          · exact ALL.out j (by omega)⟩
        case measure => simp [intOf]; omega
    · obtain rfl : k = s.size := by omega
      have hc : s.data.toList.contains 10 = false := by
        rw [Bool.eq_false_iff]
        intro h
        rw [List.contains_iff_mem] at h
        obtain ⟨j, hj⟩ := List.mem_iff_getElem?.1 h
        have hj2 := (List.getElem?_eq_some_iff.1 hj).1
        exact ALL.out j (by rw [Array.length_toList] at hj2; exact hj2) hj
      have e : b = (decide (1 ≤ s.size) && decide (s.size ≤ 100)) := by rw [EB.out, hc]; simp
      have E := Lib.hid e
      clear hc EB e
      by_cases h1 : 1 ≤ s.size
      · have d1 : decide ((1 : Int) ≤ (s.size : Int)) = true := by simp; omega
        have D1 := Lib.hid (decide_eq_true h1)
        by_cases h2 : s.size ≤ 100
        · have d2 : decide ((s.size : Int) ≤ 100) = true := by simp; omega
          have D2 := Lib.hid (decide_eq_true h2)
          obtain rfl : b = true := by rw [E.out, D1.out, D2.out]; rfl
          go_wp2_with fail
          go_ret
          exact ⟨rfl, rfl⟩
        · have d2 : decide ((s.size : Int) ≤ 100) = false := by simp; omega
          have D2 := Lib.hid (decide_eq_false h2)
          obtain rfl : b = false := by rw [E.out, D1.out, D2.out]; rfl
          go_wp2_with fail
          go_ret
          exact ⟨rfl, rfl⟩
      · have d1 : decide ((1 : Int) ≤ (s.size : Int)) = false := by simp; omega
        have D1 := Lib.hid (decide_eq_false h1)
        obtain rfl : b = false := by rw [E.out, D1.out]; rfl
        go_wp2_with fail
        go_ret
        exact ⟨rfl, rfl⟩
set_option maxHeartbeats 1000000 in
theorem source_any (s : ByteArray) (w : World) (hs : s.size ≤ maxLen) (b : Bool) (hb : Led.mint s = b) : Calls Tryz.prog 32 #[.string s] w fun e w' => e = .returned (.bool b) ∧ w' = w := by
  unfold maxLen at hs
  have EB : Hid (b = (decide (4 ≤ s.size) && ((s.extract 0 4).toList == [109, 105, 110, 116]))) := by
    show _ = _
    have := Lib.hasPrefix_raw s ⟨#[109, 105, 110, 116]⟩
    rw [← hb, Led.mint]
    rw [show ([109, 105, 110, 116] : List UInt8) = (⟨#[109, 105, 110, 116]⟩ : ByteArray).data.toList from rfl, ← this, ByteArray.toList_eq ⟨#[109, 105, 110, 116]⟩]
    rfl
  clear hb
  by_cases h : 4 ≤ s.size
  · have d1 : decide ((4 : Int) ≤ (s.size : Int)) = true := by simp; omega
    have d2 := decide_eq_true h
    obtain ⟨t, ht⟩ : ∃ t, ((s.extract 0 4).toList == [109, 105, 110, 116]) = t := ⟨_, rfl⟩
    obtain rfl : b = t := by rw [EB.out, d2, ht]; rfl
    clear EB d2
    cases b
    all_goals
      go_enter Tryz.func32, Tryz.ntmps32
      go_wp2_with fail
      go_ret
      exact ⟨rfl, rfl⟩
  · have d1 : decide ((4 : Int) ≤ (s.size : Int)) = false := by simp; omega
    have d2 := decide_eq_false h
    obtain rfl : b = false := by rw [EB.out, d2]; rfl
    clear EB d2
    go_enter Tryz.func32, Tryz.ntmps32
    go_wp2_with fail
    go_ret
    exact ⟨rfl, rfl⟩
/-- what the model's memory gives -/
theorem RefT.cells {m : Nat} {L : List Pst} {w0 w : World} (h : Has (RefT m L) w0 w) : ∃ ao cap, w.cell? ⟨m, 0, none⟩ = some (.slice ao L.length cap) ∧ (∀ k q, L[k]? = some q → ∃ g, ao = some ⟨g, 0, none⟩ ∧ ∀ j, j < 4 → w.cell? ⟨g, k * 4 + j, none⟩ = q.arr[j]?) ∧ Led.Ok L := by
  obtain ⟨F, ⟨vs, h1, h2, h3, _⟩, _⟩ := h
  obtain ⟨ao, cap, rfl, hc⟩ := psts_cells h2
  exact ⟨ao, cap, (cell_of_row _ _ 0 _ _ _ h1).trans rfl, hc, h3⟩
theorem byte_test {a b : ByteArray} : (a.toList == b.toList) = decide (a = b) := by
  by_cases h : a = b
  · subst h; simp
  · rw [bytes_neq a b h, decide_eq_false h]
set_option maxHeartbeats 2000000 in
set_option maxRecDepth 100000 in
theorem refBalance_on {m : Nat} {L : List Pst} {w0 w : World} (h : Has (RefT m L) w0 w) (a : ByteArray) (n : Int) (hn : Led.bal L a = n) :
    Calls Tryz.prog 14 #[.pointer (some ⟨m, 0, none⟩), .string a] w fun e w' => e = .returned (.int .i64 n) ∧ w' = w := by
  obtain ⟨ao, cap, x0, hcq, hok⟩ := RefT.cells h
  have HCQ := Lib.hid hcq
  have OK := Lib.hid hok
  have hl : L.length ≤ 100000 := hok.2.1
  obtain ⟨l, el⟩ : ∃ l, L.length = l := ⟨_, rfl⟩
  rw [el] at x0 hl
  have EL := Lib.hid el
  have HN := Lib.hid hn
  clear h hcq hok el hn
  go_enter Tryz.func14, Tryz.ntmps14
  go_wp2_with fail
  go_loop [5, 6] (fun s i => ∃ j : Nat, j ≤ l ∧ i = .int .i64 j ∧ s = .int .i64 (Led.bal (L.take j) a)) (fun _ i => l - (intOf i).toNat)
  case atStart => exact ⟨0, Nat.zero_le _, rfl, rfl⟩
  case round =>
    obtain ⟨j, hj, rfl, rfl⟩ := hrel
    by_cases hjl : j < l
    · obtain ⟨q, hq⟩ : ∃ q, L[j]? = some q := ⟨L[j]'(by rw [EL.out]; exact hjl), List.getElem?_eq_getElem _⟩
      have htk : L.take (j + 1) = L.take j ++ [q] := by rw [List.take_add_one, hq]; rfl
      have hnext : Led.bal (L.take (j + 1)) a = Led.bal (L.take j) a + Led.turn q a := by rw [htk, Led.bal_snoc]
      have hb1 := Led.bal_le (L := L.take j) (fun p hp => OK.out.1 p (List.mem_of_mem_take hp)) a
      have hb2 := Led.right_amt (OK.out.1 q (List.mem_of_getElem? hq))
      have hb3 : (L.take j).length ≤ 100000 := by rw [List.length_take]; omega
      obtain ⟨g4, rfl, cq⟩ := HCQ.out j q hq
      obtain ⟨s, hs⟩ : ∃ s, Led.bal (L.take j) a = s := ⟨_, rfl⟩
      rw [hs] at hnext hb1 ⊢
      obtain ⟨qk, qs, qd, qn⟩ := q
      have c1 : w.cell? ⟨g4, j * 4 + 1, none⟩ = some (.string qs) := (cq 1 (by omega)).trans rfl
      have c2 : w.cell? ⟨g4, j * 4 + 2, none⟩ = some (.string qd) := (cq 2 (by omega)).trans rfl
      have c3 : w.cell? ⟨g4, j * 4 + 3, none⟩ = some (.int .i64 qn) := (cq 3 (by omega)).trans rfl
      simp only at hb2
      have b1 : -100000000000000 ≤ s := by omega
      have b2 : s ≤ 100000000000000 := by omega
      have b3 : 1 ≤ qn := hb2.1
      have b4 : qn ≤ 1000000000 := hb2.2
      have hturn : Led.turn ⟨qk, qs, qd, qn⟩ a = (if qd = a then qn else 0) - (if qs = a then qn else 0) := rfl
      rw [hturn] at hnext
      have HNX := Lib.hid hnext
      clear htk hb1 hb2 hb3 cq hs hturn hnext hq
      by_cases e1 : qd = a
      · have d1 : (qd.toList == a.toList) = true := by rw [byte_test, decide_eq_true e1]
        by_cases e2 : qs = a
        · have d2 : (qs.toList == a.toList) = true := by rw [byte_test, decide_eq_true e2]
          have hn : Led.bal (L.take (j + 1)) a = s + qn - qn := by rw [HNX.out, if_pos e1, if_pos e2]; omega
          have HN := Lib.hid hn
          clear hn e1 e2
          go_wp2_with fail
          refine ⟨⟨j + 1, by omega, by go_num, by rw [HN.out]; try (congr 1; omega)⟩, by simp [intOf]; omega⟩
        · have d2 : (qs.toList == a.toList) = false := by rw [byte_test, decide_eq_false e2]
          have hn : Led.bal (L.take (j + 1)) a = s + qn := by rw [HNX.out, if_pos e1, if_neg e2]; omega
          have HN := Lib.hid hn
          clear hn e1 e2
          go_wp2_with fail
          refine ⟨⟨j + 1, by omega, by go_num, by rw [HN.out]; try (congr 1; omega)⟩, by simp [intOf]; omega⟩
      · have d1 : (qd.toList == a.toList) = false := by rw [byte_test, decide_eq_false e1]
        by_cases e2 : qs = a
        · have d2 : (qs.toList == a.toList) = true := by rw [byte_test, decide_eq_true e2]
          have hn : Led.bal (L.take (j + 1)) a = s - qn := by rw [HNX.out, if_neg e1, if_pos e2]; omega
          have HN := Lib.hid hn
          clear hn e1 e2
          go_wp2_with fail
          refine ⟨⟨j + 1, by omega, by go_num, by rw [HN.out]; try (congr 1; omega)⟩, by simp [intOf]; omega⟩
        · have d2 : (qs.toList == a.toList) = false := by rw [byte_test, decide_eq_false e2]
          have hn : Led.bal (L.take (j + 1)) a = s := by rw [HNX.out, if_neg e1, if_neg e2]; omega
          have HN := Lib.hid hn
          clear hn e1 e2
          go_wp2_with fail
          refine ⟨⟨j + 1, by omega, by go_num, by rw [HN.out]; try (congr 1; omega)⟩, by simp [intOf]; omega⟩
    · obtain rfl : j = l := by omega
      rw [show L.take j = L by rw [← EL.out]; exact List.take_length, HN.out]
      go_wp2_with fail
      go_ret
      exact ⟨rfl, rfl⟩
set_option maxHeartbeats 2000000 in
set_option maxRecDepth 100000 in
theorem refPaid_on {m : Nat} {L : List Pst} {w0 w : World} (h : Has (RefT m L) w0 w) (a : ByteArray) (b : Bool) (hb : (Led.find L a).isSome = b) :
    Calls Tryz.prog 16 #[.pointer (some ⟨m, 0, none⟩), .string a] w fun e w' => e = .returned (.bool b) ∧ w' = w := by
  obtain ⟨ao, cap, x0, hcq, hok⟩ := RefT.cells h
  have HCQ := Lib.hid hcq
  have hl : L.length ≤ 100000 := hok.2.1
  obtain ⟨l, el⟩ : ∃ l, L.length = l := ⟨_, rfl⟩
  rw [el] at x0 hl
  have EL := Lib.hid el
  have HB := Lib.hid hb
  clear h hcq hok el hb
  go_enter Tryz.func16, Tryz.ntmps16
  go_wp2_with fail
  go_loop [5] (fun i => ∃ j : Nat, j ≤ l ∧ i = .int .i64 j ∧ ∀ (k : Nat) (q : Pst), k < j → L[k]? = some q → ¬ q.key = a) (fun i => l - (intOf i).toNat)
  case atStart => exact ⟨0, Nat.zero_le _, rfl, fun k q hk => by omega⟩
  case round =>
    obtain ⟨j, hj, rfl, hall⟩ := hrel
    have ALL := Lib.hid hall
    clear hall
    by_cases hjl : j < l
    · obtain ⟨q, hq⟩ : ∃ q, L[j]? = some q := ⟨L[j]'(by rw [EL.out]; exact hjl), List.getElem?_eq_getElem _⟩
      obtain ⟨g4, rfl, cq⟩ := HCQ.out j q hq
      obtain ⟨qk, qs, qd, qn⟩ := q
      have c1 : w.cell? ⟨g4, j * 4, none⟩ = some (.string qk) := (cq 0 (by omega)).trans rfl
      have HQ := Lib.hid hq
      clear cq hq
      by_cases e1 : qk = a
      · have d1 : (qk.toList == a.toList) = true := by rw [byte_test, decide_eq_true e1]
        have hbt : b = true := by
          rw [← HB.out, Led.find, List.findIdx?_isSome, List.any_eq_true]
          exact ⟨_, List.mem_of_getElem? HQ.out, by simpa using e1⟩
        subst hbt
        clear e1
        go_wp2_with fail
        go_ret
        exact ⟨rfl, rfl⟩
      · have d1 : (qk.toList == a.toList) = false := by rw [byte_test, decide_eq_false e1]
        have E1 := Lib.hid e1
        clear e1
        go_wp2_with fail
        refine ⟨⟨j + 1, by omega, by go_num, fun k q hk hq => ?_⟩, by simp [intOf]; omega⟩
        by_cases e : k = j
        · subst e; rw [HQ.out] at hq; injection hq with hq; subst hq; exact E1.out
        · exact ALL.out k q (by omega) hq
    · obtain rfl : j = l := by omega
      have hbf : b = false := by
        rw [← HB.out, Led.find, List.findIdx?_isSome]
        rw [Bool.eq_false_iff]
        intro h
        obtain ⟨q, hq, hk⟩ := List.any_eq_true.1 h
        obtain ⟨k, hk2⟩ := List.mem_iff_getElem?.1 hq
        have := (List.getElem?_eq_some_iff.1 hk2).1
        exact ALL.out k q (by rw [EL.out] at this; exact this) hk2 (by simpa using hk)
      subst hbf
      go_wp2_with fail
      go_ret
      exact ⟨rfl, rfl⟩
end Go.Proofs.YtfligfompdcddaaGreatDoor
