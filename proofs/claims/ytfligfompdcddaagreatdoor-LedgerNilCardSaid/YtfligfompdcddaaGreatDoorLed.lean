/- The ledger: postings, names, balances (plain), and the contracts of isName and isRight. -/
import Derived.Test.YtfligfompdcddaaGreatDoorLedMap
import Derived.Test.YtfligfompdcddaaGreatDoorShelf
namespace Go.Proofs.YtfligfompdcddaaGreatDoor
open Go.RowKit Go.Sort Go.Maps
set_option linter.unusedVariables false
/-- a posting -/
structure Pst where
  key : ByteArray
  src : ByteArray
  dst : ByteArray
  amt : Int
def Pst.arr (p : Pst) : Array Value := #[.string p.key, .string p.src, .string p.dst, .int .i64 p.amt]
theorem Pst.ext' {p q : Pst} (h1 : p.key = q.key) (h2 : p.src = q.src) (h3 : p.dst = q.dst) (h4 : p.amt = q.amt) : p = q := by
  cases p; cases q; simp_all
instance : DecidableEq Pst := fun p q =>
  if h : p.key = q.key ∧ p.src = q.src ∧ p.dst = q.dst ∧ p.amt = q.amt then isTrue (Pst.ext' h.1 h.2.1 h.2.2.1 h.2.2.2)
  else isFalse (fun e => h ⟨by rw [e], by rw [e], by rw [e], by rw [e]⟩)
namespace Led
def name (s : ByteArray) : Bool := !(s.size == 0) && decide (s.size ≤ 100) && !(decide (0 ≤ Lib.indexByte s.data.toList 10))
def right (p : Pst) : Bool := name p.key && name p.src && name p.dst && !(decide (p.src = p.dst)) && decide (1 ≤ p.amt) && decide (p.amt ≤ 1000000000)
def mint (s : ByteArray) : Bool := Lib.hasPrefix s.data.toList [109, 105, 110, 116]
/-- what a posting does to the balance of an account -/
def turn (p : Pst) (a : ByteArray) : Int := (if p.dst = a then p.amt else 0) - (if p.src = a then p.amt else 0)
def bal (L : List Pst) (a : ByteArray) : Int := (L.map fun p => turn p a).sum
/-- the number of the posting with a key -/
def find (L : List Pst) (k : ByteArray) : Option Nat := L.findIdx? fun p => decide (p.key = k)
def post (L : List Pst) (p : Pst) : Int × List Pst :=
  if right p = false then (1, L) else
  match find L p.key with
  | some i => (if L[i]? = some p then 0 else 33, L)
  | none => if 100000 ≤ L.length then (2, L) else if mint p.src = false ∧ bal L p.src < p.amt then (52, L) else (0, L ++ [p])
theorem bal_snoc (L : List Pst) (p : Pst) (a : ByteArray) : bal (L ++ [p]) a = bal L a + turn p a := by simp [bal]
/-- every posting is right, no key is there twice -/
def Ok (L : List Pst) : Prop := (∀ p ∈ L, right p = true) ∧ L.length ≤ 100000 ∧ L.Pairwise fun p q => p.key ≠ q.key
theorem right_amt {p : Pst} (h : right p = true) : 1 ≤ p.amt ∧ p.amt ≤ 1000000000 := by
  simp only [right, Bool.and_eq_true, decide_eq_true_eq] at h
  exact ⟨h.1.2, h.2⟩
theorem turn_le {p : Pst} (h : right p = true) (a : ByteArray) : -1000000000 ≤ turn p a ∧ turn p a ≤ 1000000000 := by
  obtain ⟨h1, h2⟩ := right_amt h
  unfold turn
  split <;> split <;> omega
theorem bal_le {L : List Pst} (h : ∀ p ∈ L, right p = true) (a : ByteArray) : -1000000000 * (L.length : Int) ≤ bal L a ∧ bal L a ≤ 1000000000 * (L.length : Int) := by
  induction L with
  | nil => simp [bal]
  | cons p L ih =>
    have h1 := turn_le (h p (by simp)) a
    have h2 := ih (fun q hq => h q (by simp [hq]))
    simp only [bal, List.map_cons, List.sum_cons, List.length_cons] at h2 ⊢
    omega
theorem name_size {s : ByteArray} (h : name s = true) : s.size ≤ 100 := by
  simp only [name, Bool.and_eq_true, decide_eq_true_eq] at h
  exact h.1.2
theorem right_sizes {p : Pst} (h : right p = true) : p.key.size ≤ 100 ∧ p.src.size ≤ 100 ∧ p.dst.size ≤ 100 := by
  simp only [right, Bool.and_eq_true] at h
  exact ⟨name_size h.1.1.1.1.1, name_size h.1.1.1.1.2, name_size h.1.1.1.2⟩
end Led
theorem bytes_neq (x y : ByteArray) (h : x ≠ y) : (x.toList == y.toList) = false := by
  rw [ByteArray.toList_eq, ByteArray.toList_eq]
  refine beq_eq_false_iff_ne.2 (fun e => h ?_)
  cases x; cases y
  simp at e
  rw [ByteArray.mk.injEq]
  exact e
theorem bytes_eq (x : ByteArray) : (x.toList == x.toList) = true := by simp
theorem empty_of_size {s : ByteArray} (h : s.size = 0) : s = ⟨#[]⟩ := by
  cases s with | mk a => simp only [ByteArray.size] at h; rw [Array.eq_empty_of_size_eq_zero h]
set_option maxHeartbeats 1000000 in
theorem isName_any (s : ByteArray) (w : World) (b : Bool) (hb : Led.name s = b) : Calls Tryz.prog 48 #[.string s] w fun e w' => e = .returned (.bool b) ∧ w' = w := by
  by_cases h0 : s.size = 0
  · obtain rfl := empty_of_size h0
    obtain rfl : b = false := by rw [← hb]; rfl
    clear h0 hb
    go_enter Tryz.func48, Tryz.ntmps48
    go_wp2_with fail
    go_ret
    exact ⟨rfl, rfl⟩
  · have hne : s.toList.isEmpty = false := by rw [ByteArray.toList_eq, List.isEmpty_eq_false_iff]; intro e; exact h0 (by have h := congrArg List.length e; rw [Array.length_toList] at h; exact h)
    have hb0 : (s.size == 0) = false := by simpa using h0
    by_cases h1 : s.size ≤ 100
    · have d1 : decide ((s.size : Int) ≤ 100) = true := by simp; omega
      have CC := Lib.hid (Tryz.strings_Contains_one s 10 w)
      obtain ⟨c, ec⟩ : ∃ c, decide (0 ≤ Lib.indexByte s.data.toList 10) = c := ⟨_, rfl⟩
      rw [ec] at CC
      have EB : Hid (b = !c) := by show _ = _; rw [← hb, Led.name, hb0, ec, decide_eq_true h1]; simp
      clear hb ec hb0
      go_enter Tryz.func48, Tryz.ntmps48
      go_wp2_with fail
      refine CC.out.mono ?_
      rintro e w' ⟨rfl, rfl⟩
      go_wp2_with fail
      go_ret
      exact ⟨by rw [EB.out]; rfl, rfl⟩
    · have d1 : decide ((s.size : Int) ≤ 100) = false := by simp; omega
      obtain rfl : b = false := by rw [← hb, Led.name, decide_eq_false h1]; simp
      clear hb hb0 h0 h1
      go_enter Tryz.func48, Tryz.ntmps48
      go_wp2_with fail
      go_ret
      exact ⟨rfl, rfl⟩
set_option maxHeartbeats 2000000 in
set_option maxRecDepth 100000 in
theorem isRight_any (p : Pst) (w : World) (b : Bool) (hb : Led.right p = b) : Calls Tryz.prog 29 #[.agg p.arr] w fun e w' => e = .returned (.bool b) ∧ Below w.heap.size w w' := by
  obtain ⟨k, s, d, n⟩ := p
  show Calls Tryz.prog 29 #[.agg #[.string k, .string s, .string d, .int .i64 n]] w _
  have ba : Below w.heap.size w (w.alloc (.cells #[.string k, .string s, .string d, .int .i64 n] 24)) := (Below.refl _ _).alloc (Nat.le_refl _) _
  have hq := heap_alloc_new w (.cells #[.string k, .string s, .string d, .int .i64 n] 24)
  have c0 := (cell_of_row _ _ 0 _ _ _ hq).trans rfl
  have c1 := (cell_of_row _ _ 1 _ _ _ hq).trans rfl
  have c2 := (cell_of_row _ _ 2 _ _ _ hq).trans rfl
  have c3 := (cell_of_row _ _ 3 _ _ _ hq).trans rfl
  obtain ⟨b1, e1⟩ : ∃ b, Led.name k = b := ⟨_, rfl⟩
  obtain ⟨b2, e2⟩ : ∃ b, Led.name s = b := ⟨_, rfl⟩
  obtain ⟨b3, e3⟩ : ∃ b, Led.name d = b := ⟨_, rfl⟩
  have C1 := Lib.hid (fun W => isName_any k W b1 e1)
  have C2 := Lib.hid (fun W => isName_any s W b2 e2)
  have C3 := Lib.hid (fun W => isName_any d W b3 e3)
  have BA := Lib.hid ba
  have EB : Hid (b = (b1 && b2 && b3 && !(decide (s = d)) && decide (1 ≤ n) && decide (n ≤ 1000000000))) := by
    show _ = _
    rw [← hb, Led.right, e1, e2, e3]
  clear hb e1 e2 e3 hq ba
  go_enter Tryz.func29, Tryz.ntmps29
  go_wp2_with fail
  generalize w.alloc (.cells #[.string k, .string s, .string d, .int .i64 n] 24) = W at *
  refine (C1.out _).mono ?_
  rintro e w' ⟨rfl, rfl⟩
  cases b1 with
  | false =>
    go_wp2_with fail
    go_ret
    exact ⟨by rw [EB.out]; rfl, BA.out⟩
  | true =>
    go_wp2_with fail
    refine (C2.out _).mono ?_
    rintro e w' ⟨rfl, rfl⟩
    cases b2 with
    | false =>
      go_wp2_with fail
      go_ret
      exact ⟨by rw [EB.out]; rfl, BA.out⟩
    | true =>
      go_wp2_with fail
      refine (C3.out _).mono ?_
      rintro e w' ⟨rfl, rfl⟩
      cases b3 with
      | false =>
        go_wp2_with fail
        go_ret
        exact ⟨by rw [EB.out]; rfl, BA.out⟩
      | true =>
        by_cases hsd : s = d
        · subst hsd
          have q := bytes_eq s
          go_wp2_with fail
          go_ret
          exact ⟨by rw [EB.out]; simp, BA.out⟩
        · have q := bytes_neq s d hsd
          by_cases h1 : 1 ≤ n
          · have d1 : decide (1 ≤ n) = true := by simp; omega
            by_cases h2 : n ≤ 1000000000
            · have d2 : decide (n ≤ 1000000000) = true := by simp; omega
              go_wp2_with fail
              go_ret
              exact ⟨by rw [EB.out]; simp [hsd, h1, h2], BA.out⟩
            · have d2 : decide (n ≤ 1000000000) = false := by simp; omega
              go_wp2_with fail
              go_ret
              exact ⟨by rw [EB.out, d2]; simp, BA.out⟩
          · have d1 : decide (1 ≤ n) = false := by simp; omega
            go_wp2_with fail
            go_ret
            exact ⟨by rw [EB.out, d1]; simp, BA.out⟩
end Go.Proofs.YtfligfompdcddaaGreatDoor
