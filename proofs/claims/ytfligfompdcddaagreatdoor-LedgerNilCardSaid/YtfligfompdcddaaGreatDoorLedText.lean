/- Plain: names in order, the text of a ledger, postings that are made again. -/
import Derived.Test.YtfligfompdcddaaGreatDoorLedPlain
namespace Go.Proofs.YtfligfompdcddaaGreatDoor.Led
open Go.RowKit
set_option linter.unusedVariables false
theorem lt_irrefl' (x : List UInt8) : ¬ x < x := List.lt_irrefl x
theorem lt_trans' {x y z : List UInt8} (h : x < y) (k : y < z) : x < z := List.lt_trans h k
theorem lt_asymm' {x y : List UInt8} (h : x < y) : ¬ y < x := fun k => lt_irrefl' x (lt_trans' h k)
theorem lt_of_not {x y : List UInt8} (h : ¬ x < y) (hne : x ≠ y) : y < x := by
  by_cases k : y < x
  · exact k
  · exact absurd (List.le_antisymm (List.not_lt.1 k) (List.not_lt.1 h)) hne
/-- a string put into an ordered list, where it is not there -/
def ins : List (List UInt8) → List UInt8 → List (List UInt8)
  | [], s => [s]
  | x :: l, s => if x < s then x :: ins l s else if x = s then x :: l else s :: x :: l
theorem mem_ins {x s : List UInt8} : ∀ {l : List (List UInt8)}, x ∈ ins l s ↔ x = s ∨ x ∈ l
  | [] => by simp [ins]
  | y :: l => by
    unfold ins
    split
    · rw [List.mem_cons, mem_ins, List.mem_cons]; exact ⟨fun h => by rcases h with h | h | h <;> simp [h], fun h => by rcases h with h | h | h <;> simp [h]⟩
    · split
      · rename_i e
        rw [← e, List.mem_cons]
        exact ⟨fun h => .inr h, fun h => h.elim .inl id⟩
      · rw [List.mem_cons]
theorem ins_sorted {s : List UInt8} : ∀ {l : List (List UInt8)}, l.Pairwise (· < ·) → (ins l s).Pairwise (· < ·)
  | [], _ => by simp [ins]
  | y :: l, h => by
    have h2 := List.pairwise_cons.1 h
    unfold ins
    split
    · rename_i hlt
      refine List.pairwise_cons.2 ⟨fun x hx => ?_, ins_sorted h2.2⟩
      rcases mem_ins.1 hx with rfl | hx
      · exact hlt
      · exact h2.1 x hx
    · rename_i hlt
      split
      · exact h
      · rename_i hne
        have hsy := lt_of_not hlt hne
        refine List.pairwise_cons.2 ⟨fun x hx => ?_, h⟩
        rcases List.mem_cons.1 hx with rfl | hx
        · exact hsy
        · exact lt_trans' hsy (h2.1 x hx)
theorem ins_length (s : List UInt8) : ∀ l : List (List UInt8), (ins l s).length ≤ l.length + 1
  | [] => by simp [ins]
  | y :: l => by
    unfold ins
    split
    · have := ins_length s l; simp; omega
    · split
      · simp
      · simp
/-- .. by the place -/
theorem ins_at {s : List UInt8} : ∀ {l : List (List UInt8)} {k : Nat}, (∀ j x, j < k → l[j]? = some x → x < s) → k ≤ l.length → (∀ x, l[k]? = some x → ¬ x < s) → ins l s = if l[k]? = some s then l else l.take k ++ s :: l.drop k
  | [], k, _, hk, _ => by
    obtain rfl : k = 0 := by simpa using hk
    simp [ins]
  | y :: l, 0, _, _, h3 => by
    have := h3 y rfl
    unfold ins
    rw [if_neg this]
    simp
  | y :: l, k + 1, h1, hk, h3 => by
    have hy := h1 0 y (by omega) rfl
    unfold ins
    rw [if_pos hy, ins_at (k := k) (fun j x hj hx => h1 (j + 1) x (by omega) (by simpa using hx)) (by simpa using hk) (fun x hx => h3 x (by simpa using hx))]
    simp only [List.getElem?_cons_succ, List.take_succ_cons, List.drop_succ_cons]
    split
    · rfl
    · rfl
def names (L : List Pst) : List (List UInt8) := (named L).foldl ins []
theorem foldl_sorted : ∀ (xs l : List (List UInt8)), l.Pairwise (· < ·) → (xs.foldl ins l).Pairwise (· < ·)
  | [], l, h => h
  | x :: xs, l, h => foldl_sorted xs _ (ins_sorted h)
theorem mem_foldl {x : List UInt8} : ∀ (xs l : List (List UInt8)), x ∈ xs.foldl ins l ↔ x ∈ l ∨ x ∈ xs
  | [], l => by simp
  | y :: xs, l => by
    rw [List.foldl_cons, mem_foldl xs, mem_ins, List.mem_cons]
    exact ⟨fun h => by rcases h with (h | h) | h <;> simp [h], fun h => by rcases h with h | h | h <;> simp [h]⟩
theorem names_sorted (L : List Pst) : (names L).Pairwise (· < ·) := foldl_sorted _ _ List.Pairwise.nil
theorem mem_names {L : List Pst} {x : List UInt8} : x ∈ names L ↔ x ∈ named L := by
  unfold names; rw [mem_foldl]; simp
theorem names_snoc (L : List Pst) (q : Pst) : names (L ++ [q]) = ins (ins (names L) q.src.data.toList) q.dst.data.toList := by
  unfold names; rw [named_snoc]; simp
theorem sorted_ext : ∀ {l m : List (List UInt8)}, l.Pairwise (· < ·) → m.Pairwise (· < ·) → (∀ x, x ∈ l ↔ x ∈ m) → l = m
  | [], [], _, _, _ => rfl
  | [], y :: m, _, _, h => by have := (h y).2 (by simp); simp at this
  | x :: l, [], _, _, h => by have := (h x).1 (by simp); simp at this
  | x :: l, y :: m, hl, hm, h => by
    have hl2 := List.pairwise_cons.1 hl
    have hm2 := List.pairwise_cons.1 hm
    have exy : x = y := by
      rcases List.mem_cons.1 ((h x).1 (by simp)) with e | hx
      · exact e
      · rcases List.mem_cons.1 ((h y).2 (by simp)) with e | hy
        · exact e.symm
        · exact absurd (hl2.1 y hy) (lt_asymm' (hm2.1 x hx))
    subst exy
    rw [sorted_ext hl2.2 hm2.2 (fun z => ?_)]
    have hz := h z
    constructor
    · intro hzl
      rcases List.mem_cons.1 (hz.1 (by simp [hzl])) with e | h9
      · exact absurd (e ▸ hl2.1 z hzl) (lt_irrefl' _)
      · exact h9
    · intro hzm
      rcases List.mem_cons.1 (hz.2 (by simp [hzm])) with e | h9
      · exact absurd (e ▸ hm2.1 z hzm) (lt_irrefl' _)
      · exact h9
theorem names_of {L : List Pst} {ns : List (List UInt8)} (h : ns.Pairwise (· < ·)) (hm : ∀ x, x ∈ ns ↔ x ∈ named L) : ns = names L :=
  sorted_ext h (names_sorted L) (fun x => (hm x).trans mem_names.symm)
theorem foldl_length : ∀ (xs l : List (List UInt8)), (xs.foldl ins l).length ≤ l.length + xs.length
  | [], l => by simp
  | x :: xs, l => by
    have h1 := foldl_length xs (ins l x)
    have h2 := ins_length x l
    rw [List.foldl_cons, List.length_cons]; omega
theorem named_length : ∀ L : List Pst, (named L).length = 2 * L.length
  | [] => rfl
  | q :: L => by rw [named_cons, List.length_cons, List.length_cons, List.length_cons, named_length L]; omega
theorem names_length (L : List Pst) : (names L).length ≤ 2 * L.length := by
  have h := foldl_length (named L) []
  rw [named_length] at h
  unfold names
  simp only [List.length_nil] at h
  omega
/-- the line of an account -/
def line (L : List Pst) (x : List UInt8) : List UInt8 := Lib.itoa (bal L ⟨x.toArray⟩) ++ [32] ++ x ++ [10]
def encs (L : List Pst) (ns : List (List UInt8)) : List UInt8 := ns.flatMap (line L)
/-- the text of a ledger -/
def enc (L : List Pst) : List UInt8 := encs L (names L)
theorem encs_snoc (L : List Pst) (ns : List (List UInt8)) (x : List UInt8) : encs L (ns ++ [x]) = encs L ns ++ line L x := by simp [encs]
/-- a posting that is there -/
theorem find_mem {L : List Pst} (h : L.Pairwise fun p q => p.key ≠ q.key) {q : Pst} (hq : q ∈ L) : ∃ i, find L q.key = some i ∧ L[i]? = some q := by
  induction L with
  | nil => simp at hq
  | cons p L ih =>
    have h2 := List.pairwise_cons.1 h
    rcases List.mem_cons.1 hq with rfl | hq
    · exact ⟨0, by simp [find, List.findIdx?_cons], rfl⟩
    · obtain ⟨i, h3, h4⟩ := ih h2.2 hq
      refine ⟨i + 1, ?_, by simpa using h4⟩
      have hne := h2.1 q hq
      unfold find at h3 ⊢
      rw [List.findIdx?_cons, if_neg (by simpa using hne), h3]
      rfl
theorem post_mem {L : List Pst} (h : Ok L) {q : Pst} (hq : q ∈ L) : post L q = (0, L) := by
  obtain ⟨i, h1, h2⟩ := find_mem h.2.2 hq
  unfold post
  rw [if_neg (by rw [h.1 q hq]; simp), h1]
  simp only [h2, if_pos]
theorem run_mem {L : List Pst} (h : Ok L) : ∀ (ps : List Pst) (i : Nat), (∀ q ∈ ps, q ∈ L) → run L ps i = (i + ps.length, 0, L)
  | [], i, _ => by simp [run]
  | q :: ps, i, hp => by
    unfold run
    rw [post_mem h (hp q (by simp)), if_pos rfl, run_mem h ps (i + 1) (fun x hx => hp x (by simp [hx]))]
    simp only [List.length_cons, Prod.mk.injEq, and_true]
    omega
theorem all_mem {L : List Pst} (h : Ok L) (ps : List Pst) (hp : ∀ q ∈ ps, q ∈ L) : all L ps = (ps.length, 0, L) := by
  unfold all
  rw [run_mem h ps 0 hp]
  simp
/-- postings that were made one after the other -/
inductive Made : List Pst → Prop
  | nil : Made []
  | snoc {L : List Pst} {q : Pst} : Made L → post L q = (0, L ++ [q]) → Made (L ++ [q])
theorem post_cases (L : List Pst) (q : Pst) : (post L q).2 = L ∨ post L q = (0, L ++ [q]) := by
  unfold post
  split
  · exact .inl rfl
  · split
    · exact .inl rfl
    · split
      · exact .inl rfl
      · split
        · exact .inl rfl
        · exact .inr rfl
theorem Made.post {L : List Pst} (h : Made L) (q : Pst) : Made (Led.post L q).2 := by
  rcases post_cases L q with h1 | h1
  · rw [h1]; exact h
  · rw [h1]; exact .snoc h h1
theorem run_snoc (q : Pst) : ∀ (ps L : List Pst) (i : Nat), (run L ps i).2.1 = 0 → run L (ps ++ [q]) i = run (run L ps i).2.2 [q] (run L ps i).1
  | [], L, i, h => rfl
  | p :: ps, L, i, h => by
    unfold run at h
    rw [List.cons_append]
    by_cases hp : (post L p).1 = 0
    · rw [if_pos hp] at h
      have e1 : run L (p :: (ps ++ [q])) i = run (post L p).2 (ps ++ [q]) (i + 1) := by rw [run, if_pos hp]
      have e2 : run L (p :: ps) i = run (post L p).2 ps (i + 1) := by rw [run, if_pos hp]
      rw [e1, e2]
      exact run_snoc q ps _ _ h
    · rw [if_neg hp] at h
      exact absurd h hp
theorem run_made {L : List Pst} (h : Made L) : run [] L 0 = (L.length, 0, L) := by
  induction h with
  | nil => rfl
  | @snoc L q h1 h2 ih =>
    rw [run_snoc q L [] 0 (by rw [ih]), ih]
    simp only [run, h2, if_pos, List.length_append, List.length_singleton]
theorem all_made {L : List Pst} (h : Made L) : all [] L = (L.length, 0, L) := by
  unfold all; rw [run_made h]; simp
end Go.Proofs.YtfligfompdcddaaGreatDoor.Led
