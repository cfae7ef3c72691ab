/- The plain law of LedgerConserves: balances that no posting makes negative, and whose sum is 0. -/
import Derived.Test.YtfligfompdcddaaGreatDoorLedAccts
namespace Go.Proofs.YtfligfompdcddaaGreatDoor
open Go.RowKit Go.Sort Go.Maps
set_option linter.unusedVariables false
namespace Led
/-- no account but a source is negative -/
def Fine (L : List Pst) : Prop := ∀ a, mint a = false → 0 ≤ bal L a
theorem fine_nil : Fine [] := fun a _ => by simp [bal]
theorem fine_post {L : List Pst} (h : Fine L) (hok : ∀ p ∈ L, right p = true) (q : Pst) : Fine (post L q).2 := by
  unfold post
  split
  · exact h
  · rename_i hr
    have hr : right q = true := by simpa using hr
    split
    · exact h
    · split
      · exact h
      · split
        · exact h
        · rename_i hf
          intro a ha
          show 0 ≤ bal (L ++ [q]) a
          rw [bal_snoc]
          have h1 := h a ha
          have h2 := right_amt hr
          unfold turn
          by_cases e : q.src = a
          · subst e
            have h3 : q.amt ≤ bal L q.src := by
              rcases Int.lt_or_le (bal L q.src) q.amt with g | g
              · exact absurd ⟨ha, g⟩ hf
              · exact g
            rw [if_pos rfl]
            split <;> omega
          · rw [if_neg e]
            split <;> omega
/-- the balance of an account by its bytes -/
def balU (L : List Pst) (x : List UInt8) : Int := bal L ⟨x.toArray⟩
theorem sum_zeros {α : Type} {f : α → Int} : ∀ {l : List α}, (∀ x ∈ l, f x = 0) → (l.map f).sum = 0
  | [], _ => rfl
  | x :: l, h => by rw [List.map_cons, List.sum_cons, h x (by simp), sum_zeros (fun y hy => h y (by simp [hy]))]; rfl
theorem sum_one {a : ByteArray} (m : Int) : ∀ {ns : List (List UInt8)}, ns.Nodup → a.data.toList ∈ ns → (ns.map fun x => if a = ⟨x.toArray⟩ then m else 0).sum = m
  | [], _, h => by cases h
  | x :: ns, hn, h => by
    rw [List.map_cons, List.sum_cons]
    have hn' := List.nodup_cons.1 hn
    by_cases e : a.data.toList = x
    · subst e
      have e1 : a = ⟨a.data.toList.toArray⟩ := by cases a; simp
      rw [if_pos e1]
      have e2 : (ns.map fun x => if a = ⟨x.toArray⟩ then m else 0).sum = 0 := by
        have : ∀ x ∈ ns, (if a = ⟨x.toArray⟩ then m else 0) = 0 := by
          intro y hy
          rw [if_neg]
          intro h2
          apply hn'.1
          rw [h2]
          simpa using hy
        exact sum_zeros this
      omega
    · have h1 : a.data.toList ∈ ns := (List.mem_cons.1 h).resolve_left e
      rw [if_neg (by intro h2; apply e; rw [h2]), sum_one m hn'.2 h1]
      omega
theorem sum_sub {α : Type} (f g : α → Int) : ∀ l : List α, (l.map fun x => f x - g x).sum = (l.map f).sum - (l.map g).sum
  | [] => rfl
  | x :: l => by simp only [List.map_cons, List.sum_cons, sum_sub f g l]; omega
theorem sum_add {α : Type} (f g : α → Int) : ∀ l : List α, (l.map fun x => f x + g x).sum = (l.map f).sum + (l.map g).sum
  | [] => rfl
  | x :: l => by simp only [List.map_cons, List.sum_cons, sum_add f g l]; omega
theorem bal_cons (q : Pst) (L : List Pst) (a : ByteArray) : bal (q :: L) a = turn q a + bal L a := by simp [bal]
theorem named_cons (q : Pst) (L : List Pst) : named (q :: L) = q.src.data.toList :: q.dst.data.toList :: named L := rfl
theorem sum_zero {ns : List (List UInt8)} (hn : ns.Nodup) : ∀ L : List Pst, (∀ x ∈ named L, x ∈ ns) → (ns.map (balU L)).sum = 0
  | [], _ => by
    have : ∀ x ∈ ns, balU [] x = 0 := fun x _ => by simp [balU, bal]
    exact sum_zeros this
  | q :: L, h => by
    rw [named_cons] at h
    have e : ∀ x ∈ ns, balU (q :: L) x = ((if q.dst = ⟨x.toArray⟩ then q.amt else 0) - (if q.src = ⟨x.toArray⟩ then q.amt else 0)) + balU L x := by
      intro x _
      unfold balU
      rw [bal_cons]; rfl
    rw [List.map_congr_left e, sum_add, sum_sub, sum_one q.amt hn (h _ (by simp)), sum_one q.amt hn (h _ (by simp)), sum_zero hn L (fun x hx => h x (by simp [hx]))]
    omega
theorem bals_le (L : List Pst) (hr : ∀ p ∈ L, right p = true) (b : Int) (hb : 1000000000 * (L.length : Int) ≤ b) : ∀ ms : List (List UInt8), -b * (ms.length : Int) ≤ (ms.map (balU L)).sum ∧ (ms.map (balU L)).sum ≤ b * (ms.length : Int)
  | [] => by simp
  | x :: ms => by
    have h1 := bals_le L hr b hb ms
    have h2 := bal_le hr ⟨x.toArray⟩
    have h3 : (((x :: ms).length : Nat) : Int) = (ms.length : Int) + 1 := by simp
    rw [List.map_cons, List.sum_cons, h3, Int.mul_add, Int.mul_add]
    unfold balU at *
    constructor <;> omega
theorem lt_pairs {ns : List (List UInt8)} (h : ns.Pairwise (· < ·)) {k : Nat} {x y : List UInt8} (hx : ns[k]? = some x) (hy : ns[k + 1]? = some y) : x < y := by
  obtain ⟨i1, e1⟩ := List.getElem?_eq_some_iff.1 hx
  obtain ⟨i2, e2⟩ := List.getElem?_eq_some_iff.1 hy
  have := (List.pairwise_iff_getElem.1 h) k (k + 1) i1 i2 (by omega)
  rw [e1, e2] at this
  exact this
theorem nodup_of_lt {ns : List (List UInt8)} (h : ns.Pairwise (· < ·)) : ns.Nodup :=
  h.imp fun {a b} hab e => by subst e; exact List.lt_irrefl a hab
end Led
end Go.Proofs.YtfligfompdcddaaGreatDoor
