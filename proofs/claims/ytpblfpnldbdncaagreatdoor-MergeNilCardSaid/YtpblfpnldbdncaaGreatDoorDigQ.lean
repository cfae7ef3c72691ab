/- The plain law of long division, and trim again: the slice that it gives, written out. -/
import Derived.Test.YtpblfpnldbdncaaGreatDoorDigE
import Derived.Laws.AppendOwnNone
namespace Go.Proofs.YtpblfpnldbdncaaGreatDoor
open Go.RowKit Go.Sort
set_option linter.unusedVariables false
namespace Dg
structure QuoAt (a b n k : Nat) (o : List Nat) : Prop where
  len : o.length = n
  fit : Fit o
  zero : ∀ t, t < k → o[t]? = some 0
  val : dval (o.drop k) = a / 16777216 ^ k / b
theorem QuoAt.start {a b n : Nat} (h : a < 16777216 ^ n) : QuoAt a b n n (List.replicate n 0) := by
  refine ⟨by simp, ?_, fun t ht => by simp [ht], ?_⟩
  · intro d hd
    rw [List.eq_of_mem_replicate hd]
    omega
  · rw [List.drop_of_length_le (by simp), Nat.div_eq_of_lt h, Nat.zero_div]
    rfl
theorem quo_parts {a b k x : Nat} (hb : 0 < b) (hx : x = a / 16777216 ^ k % 16777216) :
    a / 16777216 ^ k / b = (x + 16777216 * (a / 16777216 ^ (k + 1) % b)) / b + 16777216 * (a / 16777216 ^ (k + 1) / b) ∧
    a / 16777216 ^ k % b = (x + 16777216 * (a / 16777216 ^ (k + 1) % b)) % b ∧ (x + 16777216 * (a / 16777216 ^ (k + 1) % b)) / b < 16777216 := by
  have e1 : a / 16777216 ^ (k + 1) = a / 16777216 ^ k / 16777216 := by rw [Nat.div_div_eq_div_mul, Nat.pow_succ]
  rw [e1]
  generalize a / 16777216 ^ k = A at *
  obtain ⟨q, hq⟩ : ∃ q, A / 16777216 / b = q := ⟨_, rfl⟩
  obtain ⟨r, hr⟩ : ∃ r, A / 16777216 % b = r := ⟨_, rfl⟩
  have e2 := Nat.div_add_mod (A / 16777216) b
  rw [hq, hr] at e2
  have e3 : A = (x + 16777216 * r) + b * (16777216 * q) := by
    have e4 : b * (16777216 * q) = 16777216 * (b * q) := Nat.mul_left_comm _ _ _
    rw [e4]
    omega
  have hrb : r < b := by rw [← hr]; exact Nat.mod_lt _ hb
  rw [hq, hr]
  refine ⟨?_, ?_, ?_⟩
  · conv => lhs; rw [e3]
    rw [Nat.add_mul_div_left _ _ hb]
  · conv => lhs; rw [e3]
    rw [Nat.add_mul_mod_self_left]
  · rw [Nat.div_lt_iff_lt_mul hb]
    omega
theorem drop_set_cons {o : List Nat} {k d : Nat} (h : k < o.length) : (o.set k d).drop k = d :: o.drop (k + 1) := by
  rw [List.drop_eq_getElem_cons (by rw [List.length_set]; exact h), List.getElem_set_self, List.drop_set_of_lt (by omega)]
theorem QuoAt.step {a b n k x : Nat} {o : List Nat} (h : QuoAt a b n (k + 1) o) (hb : 0 < b) (hx : x = a / 16777216 ^ k % 16777216) :
    QuoAt a b n k (o.set k ((x + 16777216 * (a / 16777216 ^ (k + 1) % b)) / b)) := by
  obtain ⟨e1, e2, e3⟩ := quo_parts hb hx
  have hk : k < o.length := (List.getElem?_eq_some_iff.1 (h.zero k (Nat.lt_succ_self k))).1
  refine ⟨by rw [List.length_set, h.len], fit_set h.fit e3 _, ?_, ?_⟩
  · intro t ht
    rw [List.getElem?_set_ne (by omega)]
    exact h.zero t (by omega)
  · rw [drop_set_cons hk, dval, h.val, e1]
theorem QuoAt.skip {a b n k x : Nat} {o : List Nat} (h : QuoAt a b n (k + 1) o) (hb : 0 < b) (hx : x = a / 16777216 ^ k % 16777216) (hlt : x + 16777216 * (a / 16777216 ^ (k + 1) % b) < b) :
    QuoAt a b n k o := by
  have h1 := h.step hb hx
  have h2 := h.zero k (Nat.lt_succ_self k)
  rw [Nat.div_eq_of_lt hlt] at h1
  have e : o.set k 0 = o := by
    rw [List.getElem?_eq_some_iff] at h2
    obtain ⟨h3, h4⟩ := h2
    conv => lhs; rw [← h4]
    exact List.set_getElem_self h3
  rw [e] at h1
  exact h1
theorem QuoAt.whole {a b n : Nat} {o : List Nat} (h : QuoAt a b n 0 o) : dval o = a / b := by
  have := h.val
  rw [List.drop_zero, Nat.pow_zero, Nat.div_one] at this
  exact this
theorem trim_cons {x r : Nat} (hx : x < 16777216) : trimL (x :: dg r) = dg (x + 16777216 * r) := by
  rw [trim_eq, dval, dval_dg]
  intro d hd
  rcases List.mem_cons.1 hd with rfl | hd
  · exact hx
  · exact fit_dg r d hd
end Dg
set_option maxHeartbeats 2000000 in
set_option maxRecDepth 100000 in
theorem trim_at {w : World} {ao : Option Addr} {l : List Nat} {n cap : Nat} (hn : l.length = n) (hnc : n ≤ cap) (hc : ∀ (j d : Nat), l[j]? = some d → ∃ g, ao = some ⟨g, 0, none⟩ ∧ w.cell? ⟨g, j, none⟩ = some (.int .i64 (d : Int))) (hl : n ≤ 1000000) :
    Calls Tryz.prog 125 #[.slice ao n cap] w fun e w' => e = .returned (.slice ao (Dg.trimL l).length cap) ∧ w' = w := by
  have HN := Lib.hid hn
  have HC := Lib.hid hc
  clear hc hn
  go_enter Tryz.func125, Tryz.ntmps125
  go_wp2_with fail
  go_loop [0] (fun v => ∃ k : Nat, k ≤ n ∧ v = .slice ao k cap ∧ Dg.trimL (l.take k) = Dg.trimL l) (fun v => match v with | .slice _ k _ => k | _ => 0)
  case atStart => exact ⟨n, Nat.le_refl _, rfl, by rw [← HN.out, List.take_length]⟩
  case round =>
    obtain ⟨k, hk, rfl, ht⟩ := hrel
    have HT := Lib.hid ht
    clear ht
    rcases Nat.eq_zero_or_pos k with h0 | h0
    · subst h0
      go_wp2_with fail
      go_ret
      refine ⟨?_, rfl⟩
      rw [← HT.out]
      rfl
    · obtain ⟨i, rfl⟩ : ∃ i, k = i + 1 := ⟨k - 1, by omega⟩
      obtain ⟨d, hd⟩ : ∃ d, l[i]? = some d := ⟨l[i]'(by rw [HN.out]; omega), List.getElem?_eq_getElem _⟩
      obtain ⟨g, rfl, cx⟩ := HC.out i d hd
      have htk : l.take (i + 1) = l.take i ++ [d] := by rw [List.take_add_one, hd]; rfl
      have q1 : ((i : Int) + 1) - 1 = (i : Int) := by omega
      have q2 : (i : Int) ≤ (cap : Int) := by omega
      have q3 : (0 : Int) ≤ (i : Int) := by omega
      by_cases hz : d = 0
      · subst hz
        have TT := Lib.hid (show Dg.trimL (l.take i) = Dg.trimL l by rw [← HT.out, htk, Dg.trim_snoc_zero])
        have cx2 : w.cell? ⟨g, i, none⟩ = some (.int .i64 0) := cx
        clear htk hd cx
        go_wp2_with fail
        exact ⟨⟨i, by omega, rfl, TT.out⟩, Nat.lt_succ_self i⟩
      · have TT := Lib.hid (show (Dg.trimL l).length = i + 1 by rw [← HT.out, htk, Dg.trim_snoc _ _ hz, List.length_append, List.length_take, HN.out]; show min i n + 1 = _; omega)
        have z1 : ((d : Int) == 0) = false := by simp; omega
        have z2 : (d == 0) = false := by simp; omega
        clear htk hd
        go_wp2_with fail
        go_ret
        refine ⟨?_, rfl⟩
        rw [TT.out]
        rfl
theorem trimL_sub (l : List Nat) (j d : Nat) (h : (Dg.trimL l)[j]? = some d) : l[j]? = some d := by
  induction l generalizing j with
  | nil => simp [Dg.trimL] at h
  | cons x l ih =>
    unfold Dg.trimL at h
    split at h
    · simp at h
    · cases j with
      | zero => simpa using h
      | succ j => exact ih j (by simpa using h)
end Go.Proofs.YtpblfpnldbdncaaGreatDoor
