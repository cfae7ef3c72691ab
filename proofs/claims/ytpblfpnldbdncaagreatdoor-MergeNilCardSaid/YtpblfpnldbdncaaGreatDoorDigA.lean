/- Contracts of the reference's numbers by digits: trim, cmp, times, minus. -/
import Derived.Test.YtpblfpnldbdncaaGreatDoorDig
import Derived.Test.YtpblfpnldbdncaaGreatDoorG07
import Derived.Laws.AppendOwn
namespace Go.Proofs.YtpblfpnldbdncaaGreatDoor
open Go.RowKit Go.Sort
set_option linter.unusedVariables false
def dvals (l : List Nat) : List Value := l.map fun (d : Nat) => .int .i64 (d : Int)
/-- the slice v reads as the digits l -/
def DigAt (w : World) (v : Value) (l : List Nat) : Prop :=
  ∃ ao cap, v = .slice ao l.length cap ∧ l.length ≤ cap ∧ (l = [] ∨ ∃ g, ao = some ⟨g, 0, none⟩ ∧ ∀ (j d : Nat), l[j]? = some d → w.cell? ⟨g, j, none⟩ = some (.int .i64 (d : Int)))
theorem DigAt.below {w w' : World} {v : Value} {l : List Nat} (h : DigAt w v l) (hb : Below w.heap.size w w') : DigAt w' v l := by
  obtain ⟨ao, cap, rfl, hc, h⟩ := h
  refine ⟨ao, cap, rfl, hc, ?_⟩
  rcases h with h | ⟨g, rfl, h⟩
  · exact .inl h
  · exact .inr ⟨g, rfl, fun j d hd => (hb.cell (block_lt_of_cell (h j d hd))).trans (h j d hd)⟩
theorem DigAt.slice {w : World} {v : Value} {l : List Nat} {n : Nat} (hn : l.length = n) (h : DigAt w v l) : ∃ ao cap, v = .slice ao n cap ∧ n ≤ cap ∧ (∀ (j d : Nat), l[j]? = some d → ∃ g, ao = some ⟨g, 0, none⟩ ∧ w.cell? ⟨g, j, none⟩ = some (.int .i64 (d : Int))) := by
  subst hn
  obtain ⟨ao, cap, rfl, hc, h⟩ := h
  refine ⟨ao, cap, rfl, hc, fun j d hd => ?_⟩
  rcases h with h | ⟨g, rfl, h⟩
  · rw [h] at hd; simp at hd
  · exact ⟨g, rfl, h j d hd⟩
theorem DigAt.own {w : World} {B : Nat} {v : Value} {l : List Nat} (h : w.ownsRow B 3 1 v l.length (dvals l)) : DigAt w v l := by
  rcases h.2 with ⟨rfl, h0⟩ | ⟨g, cap, cur, rfl, h1, h2, h3, _⟩
  · exact ⟨none, 0, by rw [h0], by omega, .inl (List.eq_nil_of_length_eq_zero h0)⟩
  · refine ⟨_, cap, rfl, h3, .inr ⟨g, rfl, fun j d hd => ?_⟩⟩
    have hk := (List.getElem?_eq_some_iff.1 hd).1
    rw [h.cellAt j (by omega), dvals, List.getElem?_map, hd]
    rfl
set_option maxHeartbeats 2000000 in
set_option maxRecDepth 100000 in
theorem trim_any {w : World} {v : Value} {l : List Nat} (h : DigAt w v l) (hl : l.length ≤ 1000000) : Calls Tryz.prog 125 #[v] w fun e w' => ∃ v', e = .returned v' ∧ DigAt w v' (Dg.trimL l) ∧ w' = w := by
  obtain ⟨n, hn⟩ : ∃ n, l.length = n := ⟨_, rfl⟩
  have HA := Lib.hid h
  obtain ⟨ao, cap, rfl, hnc, hc⟩ := h.slice hn
  rw [hn] at hl
  have HN := Lib.hid hn
  have HC := Lib.hid hc
  clear h hc hn
  go_enter Tryz.func125, Tryz.ntmps125
  go_wp2_with fail
  go_loop [0] (fun v => ∃ k : Nat, k ≤ n ∧ v = .slice ao k cap ∧ Dg.trimL (l.take k) = Dg.trimL l) (fun v => match v with | .slice _ k _ => k | _ => 0)
  case atStart => exact ⟨n, Nat.le_refl _, rfl, by rw [← HN.out, List.take_length]⟩
  case round =>
    obtain ⟨k, hk, rfl, ht⟩ := hrel
    have HT := Lib.hid ht
    clear ht
    rcases Nat.eq_zero_or_pos k with h0 | h0
    · subst h0
      go_wp2_with fail
      go_ret
      refine ⟨_, rfl, ?_, rfl⟩
      rw [← HT.out]
      exact ⟨ao, cap, rfl, Nat.zero_le _, .inl rfl⟩
    · obtain ⟨i, rfl⟩ : ∃ i, k = i + 1 := ⟨k - 1, by omega⟩
      obtain ⟨d, hd⟩ : ∃ d, l[i]? = some d := ⟨l[i]'(by rw [HN.out]; omega), List.getElem?_eq_getElem _⟩
      obtain ⟨g, rfl, cx⟩ := HC.out i d hd
      have htk : l.take (i + 1) = l.take i ++ [d] := by rw [List.take_add_one, hd]; rfl
      have q1 : ((i : Int) + 1) - 1 = (i : Int) := by omega
      have q2 : (i : Int) ≤ (cap : Int) := by omega
      have q3 : (0 : Int) ≤ (i : Int) := by omega
      by_cases hz : d = 0
      · subst hz
        have TT := Lib.hid (show Dg.trimL (l.take i) = Dg.trimL l by rw [← HT.out, htk, Dg.trim_snoc_zero])
        have cx2 : w.cell? ⟨g, i, none⟩ = some (.int .i64 0) := cx
        clear htk hd cx
        go_wp2_with fail
        exact ⟨⟨i, by omega, rfl, TT.out⟩, Nat.lt_succ_self i⟩
      · have TT := Lib.hid (show Dg.trimL l = l.take (i + 1) by rw [← HT.out, htk, Dg.trim_snoc _ _ hz])
        have z1 : ((d : Int) == 0) = false := by simp; omega
        have z2 : (d == 0) = false := by simp; omega
        clear htk hd
        go_wp2_with fail
        go_ret
        refine ⟨_, rfl, ?_, rfl⟩
        rw [TT.out]
        refine ⟨some ⟨g, 0, none⟩, cap, by rw [List.length_take, HN.out, Nat.min_eq_left hk]; rfl, by rw [List.length_take, HN.out]; omega, .inr ⟨g, rfl, fun j d hd => ?_⟩⟩
        rw [List.getElem?_take] at hd
        split at hd
        · obtain ⟨g', e, c⟩ := HC.out j d hd
          injection e with e
          injection e with e
          subst e
          exact c
        · cases hd
theorem int_info : (Tryz.prog.info? 3).map (fun i => (i.zero, i.size, i.bytes)) = some (some (.int .i64 0), 1, 8) := by kernel_rfl
theorem dvals_one (l : List Nat) : ∀ u ∈ dvals l, u.oneCell' = true := by
  intro u hu
  obtain ⟨y, _, rfl⟩ := List.mem_map.1 hu
  rfl
/-- append of one digit -/
theorem wpList_append_dig {ops : Array Oper} {rest : List Oper} {o : Oper} {a : Act} {w : World} {Q : Exit → Act → World → Prop} (hgd : o.guard = none) (s x : Operand)
    (ho : o.op = Op.call { callee := Callee.builtin Builtin.append, args := #[s, x], argTypes := #[69, 69] })
    (base : Nat) (v : Value) (xs : List Nat) (y : Nat) (B : Nat) (hsv : a.eval s = v) (hx : a.eval x = .slice (some ⟨B, 0, none⟩) 1 1) (hown : w.ownsRow base 3 1 v xs.length (dvals xs)) (hB : w.heap[B]? = some (.cells #[.int .i64 (y : Int)] 3 (0, 0))) (hl : xs.length ≤ 100000) (hb : base ≤ w.heap.size)
    (h : ∀ v' w', w'.ownsRow base 3 1 v' (xs ++ [y]).length (dvals (xs ++ [y])) → w.grownBy w' v.ownBlock → wpList Tryz.prog ops Q rest (a.put o.dst v') w') :
    wpList Tryz.prog ops Q (o :: rest) a w := by
  obtain ⟨i0, hi, hz0, hz1, hz2⟩ := info_parts int_info
  refine wpList_append_own (P := Tryz.prog) w hgd s x 69 ho base 3 i0 _ 1 8 Tryz.underlying69 hi hz0 hz1 hz2 rfl (by omega) v xs.length (dvals xs) hsv hown ⟨B, 0, none⟩ 1 1 (dvals [y]) hx rfl (World.news_of_block hB)
    (dvals_one [y]) (by unfold maxLen; omega) (by omega) hb (fun v' w' h1 h2 _ => h v' w' ?_ h2)
  rw [show dvals (xs ++ [y]) = dvals xs ++ dvals [y] by simp [dvals], List.length_append]
  exact h1
theorem owns_lt_d {w : World} {base : Nat} {v : Value} {n : Nat} {xs : List Value} (h : w.ownsRow base 3 1 v n xs) : ∀ b, v.ownBlock = some b → base ≤ b ∧ b < w.heap.size := by
  intro b hb
  rcases h.2 with ⟨rfl, _⟩ | ⟨g, cap, cur, rfl, h1, h2, _⟩
  · cases hb
  · have : g = b := by simpa [Value.ownBlock] using hb
    subst this
    exact ⟨h1, (Array.getElem?_eq_some_iff.1 h2).1⟩
theorem heap_below {W w1 : World} {b : Nat} {o : Obj} (h : W.heap[b]? = some o) (hb : Below W.heap.size W w1) : w1.heap[b]? = some o := by
  rcases Nat.lt_or_ge b W.heap.size with hl | hl
  · rw [hb.block b hl]; exact h
  · rw [Array.getElem?_eq_none hl] at h; cases h
theorem rows_below {W w1 : World} {base : Nat} {e : TypeId} {size : Nat} {v : Value} {n : Nat} {xs : List Value} (h : W.ownsRow base e size v n xs) (hb : Below W.heap.size W w1) : w1.ownsRow base e size v n xs := by
  rcases h.2 with h1 | ⟨g, cap, cur, rfl, h1, h2, h3⟩
  · exact ⟨h.1, .inl h1⟩
  · exact ⟨h.1, .inr ⟨g, cap, cur, rfl, h1, heap_below h2 hb, h3⟩⟩
namespace Dg
theorem times_step {l t : List Nat} {c x d k : Nat} (hl : l.length = k) (ht : t.length = k) (h : dval l + 16777216 ^ k * c = dval t * d) :
    dval (l ++ [(x * d + c) % 16777216]) + 16777216 ^ (k + 1) * ((x * d + c) / 16777216) = dval (t ++ [x]) * d := by
  rw [dval_snoc, dval_snoc, hl, ht, Nat.pow_succ, Nat.add_mul, ← h]
  have e : 16777216 ^ k * ((x * d + c) % 16777216) + 16777216 ^ k * 16777216 * ((x * d + c) / 16777216) = 16777216 ^ k * (x * d + c) := by
    rw [Nat.mul_assoc, ← Nat.mul_add, Nat.mod_add_div]
  have e2 : 16777216 ^ k * x * d = 16777216 ^ k * (x * d) := Nat.mul_assoc _ _ _
  rw [Nat.mul_add] at e
  omega
theorem minus_step {l t s s' : List Nat} {br x y d' br' k : Nat} (hl : l.length = k) (ht : t.length = k) (hv : dval s' = dval s + 16777216 ^ k * y) (h : dval l + dval s = dval t + 16777216 ^ k * br) (hd : d' + y + br = x + 16777216 * br') :
    dval (l ++ [d']) + dval s' = dval (t ++ [x]) + 16777216 ^ (k + 1) * br' := by
  rw [dval_snoc, dval_snoc, hl, ht, hv, Nat.pow_succ, Nat.mul_assoc]
  have e := congrArg (16777216 ^ k * ·) hd
  simp only [Nat.mul_add] at e
  omega
end Dg
set_option maxHeartbeats 4000000 in
set_option maxRecDepth 100000 in
theorem times_any {w : World} {u : Value} {a d : Nat} (h : DigAt w u (Dg.dg a)) (hd : d < 16777216) (hl : (Dg.dg a).length ≤ 1000) :
    Calls Tryz.prog 129 #[u, .int .i64 d] w fun e w' => ∃ v, e = .returned v ∧ DigAt w' v (Dg.dg (a * d)) ∧ Below w.heap.size w w' := by
  obtain ⟨n, hn⟩ : ∃ n, (Dg.dg a).length = n := ⟨_, rfl⟩
  obtain ⟨ao, cap, rfl, hnc, hc⟩ := h.slice hn
  rw [hn] at hl
  have HN := Lib.hid hn
  have HC := Lib.hid hc
  have FU := Lib.hid (Dg.fit_dg a)
  clear h hc hn
  go_enter Tryz.func129, Tryz.ntmps129
  go_wp2_with fail
  go_loopw [5, 6, 7] (fun v ca i wr => ∃ (k c : Nat) (l : List Nat), k ≤ n ∧ i = .int .i64 k ∧ ca = .int .i64 c ∧ c < 16777216 ∧ l.length = k ∧ Dg.Fit l ∧ Dg.dval l + 16777216 ^ k * c = Dg.dval ((Dg.dg a).take k) * d ∧ wr.ownsRow w.heap.size 3 1 v l.length (dvals l) ∧ Below w.heap.size w wr) (fun _ _ i _ => n - (intOf i).toNat)
  case atStart => exact ⟨0, 0, [], Nat.zero_le _, rfl, rfl, by omega, rfl, (fun d hd => by simp at hd), by simp [Dg.dval], ⟨rfl, .inl ⟨rfl, rfl⟩⟩, Below.refl _ _⟩
  case round =>
    obtain ⟨k, c, l, hk, rfl, rfl, hc1, hlk, hfit, heq, hO, hb⟩ := hrel
    have HLK := Lib.hid hlk
    have HFIT := Lib.hid hfit
    have HEQ := Lib.hid heq
    have HO := Lib.hid hO
    have HB := Lib.hid hb
    clear hlk hfit heq hO hb
    by_cases hlt : k < n
    · obtain ⟨x, hx⟩ : ∃ x, (Dg.dg a)[k]? = some x := ⟨(Dg.dg a)[k]'(by rw [HN.out]; exact hlt), List.getElem?_eq_getElem _⟩
      have hxb := FU.out x (List.mem_of_getElem? hx)
      obtain ⟨g, rfl, cx⟩ := HC.out k x hx
      have cx2 : wr.cell? ⟨g, k, none⟩ = some (.int .i64 (x : Int)) := (HB.out.cell (block_lt_of_cell cx)).trans cx
      have htk : (Dg.dg a).take (k + 1) = (Dg.dg a).take k ++ [x] := by rw [List.take_add_one, hx]; rfl
      have htl : ((Dg.dg a).take k).length = k := by rw [List.length_take, HN.out]; omega
      have ST := Lib.hid (show Dg.dval (l ++ [(x * d + c) % 16777216]) + 16777216 ^ (k + 1) * ((x * d + c) / 16777216) = Dg.dval ((Dg.dg a).take (k + 1)) * d by rw [htk]; exact Dg.times_step HLK.out htl HEQ.out)
      have hP : x * d ≤ 16777215 * 16777215 := Nat.mul_le_mul (by omega) (by omega)
      obtain ⟨P, eP⟩ : ∃ P, x * d = P := ⟨_, rfl⟩
      have eP' : (x : Int) * (d : Int) = (P : Int) := by rw [← eP]; simp
      rw [eP] at hP ST
      obtain ⟨r, er⟩ : ∃ r, (P + c) % 16777216 = r := ⟨_, rfl⟩
      obtain ⟨qq, eq⟩ : ∃ q, (P + c) / 16777216 = q := ⟨_, rfl⟩
      have er' : ((P : Int) + (c : Int)) % 16777216 = (r : Int) := by omega
      have eq' : ((P : Int) + (c : Int)) / 16777216 = (qq : Int) := by omega
      have qb : qq < 16777216 := by omega
      have rb : r < 16777216 := by omega
      rw [er, eq] at ST
      have P1 : (P : Int) ≤ 281474943156225 := by omega
      have P0 : (0 : Int) ≤ (P : Int) := by omega
      have c1 : (c : Int) ≤ 16777215 := by omega
      have x1 : (x : Int) ≤ 16777215 := by omega
      have d1 : (d : Int) ≤ 16777215 := by omega
      have FIT2 := Lib.hid (show Dg.Fit (l ++ [r]) from Dg.fit_append.2 ⟨HFIT.out, fun y hy => by rw [List.mem_singleton.1 hy]; exact rb⟩)
      have OA := Lib.hid (rows_below HO.out ((Below.refl _ _).alloc (Nat.le_refl _) (.cells #[.int .i64 (r : Int)] 3)))
      have BA := Lib.hid (HB.out.alloc HB.out.size (.cells #[.int .i64 (r : Int)] 3))
      have LL := Lib.hid (show l.length ≤ 100000 by rw [HLK.out]; omega)
      have HR := Lib.hid er
      have HQ := Lib.hid eq
      clear htk htl hx cx er eq eP hP
      go_wp2_with (at_builtin; (refine wpList_append_dig rfl (.tmp 23) (.tmp 26) rfl w.heap.size _ l r wr.heap.size rfl rfl OA.out (heap_alloc_new wr _) LL.out BA.out.size ?_); intro v2 w2 r2 g2; have R2 := Lib.hid r2; have B2 := Lib.hid (BA.out.grown g2 BA.out.size (fun b e => (owns_lt_d OA.out b e).1)); clear r2 g2)
      refine ⟨⟨k + 1, qq, l ++ [r], by omega, by go_num, by rw [eq'], qb, by rw [List.length_append, HLK.out]; rfl, FIT2.out, ST.out, R2.out, B2.out⟩, by simp [intOf]; omega⟩
    · obtain rfl : k = n := by omega
      have OA := Lib.hid (rows_below HO.out ((Below.refl _ _).alloc (Nat.le_refl _) (.cells #[.int .i64 (c : Int)] 3)))
      have BA := Lib.hid (HB.out.alloc HB.out.size (.cells #[.int .i64 (c : Int)] 3))
      have LL := Lib.hid (show l.length ≤ 100000 by rw [HLK.out]; omega)
      have FIT2 := Lib.hid (show Dg.Fit (l ++ [c]) from Dg.fit_append.2 ⟨HFIT.out, fun y hy => by rw [List.mem_singleton.1 hy]; exact hc1⟩)
      have EV : Hid (Dg.trimL (l ++ [c]) = Dg.dg (a * d)) := by
        show _ = _
        rw [Dg.trim_eq FIT2.out, Dg.dval_snoc, HLK.out, HEQ.out, ← HN.out, List.take_length, Dg.dval_dg]
      go_wp2_with (at_builtin; (refine wpList_append_dig rfl (.tmp 30) (.tmp 32) rfl w.heap.size _ l c wr.heap.size rfl rfl OA.out (heap_alloc_new wr _) LL.out BA.out.size ?_); intro v2 w2 r2 g2; have R2 := Lib.hid (DigAt.own r2); have B2 := Lib.hid (BA.out.grown g2 BA.out.size (fun b e => (owns_lt_d OA.out b e).1)); clear r2 g2)
      refine (trim_any R2.out (by rw [List.length_append, HLK.out]; simp; omega)).mono ?_
      rintro e w3 ⟨v3, rfl, h3, rfl⟩
      rw [EV.out] at h3
      have R3 := Lib.hid h3
      clear h3
      go_wp2_with fail
      go_ret
      exact ⟨_, rfl, R3.out, B2.out⟩
set_option maxHeartbeats 4000000 in
set_option maxRecDepth 100000 in
theorem minus_any {w : World} {u v : Value} {a b : Nat} (h : DigAt w u (Dg.dg a)) (h' : DigAt w v (Dg.dg b)) (hba : b ≤ a) (hl : (Dg.dg a).length ≤ 1000) :
    Calls Tryz.prog 128 #[u, v] w fun e w' => ∃ v', e = .returned v' ∧ DigAt w' v' (Dg.dg (a - b)) ∧ Below w.heap.size w w' := by
  obtain ⟨n, hn⟩ : ∃ n, (Dg.dg a).length = n := ⟨_, rfl⟩
  obtain ⟨m, hm⟩ : ∃ m, (Dg.dg b).length = m := ⟨_, rfl⟩
  have hmn : m ≤ n := by
    rw [← hm]
    refine (Dg.dg_length_le b n).2 (Nat.lt_of_le_of_lt hba ?_)
    exact (Dg.dg_length_le a n).1 (by omega)
  obtain ⟨ao, cap, rfl, hnc, hc⟩ := h.slice hn
  obtain ⟨bo, cap2, rfl, hmc, hc2⟩ := h'.slice hm
  rw [hn] at hl
  have HN := Lib.hid hn
  have HM := Lib.hid hm
  have HC := Lib.hid hc
  have HC2 := Lib.hid hc2
  have FU := Lib.hid (Dg.fit_dg a)
  have FV := Lib.hid (Dg.fit_dg b)
  have HBA := Lib.hid hba
  clear h h' hc hc2 hn hm hba
  go_enter Tryz.func128, Tryz.ntmps128
  go_wp2_with fail
  go_loopw [5, 6, 7] (fun o bo' i wr => ∃ (k br : Nat) (l : List Nat), k ≤ n ∧ i = .int .i64 k ∧ bo' = .int .i64 br ∧ br ≤ 1 ∧ l.length = k ∧ Dg.Fit l ∧ Dg.dval l + Dg.dval ((Dg.dg b).take k) = Dg.dval ((Dg.dg a).take k) + 16777216 ^ k * br ∧ wr.ownsRow w.heap.size 3 1 o l.length (dvals l) ∧ Below w.heap.size w wr) (fun _ _ i _ => n - (intOf i).toNat)
  case atStart => exact ⟨0, 0, [], Nat.zero_le _, rfl, rfl, by omega, rfl, (fun d hd => by simp at hd), by simp [Dg.dval], ⟨rfl, .inl ⟨rfl, rfl⟩⟩, Below.refl _ _⟩
  case round =>
    obtain ⟨k, br, l, hk, rfl, rfl, hb1, hlk, hfit, heq, hO, hb⟩ := hrel
    have HLK := Lib.hid hlk
    have HFIT := Lib.hid hfit
    have HEQ := Lib.hid heq
    have HO := Lib.hid hO
    have HB := Lib.hid hb
    clear hlk hfit heq hO hb
    have LL := Lib.hid (show l.length ≤ 100000 by rw [HLK.out]; omega)
    by_cases hlt : k < n
    · obtain ⟨x, hx⟩ : ∃ x, (Dg.dg a)[k]? = some x := ⟨(Dg.dg a)[k]'(by rw [HN.out]; exact hlt), List.getElem?_eq_getElem _⟩
      have hxb := FU.out x (List.mem_of_getElem? hx)
      obtain ⟨g, rfl, cx⟩ := HC.out k x hx
      have cx2 : wr.cell? ⟨g, k, none⟩ = some (.int .i64 (x : Int)) := (HB.out.cell (block_lt_of_cell cx)).trans cx
      have htk : (Dg.dg a).take (k + 1) = (Dg.dg a).take k ++ [x] := by rw [List.take_add_one, hx]; rfl
      have htl : ((Dg.dg a).take k).length = k := by rw [List.length_take, HN.out]; omega
      obtain ⟨D1, e1⟩ : ∃ D1 : Int, (x : Int) - (br : Int) = D1 := ⟨_, rfl⟩
      have f1 : -1 ≤ D1 := by omega
      have f2 : D1 ≤ 16777215 := by omega
      by_cases hkm : k < m
      · obtain ⟨y, hy⟩ : ∃ y, (Dg.dg b)[k]? = some y := ⟨(Dg.dg b)[k]'(by rw [HM.out]; exact hkm), List.getElem?_eq_getElem _⟩
        have hyb := FV.out y (List.mem_of_getElem? hy)
        obtain ⟨g2, rfl, cy⟩ := HC2.out k y hy
        have cy2 : wr.cell? ⟨g2, k, none⟩ = some (.int .i64 (y : Int)) := (HB.out.cell (block_lt_of_cell cy)).trans cy
        have VS : Hid (Dg.dval ((Dg.dg b).take (k + 1)) = Dg.dval ((Dg.dg b).take k) + 16777216 ^ k * y) := by
          show _ = _
          rw [List.take_add_one, hy]
          show Dg.dval (_ ++ [y]) = _
          rw [Dg.dval_snoc, List.length_take, HM.out, Nat.min_eq_left (by omega)]
        obtain ⟨D2, e2⟩ : ∃ D2 : Int, D1 - (y : Int) = D2 := ⟨_, rfl⟩
        have f3 : -16777216 ≤ D2 := by omega
        have f4 : D2 ≤ 16777215 := by omega
        clear hy cy
        by_cases hneg : D2 < 0
        · obtain ⟨d', e3⟩ : ∃ d' : Nat, D2 + 16777216 = (d' : Int) := ⟨(D2 + 16777216).toNat, by omega⟩
          have hd' : d' < 16777216 := by omega
          have dn : decide (D2 < 0) = true := decide_eq_true hneg
          have ST := Lib.hid (show Dg.dval (l ++ [d']) + Dg.dval ((Dg.dg b).take (k + 1)) = Dg.dval ((Dg.dg a).take (k + 1)) + 16777216 ^ (k + 1) * 1 by rw [htk]; exact Dg.minus_step HLK.out htl VS.out HEQ.out (by omega))
          have FIT2 := Lib.hid (show Dg.Fit (l ++ [d']) from Dg.fit_append.2 ⟨HFIT.out, fun y hy => by rw [List.mem_singleton.1 hy]; omega⟩)
          have OA := Lib.hid (rows_below HO.out ((Below.refl _ _).alloc (Nat.le_refl _) (.cells #[.int .i64 (d' : Int)] 3)))
          have BA := Lib.hid (HB.out.alloc HB.out.size (.cells #[.int .i64 (d' : Int)] 3))
          clear htk htl hx cx VS
          go_wp2_with (at_builtin; (refine wpList_append_dig rfl (.tmp 35) (.tmp 37) rfl w.heap.size _ l d' wr.heap.size rfl rfl OA.out (heap_alloc_new wr _) LL.out BA.out.size ?_); intro v2 w2 r2 g2; have R2 := Lib.hid r2; have B2 := Lib.hid (BA.out.grown g2 BA.out.size (fun b e => (owns_lt_d OA.out b e).1)); clear r2 g2)
          refine ⟨⟨k + 1, 1, l ++ [d'], by omega, by go_num, by first | rfl | simp, by omega, by rw [List.length_append, HLK.out]; rfl, FIT2.out, ST.out, R2.out, B2.out⟩, by simp [intOf]; omega⟩
        · obtain ⟨d', rfl⟩ : ∃ d' : Nat, D2 = (d' : Int) := ⟨D2.toNat, by omega⟩
          have hd' : d' < 16777216 := by omega
          have dn : decide ((d' : Int) < 0) = false := decide_eq_false hneg
          have ST := Lib.hid (show Dg.dval (l ++ [d']) + Dg.dval ((Dg.dg b).take (k + 1)) = Dg.dval ((Dg.dg a).take (k + 1)) + 16777216 ^ (k + 1) * 0 by rw [htk]; exact Dg.minus_step HLK.out htl VS.out HEQ.out (by omega))
          have FIT2 := Lib.hid (show Dg.Fit (l ++ [d']) from Dg.fit_append.2 ⟨HFIT.out, fun y hy => by rw [List.mem_singleton.1 hy]; omega⟩)
          have OA := Lib.hid (rows_below HO.out ((Below.refl _ _).alloc (Nat.le_refl _) (.cells #[.int .i64 (d' : Int)] 3)))
          have BA := Lib.hid (HB.out.alloc HB.out.size (.cells #[.int .i64 (d' : Int)] 3))
          clear htk htl hx cx VS
          go_wp2_with (at_builtin; (refine wpList_append_dig rfl (.tmp 35) (.tmp 37) rfl w.heap.size _ l d' wr.heap.size rfl rfl OA.out (heap_alloc_new wr _) LL.out BA.out.size ?_); intro v2 w2 r2 g2; have R2 := Lib.hid r2; have B2 := Lib.hid (BA.out.grown g2 BA.out.size (fun b e => (owns_lt_d OA.out b e).1)); clear r2 g2)
          refine ⟨⟨k + 1, 0, l ++ [d'], by omega, by go_num, by first | rfl | simp, by omega, by rw [List.length_append, HLK.out]; rfl, FIT2.out, ST.out, R2.out, B2.out⟩, by simp [intOf]; omega⟩
      · have VS : Hid (Dg.dval ((Dg.dg b).take (k + 1)) = Dg.dval ((Dg.dg b).take k) + 16777216 ^ k * 0) := by
          show _ = _
          rw [List.take_of_length_le (by rw [HM.out]; omega), List.take_of_length_le (by rw [HM.out]; omega), Nat.mul_zero, Nat.add_zero]
        by_cases hneg : D1 < 0
        · obtain ⟨d', e3⟩ : ∃ d' : Nat, D1 + 16777216 = (d' : Int) := ⟨(D1 + 16777216).toNat, by omega⟩
          have hd' : d' < 16777216 := by omega
          have dn : decide (D1 < 0) = true := decide_eq_true hneg
          have ST := Lib.hid (show Dg.dval (l ++ [d']) + Dg.dval ((Dg.dg b).take (k + 1)) = Dg.dval ((Dg.dg a).take (k + 1)) + 16777216 ^ (k + 1) * 1 by rw [htk]; exact Dg.minus_step HLK.out htl VS.out HEQ.out (by omega))
          have FIT2 := Lib.hid (show Dg.Fit (l ++ [d']) from Dg.fit_append.2 ⟨HFIT.out, fun y hy => by rw [List.mem_singleton.1 hy]; omega⟩)
          have OA := Lib.hid (rows_below HO.out ((Below.refl _ _).alloc (Nat.le_refl _) (.cells #[.int .i64 (d' : Int)] 3)))
          have BA := Lib.hid (HB.out.alloc HB.out.size (.cells #[.int .i64 (d' : Int)] 3))
          clear htk htl hx cx VS
          go_wp2_with (at_builtin; (refine wpList_append_dig rfl (.tmp 35) (.tmp 37) rfl w.heap.size _ l d' wr.heap.size rfl rfl OA.out (heap_alloc_new wr _) LL.out BA.out.size ?_); intro v2 w2 r2 g2; have R2 := Lib.hid r2; have B2 := Lib.hid (BA.out.grown g2 BA.out.size (fun b e => (owns_lt_d OA.out b e).1)); clear r2 g2)
          refine ⟨⟨k + 1, 1, l ++ [d'], by omega, by go_num, by first | rfl | simp, by omega, by rw [List.length_append, HLK.out]; rfl, FIT2.out, ST.out, R2.out, B2.out⟩, by simp [intOf]; omega⟩
        · obtain ⟨d', rfl⟩ : ∃ d' : Nat, D1 = (d' : Int) := ⟨D1.toNat, by omega⟩
          have hd' : d' < 16777216 := by omega
          have dn : decide ((d' : Int) < 0) = false := decide_eq_false hneg
          have ST := Lib.hid (show Dg.dval (l ++ [d']) + Dg.dval ((Dg.dg b).take (k + 1)) = Dg.dval ((Dg.dg a).take (k + 1)) + 16777216 ^ (k + 1) * 0 by rw [htk]; exact Dg.minus_step HLK.out htl VS.out HEQ.out (by omega))
          have FIT2 := Lib.hid (show Dg.Fit (l ++ [d']) from Dg.fit_append.2 ⟨HFIT.out, fun y hy => by rw [List.mem_singleton.1 hy]; omega⟩)
          have OA := Lib.hid (rows_below HO.out ((Below.refl _ _).alloc (Nat.le_refl _) (.cells #[.int .i64 (d' : Int)] 3)))
          have BA := Lib.hid (HB.out.alloc HB.out.size (.cells #[.int .i64 (d' : Int)] 3))
          clear htk htl hx cx VS
          go_wp2_with (at_builtin; (refine wpList_append_dig rfl (.tmp 35) (.tmp 37) rfl w.heap.size _ l d' wr.heap.size rfl rfl OA.out (heap_alloc_new wr _) LL.out BA.out.size ?_); intro v2 w2 r2 g2; have R2 := Lib.hid r2; have B2 := Lib.hid (BA.out.grown g2 BA.out.size (fun b e => (owns_lt_d OA.out b e).1)); clear r2 g2)
          refine ⟨⟨k + 1, 0, l ++ [d'], by omega, by go_num, by first | rfl | simp, by omega, by rw [List.length_append, HLK.out]; rfl, FIT2.out, ST.out, R2.out, B2.out⟩, by simp [intOf]; omega⟩
    · obtain rfl : k = n := by omega
      have EV : Hid (Dg.trimL l = Dg.dg (a - b)) := by
        show _ = _
        rw [Dg.trim_eq HFIT.out]
        have h1 := HEQ.out
        rw [List.take_of_length_le (show (Dg.dg a).length ≤ k by rw [HN.out]; exact Nat.le_refl _), List.take_of_length_le (show (Dg.dg b).length ≤ k by rw [HM.out]; exact hmn), Dg.dval_dg, Dg.dval_dg] at h1
        have h2 := Dg.dval_lt HFIT.out
        rw [HLK.out] at h2
        have h3 := HBA.out
        have h4 : br = 0 := by
          rcases Nat.eq_zero_or_pos br with h | h
          · exact h
          · have : br = 1 := by omega
            subst this
            omega
        subst h4
        congr 1
        omega
      have R2 := Lib.hid (DigAt.own HO.out)
      go_wp2_with fail
      refine (trim_any R2.out (by rw [HLK.out]; omega)).mono ?_
      rintro e w3 ⟨v3, rfl, h3, rfl⟩
      rw [EV.out] at h3
      have R3 := Lib.hid h3
      clear h3
      go_wp2_with fail
      go_ret
      exact ⟨_, rfl, R3.out, HB.out⟩
end Go.Proofs.YtpblfpnldbdncaaGreatDoor
