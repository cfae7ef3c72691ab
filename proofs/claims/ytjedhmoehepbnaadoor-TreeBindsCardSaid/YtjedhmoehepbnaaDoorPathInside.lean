/- The strings that are hashed for a path; the contracts of the reference's below and PathInside, and of Clash for longer strings. -/
import Derived.Test.YtjedhmoehepbnaaDoorTreeRefFits
import Derived.Test.YtjedhmoehepbnaaDoorTreeClashF
import Derived.Test.YtjedhmoehepbnaaDoorTreeGIn
namespace Go.Proofs.YtjedhmoehepbnaaDoor
open Go.RowKit Go.Sort
set_option linter.unusedVariables false
section
namespace Tree
theorem getD_takeH (l : List H) (k i : Nat) (h : i < k) (d : H) : (l.take k).getD i d = l.getD i d := by
  rw [List.getD_eq_getElem?_getD, List.getD_eq_getElem?_getD, List.getElem?_take, if_pos h]
/-- the hash to which hash k of a path is joined, and whether the latter is at the left -/
def belowV : Nat → H → Nat → Nat → List H → Nat → H × Bool
  | 0, x, _, _, _, _ => (x, false)
  | f + 1, x, i, n, p, k => if k < depth (f + 1) i n then (if i < half n then belowV f x i (half n) p k else belowV f x (i - half n) (n - half n) p k)
    else if i < half n then (up f x i (half n) (p.take (k - 1)), false) else (up f x (i - half n) (n - half n) (p.take (k - 1)), true)
def joinV (r : H × Bool) (y : H) : S := if r.2 then 1 :: (y ++ r.1) else 1 :: (r.1 ++ y)
theorem belowV_take : ∀ (f : Nat) (x : H) (i n : Nat) (p : List H) (k m : Nat), k ≤ m + 1 → belowV f x i n (p.take m) k = belowV f x i n p k := by
  intro f
  induction f with
  | zero => intro x i n p k m h; rfl
  | succ f ih =>
    intro x i n p k m h
    have e : (p.take m).take (k - 1) = p.take (k - 1) := by rw [List.take_take]; congr 1; omega
    rw [belowV, belowV, ih x _ _ p k m h, ih x _ _ p k m h, e]
theorem belowV_len : ∀ (f : Nat) (x : H) (i n : Nat) (p : List H) (k : Nat), x.length = 32 → (belowV f x i n p k).1.length = 32 := by
  intro f
  induction f with
  | zero => intro x i n p k h; exact h
  | succ f ih =>
    intro x i n p k h
    rw [belowV]
    split
    · split <;> exact ih _ _ _ _ _ h
    · split <;> exact up_len _ _ _ _ _ h
theorem pathIn_is : ∀ (f : Nat) (x : ByteArray) (i n : Nat) (p : List H), i < n → n ≤ 2 ^ f → p.length = depth f i n →
    pathIn f x i n p = (0 :: x.data.toList) :: (List.range p.length).map fun j => joinV (belowV f (leaf x) i n p (j + 1)) (p.getD j []) := by
  intro f
  induction f with
  | zero =>
    intro x i n p hi hf hp
    have : p.length = 0 := hp
    rw [this]; rfl
  | succ f ih =>
    intro x i n p hi hf hp
    rw [pathIn]
    have hp0 := hp
    rw [depth] at hp
    by_cases h1 : n ≤ 1
    · rw [if_pos h1] at hp ⊢
      rw [hp]; rfl
    · rw [if_neg h1] at hp ⊢
      have hk0 := half_pos n
      have hk1 := half_lt n (by omega)
      have hf1 := half_pow n f (by omega) hf
      have hf2 := rest_pow n f (by omega) hf
      by_cases hik : i < half n
      · rw [if_pos hik] at hp ⊢
        have hl : (p.take (p.length - 1)).length = depth f i (half n) := by rw [List.length_take]; omega
        rw [ih x i (half n) _ hik hf1 hl, hl, show p.length = depth f i (half n) + 1 by omega, List.range_succ, List.map_append, List.cons_append]
        congr 2
        · apply List.map_congr_left
          intro j hj
          have hj' := List.mem_range.1 hj
          rw [belowV_take f _ _ _ _ _ _ (by omega), getD_takeH _ _ _ (by omega)]
          congr 1
          rw [belowV, ← hp0, if_pos (by omega), if_pos hik]
        · rw [List.map_cons, List.map_nil, belowV, ← hp0, if_neg (by omega), if_pos hik]
          rfl
      · rw [if_neg hik] at hp ⊢
        have hl : (p.take (p.length - 1)).length = depth f (i - half n) (n - half n) := by rw [List.length_take]; omega
        rw [ih x (i - half n) (n - half n) _ (by omega) hf2 hl, hl, show p.length = depth f (i - half n) (n - half n) + 1 by omega, List.range_succ, List.map_append, List.cons_append]
        congr 2
        · apply List.map_congr_left
          intro j hj
          have hj' := List.mem_range.1 hj
          rw [belowV_take f _ _ _ _ _ _ (by omega), getD_takeH _ _ _ (by omega)]
          congr 1
          rw [belowV, ← hp0, if_pos (by omega), if_neg hik]
        · rw [List.map_cons, List.map_nil, belowV, ← hp0, if_neg (by omega), if_neg hik]
          rfl
end Tree
/-- two results: a row that lies in memory, and a slot -/
theorem results_row_slot' {P : Program} {fn : Func} {p q : Tmp} {ty : TypeId} (h : fn.results = #[.cell p ty, .tmp q]) (tmps : Array Value) (w : World) (g : Nat) (t : TypeId) (cs : Array Value) (fr : Nat × Nat) (d : TypeDesc) (v : Value)
    (hp : tmps.getD p undef = .pointer (some ⟨g, 0, none⟩)) (hq : tmps.getD q undef = v) (hg : w.heap[g]? = some (.cells cs t fr))
    (hu : P.underlying ty = some d) (hd : (match d with | .struct _ | .array _ _ => true | _ => false) = true) (hi : (P.info? ty).map (·.size) = some cs.size) :
    (results fn tmps).run P w = .ok (.tuple #[.agg cs, v]) w := by
  have hp' : tmps[p]?.getD undef = .pointer (some ⟨g, 0, none⟩) := by simpa using hp
  have hq' : tmps[q]?.getD undef = v := by simpa using hq
  simp [results, h, hp', hq', asAddr, run_loadVar_row w g t ty cs fr d hg hu hd hi]
section
attribute [local go_sem ↓] wp_alloc_hash Go.wp_at_zero Go.wp_at_succ wp_store_at
set_option maxHeartbeats 4000000 in
set_option maxRecDepth 100000 in
theorem rbelow_any (f i n k m c : Nat) (a : Option Addr) (hs : List Tree.H) (s : ByteArray) (x : Tree.H) (r : Tree.H × Bool) (w : World) (hi : i < n) (hf : n ≤ 2 ^ f) (h63 : f ≤ 63) (hnm : n ≤ 9223372036854775807) (hp : IsHs w (.slice a m c) hs) (hm : hs.length = m) (hkm : k + 1 ≤ m) (hkd : k + 1 ≤ Tree.depth f i n) (hsz : s.size ≤ 140737488354000) (hx : Tree.leaf s = x) (hr : Tree.belowV f x i n hs (k + 1) = r) :
    Calls Tryd.prog 43 #[.int .i64 (i : Int), .int .i64 (n : Int), .string s, .slice a m c, .int .i64 ((k : Int) + 1)] w fun e w' => e = .returned (.tuple #[.agg (hashArr r.1), .bool r.2]) ∧ Below w.heap.size w w' := by
  have lx : x.length = 32 := by rw [← hx]; exact Tree.leaf_length s
  obtain ⟨b, o, rfl, hmc, hc, hel⟩ := hp.last hm (by omega)
  have b0 : Below w.heap.size w (w.alloc (.cells (hashArr Tree.zero) 24)) := (Below.refl _ _).alloc (Nat.le_refl _) _
  have HP := Lib.hid (hp.below b0)
  have H0 := Lib.hid (heap_alloc_new w (.cells (hashArr Tree.zero) 24))
  have CL := Lib.hid (fun V => rleaf_any s x V hsz hx)
  have LX := Lib.hid lx
  have B0 := Lib.hid b0
  have q0 : IntKind.i64.wrap ((k : Int) + 1 - 1) = (k : Int) := by rw [show (k : Int) + 1 - 1 = (k : Int) by omega]; exact IntWalk.i64_in _ (by omega)
  clear b0 hp hx lx hel hsz
  go_enter Tryd.func43, Tryd.ntmps43
  go_wp2_with fail
  generalize w.alloc (.cells (hashArr Tree.zero) 24) = W at *
  go_loopw [0, 1] (fun v0 v1 wr => wr = W ∧ ∃ f' i' n' : Nat, v0 = .int .i64 (i' : Int) ∧ v1 = .int .i64 (n' : Int) ∧ i' < n' ∧ n' ≤ 2 ^ f' ∧ f' ≤ 63 ∧ n' ≤ 9223372036854775807 ∧ k + 1 ≤ Tree.depth f' i' n' ∧ Tree.belowV f' x i' n' hs (k + 1) = r) (fun _ v1 _ => (intOf v1).toNat)
  case atStart => exact ⟨rfl, f, i, n, rfl, rfl, hi, hf, h63, hnm, hkd, hr⟩
  case round =>
    clear hi hf h63 hnm hkd hr
    obtain ⟨rfl, f', i', n', rfl, rfl, hi, hf, h63, hnm, hkd, hr⟩ := hrel
    cases f' with
    | zero => exact absurd hkd (by show ¬ (k + 1 ≤ 0); omega)
    | succ g =>
      have h2 : ¬ n' ≤ 1 := by intro h; rw [Tree.depth, if_pos h] at hkd; omega
      obtain ⟨d, ed⟩ : ∃ d, Tree.depth (g + 1) i' n' = d := ⟨_, rfl⟩
      have CD := Lib.hid (fun V => rdepth_any (g + 1) i' n' d V hi hf hnm h63 ed)
      have dd' := ed
      rw [Tree.depth, if_neg h2] at dd'
      have hk0 := Tree.half_pos n'
      have hk1 := Tree.half_lt n' (by omega)
      have hfa := Tree.half_pow n' g (by omega) hf
      have hfb := Tree.rest_pow n' g (by omega) hf
      have ch := fun V => rhalf_any n' V (by omega) hnm
      obtain ⟨kk, ekk⟩ : ∃ kk, Tree.half n' = kk := ⟨_, rfl⟩
      rw [ekk] at hk0 hk1 hfa hfb ch dd'
      have CH := Lib.hid ch
      have HR := Lib.hid hr
      have d1 : decide ((1 : Int) < (n' : Int)) = true := by simp; omega
      have q7 : IntKind.i64.wrap ((i' : Int) - (kk : Int)) = (i' : Int) - (kk : Int) := IntWalk.i64_in _ (by omega)
      have q8 : IntKind.i64.wrap ((n' : Int) - (kk : Int)) = (n' : Int) - (kk : Int) := IntWalk.i64_in _ (by omega)
      clear ch hr hf
      go_wp2_with fail
      with_reducible refine (CD.out _).mono ?_
      rintro e w' ⟨rfl, rfl⟩
      by_cases hkd2 : k + 1 < d
      · have d2 : decide ((k : Int) + 1 < (d : Int)) = true := by simp; omega
        go_wp2_with fail
        with_reducible refine (CH.out _).mono ?_
        rintro e w' ⟨rfl, rfl⟩
        by_cases hik : i' < kk
        · have hdi : decide ((i' : Int) < (kk : Int)) = true := by simp; omega
          rw [if_pos hik] at dd'
          go_wp2_with fail
          go_roundw
          case rel => exact ⟨by first | trivial | rfl, g, i', kk, rfl, rfl, hik, hfa, by omega, by omega, by omega, by rw [← HR.out, Tree.belowV, if_pos (by rw [ed]; omega), ekk, if_pos hik]⟩
          case measure => simp [intOf]; omega
        · have hdi : decide ((i' : Int) < (kk : Int)) = false := by simp; omega
          rw [if_neg hik] at dd'
          go_wp2_with fail
          go_roundw
          case rel => exact ⟨by first | trivial | rfl, g, i' - kk, n' - kk, by rw [show ((i' - kk : Nat) : Int) = (i' : Int) - (kk : Int) by omega], by rw [show ((n' - kk : Nat) : Int) = (n' : Int) - (kk : Int) by omega], by omega, hfb, by omega, by omega, by omega, by rw [← HR.out, Tree.belowV, if_pos (by rw [ed]; omega), ekk, if_neg hik]⟩
          case measure => simp [intOf]; omega
      · have d2 : decide ((k : Int) + 1 < (d : Int)) = false := by simp; omega
        by_cases hik : i' < kk
        · rw [if_pos hik] at dd'
          have hdi : decide ((i' : Int) < (kk : Int)) = true := by simp; omega
          obtain ⟨y, ey⟩ : ∃ y, Tree.up g x i' kk (hs.take k) = y := ⟨_, rfl⟩
          have ly : y.length = 32 := by rw [← ey]; exact up_length _ _ _ _ _ LX.out
          have LY := Lib.hid ly
          have er : Hid (r = (y, false)) := by
            show _ = _
            rw [← HR.out, Tree.belowV, if_neg (by rw [ed]; omega), ekk, if_pos hik, ← ey]; rfl
          have lt : (hs.take k).length = k := by rw [List.length_take]; omega
          have CU := Lib.hid (fun (V : World) (gb : Below wr.heap.size wr V) => rup_any g i' kk k c (some ⟨b, o, none⟩) (hs.take k) x V hik hfa (by omega) ((HP.out.below gb).cut hm (by omega)) lt (by omega) LX.out)
          rw [ey] at CU
          have hcut := cut_hs (some ⟨b, o, none⟩) m k c (by omega)
          have c1 : (0 : Int) ≤ (k : Int) := by omega
          have c2 : (k : Int) ≤ (c : Int) := by omega
          have c3 : (k : Int).toNat = k := by omega
          have c4 : k ≤ c := by omega
          have BD := Lib.hid ((Below.refl wr.heap.size wr).drew)
          clear ly ey lt dd' ed hfa hfb HR
          go_wp2_with fail
          with_reducible refine (CH.out _).mono ?_
          rintro e w' ⟨rfl, rfl⟩
          go_wp2_with fail
          refine wp_region_tail_below 9 (by kernel_rfl) (by kernel_rfl) ?_
          simp only [List.take_succ_cons, List.take_zero, List.drop_succ_cons, List.drop_zero]
          repeat (go_big_quiet_step ((first | with_reducible exact Calls.regrown_of (CL.out _) | with_reducible exact Calls.regrown_of (CU.out _ (below_regrown _ _ _)))))
          refine wpQuiet_nil ?_
          intro _ hw'
          obtain ⟨⟨dq, osq⟩, hw''⟩ := hw'
          subst hw''
          have hq := below_regrown wr dq osq
          have BQ := Lib.hid (below_join B0.out hq)
          have R8 := Lib.hid (heap_below H0.out hq)
          clear hq
          generalize grow (redrawn wr dq) osq = W1 at *
          go_wp2_with ((with_reducible refine op_is ⟨none, .store 24 (.tmp 10) (.tmp 48), _, _, _, _⟩ ?_); refine wpList_store_row rfl 24 (.tmp 10) (.tmp 48) rfl w.heap.size (hashArr y) rfl rfl 24 _ R8.out (hash_info _ LY.out) (by rw [hashArr_size, hashArr_size, LY.out]; rfl) (hashArr_one _) ?_)
          refine bodyPost_ret (v := .tuple #[.agg (hashArr y), .bool false]) (results_row_slot' Tryd.results43 _ _ w.heap.size 24 (hashArr y) (0, 0) _ _ rfl rfl (setRow_heap _ _ _ _ _ _ R8.out) Tryd.underlying24 rfl (hash_info _ LY.out)) rfl ?_
          exact ⟨by rw [er.out], below_setRow BQ.out (Nat.le_refl _) _⟩
        · rw [if_neg hik] at dd'
          have hdi : decide ((i' : Int) < (kk : Int)) = false := by simp; omega
          obtain ⟨y, ey⟩ : ∃ y, Tree.up g x (i' - kk) (n' - kk) (hs.take k) = y := ⟨_, rfl⟩
          have ly : y.length = 32 := by rw [← ey]; exact up_length _ _ _ _ _ LX.out
          have LY := Lib.hid ly
          have er : Hid (r = (y, true)) := by
            show _ = _
            rw [← HR.out, Tree.belowV, if_neg (by rw [ed]; omega), ekk, if_neg hik, ← ey]; rfl
          have lt : (hs.take k).length = k := by rw [List.length_take]; omega
          have CU := Lib.hid (fun (V : World) (gb : Below wr.heap.size wr V) => rup_any g (i' - kk) (n' - kk) k c (some ⟨b, o, none⟩) (hs.take k) x V (by omega) hfb (by omega) ((HP.out.below gb).cut hm (by omega)) lt (by omega) LX.out)
          rw [ey, show ((n' - kk : Nat) : Int) = (n' : Int) - (kk : Int) by omega, show ((i' - kk : Nat) : Int) = (i' : Int) - (kk : Int) by omega] at CU
          have hcut := cut_hs (some ⟨b, o, none⟩) m k c (by omega)
          have c1 : (0 : Int) ≤ (k : Int) := by omega
          have c2 : (k : Int) ≤ (c : Int) := by omega
          have c3 : (k : Int).toNat = k := by omega
          have c4 : k ≤ c := by omega
          have BD := Lib.hid ((Below.refl wr.heap.size wr).drew)
          clear ly ey lt dd' ed hfa hfb HR
          go_wp2_with fail
          with_reducible refine (CH.out _).mono ?_
          rintro e w' ⟨rfl, rfl⟩
          go_wp2_with fail
          refine wp_region_tail_below 13 (by kernel_rfl) (by kernel_rfl) ?_
          simp only [List.take_succ_cons, List.take_zero, List.drop_succ_cons, List.drop_zero]
          repeat (go_big_quiet_step ((first | with_reducible exact Calls.regrown_of (CL.out _) | with_reducible exact Calls.regrown_of (CU.out _ (below_regrown _ _ _)))))
          refine wpQuiet_nil ?_
          intro _ hw'
          obtain ⟨⟨dq, osq⟩, hw''⟩ := hw'
          subst hw''
          have hq := below_regrown wr dq osq
          have BQ := Lib.hid (below_join B0.out hq)
          have R8 := Lib.hid (heap_below H0.out hq)
          clear hq
          generalize grow (redrawn wr dq) osq = W1 at *
          go_wp2_with ((with_reducible refine op_is ⟨none, .store 24 (.tmp 10) (.tmp 61), _, _, _, _⟩ ?_); refine wpList_store_row rfl 24 (.tmp 10) (.tmp 61) rfl w.heap.size (hashArr y) rfl rfl 24 _ R8.out (hash_info _ LY.out) (by rw [hashArr_size, hashArr_size, LY.out]; rfl) (hashArr_one _) ?_)
          refine bodyPost_ret (v := .tuple #[.agg (hashArr y), .bool true]) (results_row_slot' Tryd.results43 _ _ w.heap.size 24 (hashArr y) (0, 0) _ _ rfl rfl (setRow_heap _ _ _ _ _ _ R8.out) Tryd.underlying24 rfl (hash_info _ LY.out)) rfl ?_
          exact ⟨by rw [er.out], below_setRow BQ.out (Nat.le_refl _) _⟩
end
end
section
def ShortW (l : List ByteArray) : Prop := ∀ s ∈ l, s.size ≤ 140737488354000
theorem ShortW.getD {l : List ByteArray} (h : ShortW l) (i : Nat) : (l.getD i ByteArray.empty).size ≤ 140737488354000 := by
  rw [List.getD_eq_getElem?_getD]
  cases hq : l[i]? with
  | none => exact Nat.zero_le _
  | some s => exact h s (List.mem_of_getElem? hq)
/-- a slice that reads as a list of strings -/
def StrsW (W : World) (v : Value) (l : List ByteArray) : Prop :=
  ShortW l ∧ ((l = [] ∧ ∃ a c, v = .slice a 0 c) ∨ ∃ b o c, v = .slice (some ⟨b, o, none⟩) l.length c ∧ 1 ≤ l.length ∧ l.length ≤ c ∧ c ≤ 9223372036854775807 ∧ SAt W b o l)
theorem StrsW.below {W w1 : World} {v : Value} {l : List ByteArray} (h : StrsW W v l) (hb : Below W.heap.size W w1) : StrsW w1 v l := by
  obtain ⟨h1, h2 | ⟨b, o, c, e, h3, h4, h5, h6⟩⟩ := h
  · exact ⟨h1, .inl h2⟩
  · exact ⟨h1, .inr ⟨b, o, c, e, h3, h4, h5, h6.below hb⟩⟩
theorem strs_slW {W : World} {v : Value} {l : List ByteArray} (h : StrsW W v l) : ∃ a c, v = .slice a l.length c := by
  obtain ⟨_, ⟨rfl, a, c, rfl⟩ | ⟨b, o, c, rfl, _⟩⟩ := h
  · exact ⟨a, c, rfl⟩
  · exact ⟨_, c, rfl⟩
set_option maxHeartbeats 4000000 in
set_option maxRecDepth 100000 in
theorem clash_wide (ss : List ByteArray) (v : Value) (w : World) (hv : StrsW w v ss) (hn : ss.length ≤ 100000) :
    Calls Tryd.prog 27 #[v] w fun e w' => ∃ b, e = .returned (.bool b) ∧ (NoClash ss ∨ b = true) ∧ Below w.heap.size w w' := by
  obtain ⟨av, cv, rfl⟩ := strs_slW hv
  obtain ⟨n, en⟩ : ∃ n, ss.length = n := ⟨_, rfl⟩
  rw [en] at hv hn ⊢
  have EN := Lib.hid en
  have HV := Lib.hid hv
  clear hv en
  go_enter Tryd.func27, Tryd.ntmps27
  go_wp2_with fail
  go_loopw [3] (fun x wr => ∃ a : Nat, a ≤ n ∧ x = .int .i64 a ∧ Below w.heap.size w wr ∧ Hid (∀ i, i < a → ∀ j, j < i → NoneTill ss i j)) (fun x _ => n - (intOf x).toNat)
  case atStart => exact ⟨0, by omega, rfl, Below.refl _ _, fun i hi => by omega⟩
  case round =>
    obtain ⟨a, ha, rfl, hbw, hno⟩ := hrel
    by_cases han : a < n
    · have hda : decide ((a : Int) < (n : Int)) = true := by simp; omega
      have HB := Lib.hid hbw
      clear hbw
      go_wp2_with fail
      go_loopw [4] (fun x wr => ∃ b : Nat, b ≤ a ∧ x = .int .i64 b ∧ Below w.heap.size w wr ∧ Hid (∀ j, j < b → NoneTill ss a j)) (fun x _ => a - (intOf x).toNat)
      case atStart => exact ⟨0, by omega, rfl, HB.out, fun j hj => by omega⟩
      case round =>
        obtain ⟨b, hb, rfl, hbw2, hno2⟩ := hrel
        clear HB
        by_cases hba : b < a
        · have hdb : decide ((b : Int) < (a : Int)) = true := by simp; omega
          have r1 : (0 : Int) ≤ (a : Int) := by omega
          have r2 : (a : Int) < (n : Int) := by omega
          have r3 : (a : Int).toNat = a := by omega
          have t1 : (0 : Int) ≤ (b : Int) := by omega
          have t2 : (b : Int) < (n : Int) := by omega
          have t3 : (b : Int).toNat = b := by omega
          have w1 : IntKind.i64.wrap ((b : Int) + 1) = (b : Int) + 1 := IntWalk.i64_in _ (by omega)
          obtain ⟨hsh, ⟨e, _⟩ | ⟨b', o, c', e, _, _, _, sa⟩⟩ := HV.out.below hbw2
          · have := EN.out; rw [e] at this; simp at this; omega
          injection e with e1 e2 e3
          subst e1 e3
          have s1 := sa a (by rw [EN.out]; exact han)
          have s2 := sa b (by rw [EN.out]; omega)
          have zs1 := hsh.getD a
          have zs2 := hsh.getD b
          obtain ⟨x, ex⟩ : ∃ x, ss.getD a ByteArray.empty = x := ⟨_, rfl⟩
          obtain ⟨y, ey⟩ : ∃ y, ss.getD b ByteArray.empty = y := ⟨_, rfl⟩
          rw [ex] at s1 zs1
          rw [ey] at s2 zs2
          have EX := Lib.hid ex
          have EY := Lib.hid ey
          have p1 : ∀ d os, (grow (redrawn wr d) os).cell? ⟨b', o + a, none⟩ = some (.string x) := fun d os => ((below_regrown wr d os).cell (p := ⟨b', o + a, none⟩) (block_lt_of_cell s1)).trans s1
          have p2 : ∀ d os, (grow (redrawn wr d) os).cell? ⟨b', o + b, none⟩ = some (.string y) := fun d os => ((below_regrown wr d os).cell (p := ⟨b', o + b, none⟩) (block_lt_of_cell s2)).trans s2
          have HBW := Lib.hid hbw2
          have CX := Lib.hid (fun (W : World) => rsum_any x W (by omega))
          have CY := Lib.hid (fun (W : World) => rsum_any y W (by omega))
          have heq := fun W => hash_eql (Sha.sum x.data.toList) (Sha.sum y.data.toList) (Sha.sum_length _) (Sha.sum_length _) W
          obtain ⟨hx, ehx⟩ : ∃ h, Sha.sum x.data.toList = h := ⟨_, rfl⟩
          obtain ⟨hy, ehy⟩ : ∃ h, Sha.sum y.data.toList = h := ⟨_, rfl⟩
          rw [ehx] at CX
          rw [ehy] at CY
          rw [ehx, ehy] at heq
          have EHX := Lib.hid ehx
          have EHY := Lib.hid ehy
          clear sa hsh e2 hbw2 zs1 zs2 ex ey ehx ehy
          by_cases hxy : x = y
          · subst hxy
            go_wp2_with fail
            refine wp_region_quiet_below (by kernel_rfl) (by kernel_rfl) ?_
            repeat (go_big_quiet_step (fail))
            refine wpQuiet_nil ?_
            intro _ hw'
            obtain ⟨⟨dq, osq⟩, hw''⟩ := hw'
            subst hw''
            have hq2 := below_regrown wr dq osq
            have BR := Lib.hid (below_join HBW.out hq2)
            clear hq2
            generalize grow (redrawn wr dq) osq = WQ at *
            go_wp2_with fail
            go_roundw
            case rel => exact ⟨b + 1, by omega, by go_num, BR.out, fun j hj => by
              by_cases hjb : j = b
              · subst hjb; exact .inl (EX.out.trans EY.out.symm)
              · exact hno2.out j (by omega)⟩
            case measure => simp [intOf]; omega
          · have hq := list_neq x y hxy
            by_cases hh : hx = hy
            · subst hh
              have hqq : (hx == hx) = true := by simp
              rw [hqq] at heq
              clear hqq
              go_wp2_with fail
              refine wp_region_quiet_below (by kernel_rfl) (by kernel_rfl) ?_
              repeat (go_big_quiet_step ((first | with_reducible exact Calls.regrown_of (CX.out _) | with_reducible exact Calls.regrown_of (CY.out _))))
              refine wpQuiet_nil ?_
              intro _ hw'
              obtain ⟨⟨dq, osq⟩, hw''⟩ := hw'
              subst hw''
              have hq2 := below_regrown wr dq osq
              have BR := Lib.hid (below_join HBW.out hq2)
              clear hq2
              generalize grow (redrawn wr dq) osq = WQ at *
              go_wp2_with fail
              go_ret
              exact ⟨_, rfl, .inr rfl, BR.out⟩
            · have hqq : (hx == hy) = false := by simpa using hh
              rw [hqq] at heq
              have HH := Lib.hid hh
              clear hqq hh
              go_wp2_with fail
              refine wp_region_quiet_below (by kernel_rfl) (by kernel_rfl) ?_
              repeat (go_big_quiet_step ((first | with_reducible exact Calls.regrown_of (CX.out _) | with_reducible exact Calls.regrown_of (CY.out _))))
              refine wpQuiet_nil ?_
              intro _ hw'
              obtain ⟨⟨dq, osq⟩, hw''⟩ := hw'
              subst hw''
              have hq2 := below_regrown wr dq osq
              have BR := Lib.hid (below_join HBW.out hq2)
              clear hq2
              generalize grow (redrawn wr dq) osq = WQ at *
              go_wp2_with fail
              go_roundw
              case rel => exact ⟨b + 1, by omega, by go_num, BR.out, fun j hj => by
                by_cases hjb : j = b
                · subst hjb
                  refine .inr ?_
                  rw [EX.out, EY.out, EHX.out, EHY.out]
                  exact HH.out
                · exact hno2.out j (by omega)⟩
              case measure => simp [intOf]; omega
        · obtain rfl : b = a := by omega
          have hdb : decide ((b : Int) < (b : Int)) = false := by simp
          have w1 : IntKind.i64.wrap ((b : Int) + 1) = (b : Int) + 1 := IntWalk.i64_in _ (by omega)
          have HBW := Lib.hid hbw2
          clear hbw2
          go_wp2_with fail
          go_roundw
          case rel => exact ⟨b + 1, by omega, by go_num, HBW.out, fun i hi j hj => by
            by_cases hib : i = b
            · subst hib; exact hno2.out j hj
            · exact hno.out i (by omega) j hj⟩
          case measure => simp [intOf]; omega
    · obtain rfl : a = n := by omega
      have hda : decide ((a : Int) < (a : Int)) = false := by simp
      have HBW := Lib.hid hbw
      clear hbw
      go_wp2_with fail
      go_ret
      exact ⟨_, rfl, .inl (fun i hi j hj => hno.out i (by rw [← EN.out]; exact hi) j hj), HBW.out⟩
end
section
/-- 'string(a[:])' of a hash in the middle of a block -/
theorem conv_mid {w : World} {b o : Nat} {l : List UInt8} (hl : l.length = 32) (hb : w.rangeAt b o (hashArr l).toList) :
    (convert 30 9 (.slice (some ⟨b, o, none⟩) 32 32)).run Tryd.prog w = .ok (.string ⟨l.toArray⟩) w := by
  rw [run_convert_bytes_string w 30 9 5 _ 32 32 Tryd.underlying30 Tryd.underlying5 Tryd.underlying9, run_bytesToString w ⟨b, o, none⟩ 32 32 (l.map fun (x : UInt8) => (x.toNat : Int)) ?_]
  · rw [fold_push]
    have e : (ByteArray.empty.data.toList ++ (l.map fun (x : UInt8) => (x.toNat : Int)).map fun n => UInt8.ofNat n.toNat) = l := by
      rw [List.map_map]
      show [] ++ _ = l
      rw [List.nil_append]
      have : ((fun (n : Int) => UInt8.ofNat n.toNat) ∘ fun (x : UInt8) => (x.toNat : Int)) = id := by funext x; simp
      rw [this, List.map_id]
    rw [e]
  · have h := run_loadCells_list (P := Tryd.prog) w ⟨b, o, none⟩ (hashArr l).toList (fun j v hv => by
      have := hb j v hv
      rw [← this]
      congr 1
      unfold Addr.add; split <;> simp_all)
    rw [show (hashArr l).toList.length = 32 by rw [Array.length_toList, hashArr_size, hl]] at h
    rw [h]
    simp [hashArr, Function.comp_def]
def pinS (f : Nat) (s : ByteArray) (i n : Nat) (hs : List Tree.H) (j : Nat) : List ByteArray := ((0 :: s.data.toList) :: (List.range j).map fun t => Tree.joinV (Tree.belowV f (Tree.leaf s) i n hs (t + 1)) (hs.getD t [])).map bytesOf
theorem pinS_succ (f : Nat) (s : ByteArray) (i n : Nat) (hs : List Tree.H) (j : Nat) : pinS f s i n hs (j + 1) = pinS f s i n hs j ++ [bytesOf (Tree.joinV (Tree.belowV f (Tree.leaf s) i n hs (j + 1)) (hs.getD j []))] := by
  unfold pinS; rw [List.range_succ, List.map_append, ← List.cons_append, List.map_append]; rfl
theorem pinS_len (f : Nat) (s : ByteArray) (i n : Nat) (hs : List Tree.H) (j : Nat) : (pinS f s i n hs j).length = j + 1 := by simp [pinS]
section
attribute [local go_sem ↓] wp_alloc_hash Go.wp_at_zero Go.wp_at_succ wp_load_at
set_option maxHeartbeats 4000000 in
set_option maxRecDepth 100000 in
theorem rpathin_any (f i n m c : Nat) (a : Option Addr) (hs : List Tree.H) (s : ByteArray) (w : World) (hi : i < n) (hf : n ≤ 2 ^ f) (h63 : f ≤ 63) (hnm : n ≤ 9223372036854775807) (hp : IsHs w (.slice a m c) hs) (hm : hs.length = m) (hd : m = Tree.depth f i n) (hsz : s.size ≤ 140737488354000) :
    Calls Tryd.prog 26 #[.int .i64 (i : Int), .int .i64 (n : Int), .string s, .slice a m c] w (NewS ((Tree.pathIn f s i n hs).map bytesOf) w) := by
  have EP : Hid ((Tree.pathIn f s i n hs).map bytesOf = pinS f s i n hs m) := by show _ = _; rw [Tree.pathIn_is f s i n hs hi hf (by omega), hm]; rfl
  have hml : m ≤ 63 := by have := Tree.depth_le f i n; omega
  obtain ⟨x, hx⟩ : ∃ x, Tree.leaf s = x := ⟨_, rfl⟩
  obtain ⟨x0, e0⟩ : ∃ x, (⟨#[0]⟩ : ByteArray) ++ s = x := ⟨_, rfl⟩
  have E0 : Hid (pinS f s i n hs 0 = [x0]) := by
    show [bytesOf (0 :: s.data.toList)] = _
    have h1 : bytesOf (0 :: s.data.toList) = x0 := by
      rw [← e0]
      have : ((⟨#[0]⟩ : ByteArray) ++ s).data.toList = 0 :: s.data.toList := one_append 0 s
      rw [← this]
      show (⟨_⟩ : ByteArray) = _
      rw [Array.toArray_toList]
    rw [h1]
  have n0 : ¬ 9223372036854775807 < 1 + s.size := by omega
  have HP := Lib.hid hp
  have HM := Lib.hid hm
  have HD := Lib.hid hd
  have HF := Lib.hid hf
  have L0 : Hid ((hashArr Tree.zero).size = 32) := by show _ = _; rw [hashArr_size]; exact zero_length
  have HX := Lib.hid hx
  clear hp hm hd hf hx
  go_enter Tryd.func26, Tryd.ntmps26
  go_wp2_with fail
  go_loopw [9, 10] (fun v9 v10 wr => ∃ j : Nat, j ≤ m ∧ v10 = .int .i64 ((j : Int) + 1) ∧ OwnsS wr w.heap.size v9 (pinS f s i n hs j) ∧ Below w.heap.size w wr) (fun _ v10 _ => m + 1 - (intOf v10).toNat)
  case atStart => exact ⟨0, by omega, rfl, by rw [E0.out]; exact ⟨rfl, .inr ⟨w.heap.size, 1, #[.string x0], rfl, Nat.le_refl _, heap_alloc_new _ _, Nat.le_refl _, by unfold maxLen; omega, rfl, rfl⟩⟩, (Below.refl _ _).alloc (Nat.le_refl _) _⟩
  case round =>
    obtain ⟨j, hj, rfl, hown, hbw⟩ := hrel
    by_cases hjm : j < m
    · have dj : decide ((j : Int) + 1 ≤ (m : Int)) = true := by simp; omega
      obtain ⟨r, er⟩ : ∃ r, Tree.belowV f (Tree.leaf s) i n hs (j + 1) = r := ⟨_, rfl⟩
      have lr : r.1.length = 32 := by rw [← er]; exact Tree.belowV_len _ _ _ _ _ _ (Tree.leaf_length s)
      have hp0 := HP.out.1
      obtain ⟨b, o, rfl, hmc, hc, hel⟩ := (HP.out.below hbw).last HM.out (by omega)
      have CB := Lib.hid (rbelow_any f i n j m c (some ⟨b, o, none⟩) hs s x r wr hi HF.out h63 hnm (HP.out.below hbw) HM.out (by omega) (by have := HD.out; omega) hsz HX.out (by rw [← HX.out]; exact er))
      have hz := hel j hjm
      have r1 : (0 : Int) ≤ (j : Int) := by omega
      have r2 : (j : Int) < (m : Int) := by omega
      have r3 : (j : Int).toNat = j := by omega
      have q0 : IntKind.i64.wrap ((j : Int) + 1 - 1) = (j : Int) := by rw [show (j : Int) + 1 - 1 = (j : Int) by omega]; exact IntWalk.i64_in _ (by omega)
      have q1 : IntKind.i64.wrap (j : Int) = (j : Int) := IntWalk.i64_in _ (by omega)
      obtain ⟨h, q⟩ := r
      have LR : Hid (h.length = 32) := lr
      have ER := Lib.hid er
      have HBW := Lib.hid hbw
      have HZ0 := Lib.hid hz
      have OWN := Lib.hid hown
      clear er hbw hz hown lr hel
      go_wp2_with fail
      refine CB.out.mono ?_
      rintro e w1 ⟨rfl, hb1⟩
      have B1 := Lib.hid (below_join HBW.out hb1)
      have O1 := Lib.hid (OWN.out.below hb1)
      have HZ := Lib.hid (range_below HZ0.out hb1)
      clear hb1 CB HBW OWN HZ0
      cases q with
      | true =>
        have LY := Lib.hid (hp0.getD j (by rw [HM.out]; omega))
        go_wp2_with ((with_reducible refine op_is ⟨none, .store 24 (.tmp 11) (.tmp 29), _, _, _, _⟩ ?_); refine store_hash LR.out L0.out (.tmp 11) (.tmp 29) rfl rfl rfl rfl rfl ?_)
        have bw : Below w1.heap.size w1 (w1.alloc (.cells (hashArr h) 24)) := (Below.refl _ _).alloc (Nat.le_refl _) _
        have T11 := Lib.hid (heap_alloc_new w1 (.cells (hashArr h) 24))
        have B2 := Lib.hid (below_join B1.out bw)
        have O2 := Lib.hid (O1.out.below bw)
        have Z2 := Lib.hid (range_below HZ.out bw)
        clear bw B1 O1 HZ
        generalize w1.alloc (.cells (hashArr h) 24) = W2 at *
        obtain ⟨z, ez⟩ : ∃ z, hs.getD j [] = z := ⟨_, rfl⟩
        rw [ez] at LY Z2
        have EZ := Lib.hid ez
        clear ez
        obtain ⟨sa, esa⟩ : ∃ s : ByteArray, (⟨z.toArray⟩ : ByteArray) = s := ⟨_, rfl⟩
        obtain ⟨sb, esb⟩ : ∃ s : ByteArray, (⟨h.toArray⟩ : ByteArray) = s := ⟨_, rfl⟩
        have za : sa.size = 32 := by rw [← esa]; simp [ByteArray.size, LY.out]
        have zb : sb.size = 32 := by rw [← esb]; simp [ByteArray.size, LR.out]
        have n1 : ¬ 9223372036854775807 < 1 + sa.size := by omega
        have n2 : ¬ 9223372036854775807 < 1 + sa.size + sb.size := by omega
        obtain ⟨xx, exx⟩ : ∃ x, (⟨#[1]⟩ : ByteArray) ++ sa ++ sb = x := ⟨_, rfl⟩
        have EXX : Hid (bytesOf (1 :: (z ++ h)) = xx) := by
          show _ = _
          rw [← exx, ← esa, ← esb]
          have := node_text z h
          show (⟨_⟩ : ByteArray) = _
          rw [← this, Array.toArray_toList]
        have bd : Below W2.heap.size W2 W2.drew := (Below.refl _ _).drew
        have bdx : Below W2.heap.size W2 (W2.alloc (.cells #[.string xx] 9)).drew := ((Below.refl _ _).alloc (Nat.le_refl _) _).drew
        have c1 := conv_hash LR.out (heap_below T11.out bd)
        have c2 := conv_mid LY.out (range_below Z2.out bd)
        rw [esb] at c1
        rw [esa] at c2
        have HGS : Hid ((pinS f s i n hs j).length ≤ 100000) := by show _ ≤ _; rw [pinS_len]; omega
        have OX := Lib.hid (O2.out.below bdx)
        have NB : Hid ((W2.alloc (.cells #[.string xx] 9)).drew.heap[W2.heap.size]? = some (.cells #[.string xx] 9 (0, 0))) := heap_alloc_new W2 _
        have B3 := Lib.hid (below_join B2.out bdx)
        have SZ : Hid (w.heap.size ≤ (W2.alloc (.cells #[.string xx] 9)).drew.heap.size) := Nat.le_trans B2.out.size bdx.size
        clear bd bdx esa esb za zb
        go_region_law (refine step_append_str2 (by rfl) (.tmp 32) (.tmp 43) (by rfl) w.heap.size _ _ xx W2.heap.size (by rfl) (by rfl) OX.out NB.out HGS.out SZ.out ?_; intro g cap w6 hown6 hgrow6 hg6)
        all_goals
          go_wp2_with fail
          go_roundw
          case rel => exact ⟨j + 1, by omega, by go_num, by rw [pinS_succ, ER.out, Tree.joinV]; rw [if_pos rfl, EZ.out]; show OwnsS _ _ _ (_ ++ [bytesOf (1 :: (z ++ h))]); rw [EXX.out]; exact hown6, B3.out.grown hgrow6 B3.out.size (fun k hk => (OX.out.lt k hk).1)⟩
          case measure => simp [intOf]; omega
      | false =>
        have LY := Lib.hid (hp0.getD j (by rw [HM.out]; omega))
        go_wp2_with ((with_reducible refine op_is ⟨none, .store 24 (.tmp 11) (.tmp 29), _, _, _, _⟩ ?_); refine store_hash LR.out L0.out (.tmp 11) (.tmp 29) rfl rfl rfl rfl rfl ?_)
        have bw : Below w1.heap.size w1 (w1.alloc (.cells (hashArr h) 24)) := (Below.refl _ _).alloc (Nat.le_refl _) _
        have T11 := Lib.hid (heap_alloc_new w1 (.cells (hashArr h) 24))
        have B2 := Lib.hid (below_join B1.out bw)
        have O2 := Lib.hid (O1.out.below bw)
        have Z2 := Lib.hid (range_below HZ.out bw)
        clear bw B1 O1 HZ
        generalize w1.alloc (.cells (hashArr h) 24) = W2 at *
        obtain ⟨z, ez⟩ : ∃ z, hs.getD j [] = z := ⟨_, rfl⟩
        rw [ez] at LY Z2
        have EZ := Lib.hid ez
        clear ez
        obtain ⟨sa, esa⟩ : ∃ s : ByteArray, (⟨h.toArray⟩ : ByteArray) = s := ⟨_, rfl⟩
        obtain ⟨sb, esb⟩ : ∃ s : ByteArray, (⟨z.toArray⟩ : ByteArray) = s := ⟨_, rfl⟩
        have za : sa.size = 32 := by rw [← esa]; simp [ByteArray.size, LR.out]
        have zb : sb.size = 32 := by rw [← esb]; simp [ByteArray.size, LY.out]
        have n1 : ¬ 9223372036854775807 < 1 + sa.size := by omega
        have n2 : ¬ 9223372036854775807 < 1 + sa.size + sb.size := by omega
        obtain ⟨xx, exx⟩ : ∃ x, (⟨#[1]⟩ : ByteArray) ++ sa ++ sb = x := ⟨_, rfl⟩
        have EXX : Hid (bytesOf (1 :: (h ++ z)) = xx) := by
          show _ = _
          rw [← exx, ← esa, ← esb]
          have := node_text h z
          show (⟨_⟩ : ByteArray) = _
          rw [← this, Array.toArray_toList]
        have bd : Below W2.heap.size W2 W2.drew := (Below.refl _ _).drew
        have bdx : Below W2.heap.size W2 (W2.alloc (.cells #[.string xx] 9)).drew := ((Below.refl _ _).alloc (Nat.le_refl _) _).drew
        have c1 := conv_hash LR.out (heap_below T11.out bd)
        have c2 := conv_mid LY.out (range_below Z2.out bd)
        rw [esa] at c1
        rw [esb] at c2
        have HGS : Hid ((pinS f s i n hs j).length ≤ 100000) := by show _ ≤ _; rw [pinS_len]; omega
        have OX := Lib.hid (O2.out.below bdx)
        have NB : Hid ((W2.alloc (.cells #[.string xx] 9)).drew.heap[W2.heap.size]? = some (.cells #[.string xx] 9 (0, 0))) := heap_alloc_new W2 _
        have B3 := Lib.hid (below_join B2.out bdx)
        have SZ : Hid (w.heap.size ≤ (W2.alloc (.cells #[.string xx] 9)).drew.heap.size) := Nat.le_trans B2.out.size bdx.size
        clear bd bdx esa esb za zb
        go_region_law (refine step_append_str2 (by rfl) (.tmp 45) (.tmp 56) (by rfl) w.heap.size _ _ xx W2.heap.size (by rfl) (by rfl) OX.out NB.out HGS.out SZ.out ?_; intro g cap w6 hown6 hgrow6 hg6)
        all_goals
          go_wp2_with fail
          go_roundw
          case rel => exact ⟨j + 1, by omega, by go_num, by rw [pinS_succ, ER.out, Tree.joinV]; rw [if_neg (by simp), EZ.out]; show OwnsS _ _ _ (_ ++ [bytesOf (1 :: (h ++ z))]); rw [EXX.out]; exact hown6, B3.out.grown hgrow6 B3.out.size (fun k hk => (OX.out.lt k hk).1)⟩
          case measure => simp [intOf]; omega
    · have dj : decide ((j : Int) + 1 ≤ (m : Int)) = false := by simp; omega
      obtain rfl : j = m := by omega
      have HBW := Lib.hid hbw
      have OWN := Lib.hid hown
      clear hbw hown
      go_wp2_with fail
      go_ret
      exact ⟨_, rfl, by rw [EP.out]; exact OWN.out, HBW.out⟩
end
end
end Go.Proofs.YtjedhmoehepbnaaDoor
