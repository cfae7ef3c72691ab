/- The walk of the law TreeExtends. -/
import Derived.Test.YtjedhmoehepbnaaDoorTreeGIn
import Derived.Test.YtjedhmoehepbnaaDoorTreeInside
import Derived.Test.YtjedhmoehepbnaaDoorGrowsKit
import Derived.Test.YtjedhmoehepbnaaDoorTreeBentF
import Derived.Deep.Cut
import Derived.Deep.CutBlock
namespace Go.Proofs.YtjedhmoehepbnaaDoor
open Go.RowKit Go.Sort
set_option linter.unusedVariables false
section
namespace Tree
theorem insideL_length : ∀ (f : Nat) (l : List ByteArray), (insideL f l).length + 1 ≤ 2 ^ (f + 1) := by
  have small : ∀ l, (smallIn l).length = 1 := fun l => by cases l <;> rfl
  intro f
  induction f with
  | zero => intro l; rw [insideL, small]; decide
  | succ f ih =>
    intro l
    rw [insideL]
    have h2 : (2 : Nat) ^ (f + 1) ≥ 2 := by rw [Nat.pow_succ]; have := Nat.pow_pos (n := f) (show 0 < 2 by omega); omega
    split
    · rw [small, Nat.pow_succ]; omega
    · have a := ih (l.take (half l.length))
      have b := ih (l.drop (half l.length))
      rw [Nat.pow_succ]
      simp only [List.length_append, List.length_cons, List.length_nil]
      omega
theorem insideL_short : ∀ (f : Nat) (l : List ByteArray) (N : Nat), 64 ≤ N → (∀ s ∈ l, s.size ≤ N) → ∀ x ∈ insideL f l, x.length ≤ N + 1 := by
  have small : ∀ (l : List ByteArray) (N : Nat), (∀ s ∈ l, s.size ≤ N) → ∀ x ∈ smallIn l, x.length ≤ N + 1 := by
    intro l N h x hx
    cases l with
    | nil => simp [smallIn] at hx; subst hx; simp
    | cons s l =>
      simp [smallIn] at hx
      subst hx
      have := h s (by simp)
      simp; exact this
  intro f
  induction f with
  | zero => intro l N hN h x hx; exact small l N h x hx
  | succ f ih =>
    intro l N hN h x hx
    rw [insideL] at hx
    split at hx
    · exact small l N h x hx
    · simp only [List.mem_append, List.mem_singleton] at hx
      rcases hx with (hx | hx) | rfl
      · exact ih _ N hN (fun s hs => h s (List.mem_of_mem_take hs)) x hx
      · exact ih _ N hN (fun s hs => h s (List.mem_of_mem_drop hs)) x hx
      · simp only [List.length_cons, List.length_append, root_length]; omega
theorem growIn_short : ∀ (f m n : Nat) (b : Bool) (old : H) (p : List H), (∀ h ∈ p, h.length = 32) → old.length = 32 → 1 ≤ m → m ≤ n → n ≤ 2 ^ f → p.length = many f m n b → ∀ x ∈ growIn f m n b old p, x.length = 65 := by
  intro f
  induction f with
  | zero => intro m n b old p _ _ _ _ _ _ x hx; simp [growIn] at hx
  | succ f ih =>
    intro m n b old p he ho h1 hmn hf hl x hx
    rw [growIn] at hx
    rw [many] at hl
    split at hx
    · simp at hx
    · rename_i hne
      rw [if_neg hne] at hl
      have hk0 := half_pos n
      have hk1 := half_lt n (by omega)
      have hf1 := half_pow n f (by omega) hf
      have hf2 := rest_pow n f (by omega) hf
      have hT : ∀ h ∈ p.take (p.length - 1), h.length = 32 := fun h hh => he h (List.mem_of_mem_take hh)
      split at hx
      · rename_i hik
        rw [if_pos hik] at hl
        have hlt : (p.take (p.length - 1)).length = many f m (half n) b := by rw [List.length_take]; omega
        have hlast := last_len p he (by omega)
        have hb := both_len f m (half n) b old _ hT ho h1 hik hf1 hlt
        simp only [List.mem_append, List.mem_singleton] at hx
        rcases hx with hx | rfl
        · exact ih m (half n) b old _ hT ho h1 hik hf1 hlt x hx
        · simp only [List.length_cons, List.length_append, hb.2, hlast]
      · rename_i hik
        rw [if_neg hik] at hl
        have hlt : (p.take (p.length - 1)).length = many f (m - half n) (n - half n) false := by rw [List.length_take]; omega
        have hlast := last_len p he (by omega)
        have hb := both_len f (m - half n) (n - half n) false old _ hT ho (by omega) (by omega) hf2 hlt
        simp only [List.mem_append, List.mem_cons, List.not_mem_nil, or_false] at hx
        rcases hx with hx | rfl | rfl
        · exact ih (m - half n) (n - half n) false old _ hT ho (by omega) (by omega) hf2 hlt x hx
        · simp only [List.length_cons, List.length_append, hb.1, hlast]
        · simp only [List.length_cons, List.length_append, hb.2, hlast]
end Tree
theorem short_map (L : List Tree.S) (h : ∀ x ∈ L, x.length ≤ 100000) : Short (L.map bytesOf) := by
  intro s hs
  obtain ⟨x, hx, rfl⟩ := List.mem_map.1 hs
  have := h x hx
  show x.toArray.size ≤ _
  simp; omega
theorem words_size (xs : List UInt8) (k : Nat) : ∀ s ∈ Tree.words xs k, s.size ≤ 64 := by
  intro s hs
  obtain ⟨i, _, rfl⟩ := List.mem_map.1 hs
  rw [word_size]; omega
/-- if grows says yes of lists of which the first is no beginning of the second, the hashed strings hold a collision -/
theorem grows_told (s t : List ByteArray) (ms mt : Nat) (r1 r2 : Tree.H) (a : Option Addr) (m c : Nat) (hs : List Tree.H) (w : World) (ls : s.length = ms) (lt : t.length = mt) (hms : ms ≤ 20) (hmt : mt ≤ 20) (hle : ms ≤ mt) (h1 : 1 ≤ ms) (hr1 : Tree.root 5 s = r1) (hr2 : Tree.root 5 t = r2) (hp : IsHs w (.slice a m c) hs) (hm : hs.length = m) (hT : Tabs w) (hne : s ≠ t.take ms) :
    ∃ b, (∀ W, Below w.heap.size w W → Calls Tryd.prog 32 #[.agg (headArr (ms : Int) r1), .agg (headArr (mt : Int) r2), .slice a m c] W fun e w' => e = .returned (.bool b) ∧ Below W.heap.size W w') ∧
      (b = true → (ms = mt ∧ Tree.Clashes (Tree.insideL 5 s ++ Tree.insideL 5 t)) ∨ (ms < mt ∧ m = Tree.many 5 ms mt true ∧ Tree.Clashes (Tree.insideL 5 s ++ Tree.insideL 5 t ++ Tree.growIn 5 ms mt true r1 hs))) := by
  have lr1 : r1.length = 32 := by rw [← hr1]; exact Tree.root_length _ _
  have lr2 : r2.length = 32 := by rw [← hr2]; exact Tree.root_length _ _
  have p5 : (2 : Nat) ^ 5 = 32 := rfl
  by_cases he : ms = mt
  · subst he
    refine ⟨_, fun W g => grows_any ms ms r1 r2 _ _ W lr1 lr2 (fun V g' => grow_eq ms r1 r2 a m c V (by omega) lr1 lr2 _ rfl), fun hb => .inl ⟨rfl, ?_⟩⟩
    simp only [Bool.and_eq_true, beq_iff_eq] at hb
    rcases Tree.roots_bind 5 s t (by omega) (by omega) (by rw [hr1, hr2]; exact hb.1) with h | h
    · exact absurd (by rw [h, List.take_of_length_le (by omega)]) hne
    · exact h
  · have hlt : ms < mt := by omega
    refine ⟨_, fun W g => grows_any ms mt r1 r2 _ _ W lr1 lr2 (fun V g' => grow_yes 5 ms mt r1 r2 a m c hs V _ (hp.below (below_join g g')) hm (hT.below (below_join g g')) lr1 lr2 h1 hlt (by omega) (by omega) rfl), fun hb => .inr ⟨hlt, ?_⟩⟩
    unfold Tree.grown at hb
    simp only [Bool.and_eq_true, beq_iff_eq] at hb
    obtain ⟨⟨hb1, hb2⟩, hb3⟩ := hb
    refine ⟨by omega, ?_⟩
    have := Tree.extends_ 5 s t true r1 hs (by omega) (by omega) (by omega) (by rw [ls, lt]; exact hb1) hp.1 lr1 (by rw [ls, lt, hr1]; exact hb2) (by rw [ls, lt, hr2]; exact hb3)
    rw [ls, lt] at this
    rcases this with h | h
    · exact absurd h hne
    · exact h
end
section
/-- what the first loop has found -/
def Begun (s t : List ByteArray) (ms mt : Nat) (B : Bool) : Prop := (B = true → ms ≤ mt) ∧ (B = false → mt < ms ∨ s ≠ t.take ms)
theorem Begun.no {s t : List ByteArray} {ms k : Nat} (ht : k < ms) (hne : ¬ s.getD k ByteArray.empty = t.getD k ByteArray.empty) : s ≠ t.take ms := by
  intro e
  apply hne
  rw [e, List.getD_eq_getElem?_getD, List.getD_eq_getElem?_getD, List.getElem?_take, if_pos ht]
theorem strs_get {W : World} {a : Option Addr} {n c k : Nat} {l : List ByteArray} (h : IsStrs W (.slice a n c) l) (hl : l.length = n) (hk : k < n) : ∃ b o, a = some ⟨b, o, none⟩ ∧ W.cell? ⟨b, o + k, none⟩ = some (.string (l.getD k ByteArray.empty)) := by
  obtain ⟨hsh, ⟨e, _⟩ | ⟨b', o, c', e, _, _, _, sa⟩⟩ := h
  · rw [e] at hl; simp at hl; omega
  · injection e with e1 e2 e3
    exact ⟨b', o, e1, sa k (by omega)⟩
theorem inside_two_lists (s t : List ByteArray) : [s, t].flatMap (insideS 5) = (Tree.insideL 5 s ++ Tree.insideL 5 t).map bytesOf := by simp [insideS]
theorem inside_two_len (s t : List ByteArray) : (Tree.insideL 5 s ++ Tree.insideL 5 t).length ≤ 200 := by
  have a := Tree.insideL_length 5 s
  have b := Tree.insideL_length 5 t
  have e : (2 : Nat) ^ (5 + 1) = 64 := rfl
  rw [List.length_append]; omega
theorem inside_two_short (s t : List ByteArray) (hs : ∀ x ∈ s, x.size ≤ 64) (ht : ∀ x ∈ t, x.size ≤ 64) : ∀ x ∈ Tree.insideL 5 s ++ Tree.insideL 5 t, x.length ≤ 100000 := by
  intro x hx
  rcases List.mem_append.1 hx with hx | hx
  · have := Tree.insideL_short 5 s 64 (by omega) hs x hx; omega
  · have := Tree.insideL_short 5 t 64 (by omega) ht x hx; omega
theorem lists_two {w : World} {v1 v2 : Value} {s t : List ByteArray} {p : Nat} {ty : TypeId} (hp : w.heap[p]? = some (.cells #[v1, v2] ty (0, 0))) (h1 : IsStrs w v1 s) (h2 : IsStrs w v2 t) : ListsAt w p [s, t] := by
  intro i hi
  have : i = 0 ∨ i = 1 := by simp at hi; omega
  rcases this with rfl | rfl
  · exact ⟨v1, (cell_of_row _ _ 0 _ _ _ hp).trans rfl, h1⟩
  · exact ⟨v2, (cell_of_row _ _ 1 _ _ _ hp).trans rfl, h2⟩
theorem grown_ownS {W V w' : World} {v : Value} {hs : List ByteArray} {B : Nat} (hb : Below W.heap.size W V) (ho : OwnsS V B v hs) (hB : W.heap.size ≤ B) (hg : V.grownBy w' v.ownBlock) : Below W.heap.size W w' :=
  hb.grown hg hb.size (fun k hk => Nat.le_trans hB (ho.block k hk))
def IsHead (v : Value) : Prop := ∃ (n : Int) (l : Tree.H), v = .agg (headArr n l) ∧ l.length = 32
theorem isHead (n : Int) {l : Tree.H} (hl : l.length = 32) : IsHead (.agg (headArr n l)) := ⟨n, l, rfl, hl⟩
theorem wp_store_head {x y : Operand} {d : Option Tmp} {ty : TypeId} {pos : String} {after : Array Edge} {gd : Option (Nat × Bool)} {a : Act} {w : World} {K : Act → World → Prop} {Q : Exit → Act → World → Prop} (h0 : IsHeadAt w (a.eval x)) (h1 : IsHead (a.eval y)) :
    Oper.wp Tryd.prog ⟨d, .store 36 x y, ty, pos, after, gd⟩ a w K Q = K (a.put d undef) (w.setRow (blockOf (a.eval x)) (a.eval y).cells) := by
  obtain ⟨g, n, l, e, hl, hg⟩ := h0
  obtain ⟨n', l', e', hl'⟩ := h1
  unfold Oper.wp execOp
  simp only [e, e', blockOf_at, Value.cells, Instr.storeAt, Instr.sureAddr, Sem.run_bind, Sem.run_pure, Result.andThen_ok, run_storeVar_row w g 36 36 (headArr n l) (headArr n' l') hg (head_info n' l' hl') (by rw [headArr_size _ _ hl, headArr_size _ _ hl']) (headArr_one _ _)]
  rfl
attribute [local go_sem ↓] wp_alloc_head wp_load_head wp_store_head
set_option maxHeartbeats 8000000 in
set_option maxRecDepth 100000 in
theorem extends_at (ao bo : Option Addr) (na ca nb cb : Nat) (xs ys : List UInt8) (z0 z1 : Int) (w : World) (hx : BytesIn w ao na ca xs) (hy : BytesIn w bo nb cb ys) (hT : Tabs w) :
    Calls Tryd.prog 7 #[.slice ao na ca, .slice bo nb cb, .agg #[.int .i64 z0, .int .i64 z1]] w fun e w' => e = .returned (.bool true) ∧ Below w.heap.size w w' := by
  obtain ⟨ms, ems⟩ : ∃ m, min na 20 = m := ⟨_, rfl⟩
  obtain ⟨mt, emt⟩ : ∃ m, min nb 20 = m := ⟨_, rfl⟩
  have hms : ms ≤ 20 := by omega
  have hmt : mt ≤ 20 := by omega
  obtain ⟨s, es⟩ : ∃ l, Tree.words xs ms = l := ⟨_, rfl⟩
  obtain ⟨t, et⟩ : ∃ l, Tree.words ys mt = l := ⟨_, rfl⟩
  have lls : s.length = ms := by rw [← es]; exact words_length xs ms
  have llt : t.length = mt := by rw [← et]; exact words_length ys mt
  have SS : Hid (∀ x ∈ s, x.size ≤ 64) := by rw [← es]; exact words_size xs ms
  have ST : Hid (∀ x ∈ t, x.size ≤ 64) := by rw [← et]; exact words_size ys mt
  have shs : Short s := by rw [← es]; exact words_short xs ms
  have sht : Short t := by rw [← et]; exact words_short ys mt
  have CSA := Lib.hid (fun (W : World) (g : Below w.heap.size w W) => rstrings_any ao na ca xs W (hx.below g))
  have CSB := Lib.hid (fun (W : World) (g : Below w.heap.size w W) => rstrings_any bo nb cb ys W (hy.below g))
  rw [ems, es] at CSA
  rw [emt, et] at CSB
  have HT := Lib.hid hT
  have LLS := Lib.hid lls
  have LLT := Lib.hid llt
  have SHS := Lib.hid shs
  have SHT := Lib.hid sht
  have b0 : Below w.heap.size w (w.alloc (.cells #[.int .i64 z0, .int .i64 z1] 42)) := (Below.refl _ _).alloc (Nat.le_refl _) _
  have Q0 := Lib.hid (heap_alloc_new w (.cells #[.int .i64 z0, .int .i64 z1] 42))
  have B0 := Lib.hid b0
  clear hx hy hT es et lls llt ems emt shs sht b0
  go_enter Tryd.func7, Tryd.ntmps7
  go_wp2_with fail
  generalize w.alloc (.cells #[.int .i64 z0, .int .i64 z1] 42) = W0 at *
  refine (sanity12_any _ (HT.out.below B0.out)).mono ?_
  rintro e W1 ⟨rfl, hb1⟩
  have B1 := Lib.hid (below_join B0.out hb1)
  have Q1 := Lib.hid (heap_below Q0.out hb1)
  clear hb1 Q0 B0
  go_wp2_with fail
  refine (CSA.out _ B1.out).mono ?_
  rintro e W2 ⟨vs, rfl, howns, hb2⟩
  have B2 := Lib.hid (below_join B1.out hb2)
  have Q2 := Lib.hid (heap_below Q1.out hb2)
  have hvs := howns.is SHS.out
  obtain ⟨ps, cs, evs, hcs⟩ := strs_sl hvs
  rw [LLS.out] at evs hcs
  subst evs
  have HVS := Lib.hid hvs
  clear hb2 Q1 B1 howns hvs hcs
  go_wp2_with fail
  refine (CSB.out _ B2.out).mono ?_
  rintro e W3 ⟨vt, rfl, hownt, hb3⟩
  have B3 := Lib.hid (below_join B2.out hb3)
  have Q3 := Lib.hid (heap_below Q2.out hb3)
  have hvt := hownt.is SHT.out
  obtain ⟨pt, ct, evt, hct⟩ := strs_sl hvt
  rw [LLT.out] at evt hct
  subst evt
  have HVT := Lib.hid hvt
  have HVS3 := Lib.hid (HVS.out.below hb3)
  clear hb3 Q2 B2 hownt hvt hct HVS CSA CSB
  have hB0 : Hid (Begun s t ms mt (decide (ms ≤ mt))) := ⟨fun h => by simpa using h, fun h => .inl (by simp at h; omega)⟩
  go_upto_region 4 with fail
  generalize decide (ms ≤ mt) = B0 at *
  go_upto_block 0 with fail
  go_cut [10, 11] (fun v10 v11 wx => ∃ B, v10 = .bool B ∧ Begun s t ms mt B ∧ Below W3.heap.size W3 wx)
  case first =>
    go_wp2_with fail
    go_loopw [10, 11] (fun v10 v11 wr => ∃ (k : Nat) (B : Bool), k ≤ ms ∧ v11 = .int .i64 k ∧ v10 = .bool B ∧ Begun s t ms mt B ∧ Below W3.heap.size W3 wr) (fun _ v11 _ => ms - (intOf v11).toNat)
    case atStart => exact ⟨0, B0, by omega, rfl, rfl, hB0.out, Below.refl _ _⟩
    case round =>
      obtain ⟨k, B, hk, rfl, rfl, hB, hbw⟩ := hrel
      have HB := Lib.hid hB
      have HBW := Lib.hid hbw
      clear hB hbw
      by_cases hkm : k < ms
      · have dk : decide ((k : Int) < (ms : Int)) = true := by simp; omega
        have dk' : decide (k < ms) = true := by simp; omega
        cases B with
        | true =>
          have hle := HB.out.1 rfl
          have r1 : (0 : Int) ≤ (k : Int) := by omega
          have r2 : (k : Int) < (ms : Int) := by omega
          have r3 : (k : Int).toNat = k := by omega
          have r4 : (k : Int) < (mt : Int) := by omega
          obtain ⟨b1, o1, rfl, c1⟩ := strs_get (HVS3.out.below HBW.out) LLS.out hkm
          obtain ⟨b2, o2, rfl, c2⟩ := strs_get (HVT.out.below HBW.out) LLT.out (show k < mt by omega)
          have key : ∃ B', ((s.getD k ByteArray.empty).toList == (t.getD k ByteArray.empty).toList) = B' ∧ Begun s t ms mt B' := by
            by_cases he : s.getD k ByteArray.empty = t.getD k ByteArray.empty
            · exact ⟨true, by rw [he]; simp, fun _ => hle, fun h => by cases h⟩
            · exact ⟨false, list_neq _ _ he, (fun h => by cases h), fun _ => .inr (Begun.no hkm he)⟩
          obtain ⟨B', e2, hB'⟩ := key
          have HB' := Lib.hid hB'
          have p1 : ∀ d os, (grow (redrawn wr d) os).cell? ⟨b1, o1 + k, none⟩ = some (.string (s.getD k ByteArray.empty)) := fun d os => ((below_regrown wr d os).cell (p := ⟨b1, o1 + k, none⟩) (block_lt_of_cell c1)).trans c1
          have p2 : ∀ d os, (grow (redrawn wr d) os).cell? ⟨b2, o2 + k, none⟩ = some (.string (t.getD k ByteArray.empty)) := fun d os => ((below_regrown wr d os).cell (p := ⟨b2, o2 + k, none⟩) (block_lt_of_cell c2)).trans c2
          obtain ⟨x, ex⟩ : ∃ x, s.getD k ByteArray.empty = x := ⟨_, rfl⟩
          obtain ⟨y, ey⟩ : ∃ y, t.getD k ByteArray.empty = y := ⟨_, rfl⟩
          rw [ex] at p1 e2
          rw [ey] at p2 e2
          clear hB' hle c1 c2 ex ey
          go_wp2_with fail
          refine wp_region_quiet_below (by kernel_rfl) (by kernel_rfl) ?_
          repeat (go_big_quiet_step (fail))
          refine wpQuiet_nil ?_
          intro _ hw'
          obtain ⟨⟨dq, osq⟩, hw''⟩ := hw'
          subst hw''
          have hq2 := below_regrown wr dq osq
          have BR := Lib.hid (below_join HBW.out hq2)
          clear hq2 p1 p2
          go_wp2_with fail
          go_roundw
          case rel => exact ⟨k + 1, B', by omega, by go_num, rfl, HB'.out, BR.out⟩
          case measure => simp [intOf]; omega
        | false =>
          go_wp2_with fail
          go_meet
          exact ⟨false, rfl, HB.out, HBW.out⟩
      · obtain rfl : k = ms := by omega
        have dk : decide ((k : Int) < (k : Int)) = false := by simp
        have dk' : decide (k < k) = false := by simp
        go_wp2_with fail
        go_meet
        exact ⟨B, rfl, HB.out, HBW.out⟩
  case rest =>
    obtain ⟨B, rfl, hB, hbc⟩ := hcut
    have HB := Lib.hid hB
    have B4 := Lib.hid (below_join B3.out hbc)
    have Q4 := Lib.hid (heap_below Q3.out hbc)
    have HVS := Lib.hid (HVS3.out.below hbc)
    have HVT4 := Lib.hid (HVT.out.below hbc)
    clear hB hbc HVS3 HVT B3 Q3
    obtain ⟨h1, eh1⟩ : ∃ h, Tree.root 5 s = h := ⟨_, rfl⟩
    obtain ⟨h2, eh2⟩ : ∃ h, Tree.root 5 t = h := ⟨_, rfl⟩
    have EH1 := Lib.hid eh1
    have EH2 := Lib.hid eh2
    have lh1 : h1.length = 32 := by rw [← eh1]; exact Tree.root_length _ _
    have lh2 : h2.length = 32 := by rw [← eh2]; exact Tree.root_length _ _
    have LH1 := Lib.hid lh1
    have LH2 := Lib.hid lh2
    have s32 : s.length ≤ 2 ^ 5 := by rw [LLS.out]; show ms ≤ 32; omega
    have t32 : t.length ≤ 2 ^ 5 := by rw [LLT.out]; show mt ≤ 32; omega
    have CH1 := Lib.hid (fun (W : World) (g : Below wc.heap.size wc W) => head_any 5 s ps ms cs h1 W LLS.out s32 (HVS.out.below g) eh1)
    have CH2 := Lib.hid (fun (W : World) (g : Below wc.heap.size wc W) => head_any 5 t pt mt ct h2 W LLT.out t32 (HVT4.out.below g) eh2)
    clear s32 t32 eh1 eh2 lh1 lh2
    go_wp2_with fail
    refine (CH1.out _ (Below.refl _ _)).mono ?_
    rintro e W4 ⟨rfl, hb4⟩
    have HB4 := Lib.hid hb4
    clear hb4
    go_wp2_with fail
    refine (CH2.out _ HB4.out).mono ?_
    rintro e W5 ⟨rfl, hb5⟩
    have HB5 := Lib.hid (below_join HB4.out hb5)
    have i1 := isHead (ms : Int) LH1.out
    have i2 := isHead (mt : Int) LH2.out
    have bk1 := blockOf_at W5.heap.size
    have bk2 := blockOf_at (W5.heap.size + 1)
    have u1 := isHeadAt zero_length (heap2_old W5 (.cells (headArr 0 Tree.zero) 36) (.cells (headArr 0 Tree.zero) 36))
    have u2 := isHeadAt zero_length (heap2_new W5 (.cells (headArr 0 Tree.zero) 36) (.cells (headArr 0 Tree.zero) 36))
    have u3 := isHeadAt zero_length ((setRow_other _ W5.heap.size (W5.heap.size + 1) (headArr ms h1) (by omega)).trans (heap2_new W5 (.cells (headArr 0 Tree.zero) 36) (.cells (headArr 0 Tree.zero) 36)))
    clear hb5 CH1 CH2 HB4
    go_wp2_with fail
    have k1 := heap2_old W5 (.cells (headArr 0 Tree.zero) 36) (.cells (headArr 0 Tree.zero) 36)
    have k2 := heap2_new W5 (.cells (headArr 0 Tree.zero) 36) (.cells (headArr 0 Tree.zero) 36)
    have hp2 := pair_rows (headArr ms h1) (headArr mt h2) k1 k2 (by omega)
    have bz : Below W5.heap.size W5 ((((W5.alloc (.cells (headArr 0 Tree.zero) 36)).alloc (.cells (headArr 0 Tree.zero) 36)).setRow W5.heap.size (headArr ms h1)).setRow (W5.heap.size + 1) (headArr mt h2)) := below_setRow (below_setRow (((Below.refl _ _).alloc (Nat.le_refl _) _).alloc (by simp) _) (by omega) _) (by omega) _
    have P12 := Lib.hid hp2.1
    have P13 := Lib.hid hp2.2
    have B6 := Lib.hid (below_join B4.out (below_join HB5.out bz))
    have Q6 := Lib.hid (heap_below Q4.out (below_join HB5.out bz))
    have S6 := Lib.hid (HVS.out.below (below_join HB5.out bz))
    have T6 := Lib.hid (HVT4.out.below (below_join HB5.out bz))
    clear k1 k2 hp2 bz bk1 bk2 u1 u2 u3 i1 i2 HB5 B4 Q4 HVS HVT4
    generalize (((W5.alloc (.cells (headArr 0 Tree.zero) 36)).alloc (.cells (headArr 0 Tree.zero) 36)).setRow W5.heap.size (headArr ms h1)).setRow (W5.heap.size + 1) (headArr mt h2) = W6 at *
    obtain ⟨pO, epO⟩ : ∃ x, W5.heap.size = x := ⟨_, rfl⟩
    rw [epO] at P12 P13
    rw [epO]
    clear epO
    by_cases hle : ms ≤ mt
    · have t32 : t.length ≤ 2 ^ 5 := by rw [LLT.out]; show mt ≤ 32; omega
      obtain ⟨qs, hqs, cq⟩ : ∃ qs : List Tree.H, qs.length ≤ 10 ∧ Calls Tryd.prog 31 #[.slice pt mt ct, .int .i64 (ms : Int)] W6 (GivesB qs true W6) := by
        by_cases h : ms = 0
        · exact ⟨[], by simp, by rw [h]; exact rgrowth_zero t _ W6 T6.out⟩
        · exact ⟨Tree.growth 5 t ms true, by have := Tree.growth_length 5 t ms true; omega, rgrowth_yes 5 t _ ms _ W6 t32 (by omega) T6.out (by omega) (by rw [LLT.out]; exact hle) rfl⟩
      refine cq.mono ?_
      rintro e W7 ⟨vp, rfl, own7, hb7⟩
      obtain ⟨pa, pc, ev⟩ := hs_sl own7.is
      obtain ⟨pm, epm⟩ : ∃ x, qs.length = x := ⟨_, rfl⟩
      rw [epm] at ev
      subst ev
      have EPM := Lib.hid epm
      have HQS := Lib.hid hqs
      have OWN7 := Lib.hid own7
      have B7 := Lib.hid (below_join B6.out hb7)
      have q7 := heap_below Q6.out hb7
      have Q7 := Lib.hid q7
      have P12' := Lib.hid (heap_below P12.out hb7)
      have P13' := Lib.hid (heap_below P13.out hb7)
      have S7 := Lib.hid (S6.out.below hb7)
      have T7 := Lib.hid (T6.out.below hb7)
      have cc0 : W7.cell? ⟨w.heap.size, 0, none⟩ = some (.int .i64 z0) := (cell_of_row _ _ 0 _ _ _ q7).trans rfl
      have cc1 : W7.cell? ⟨w.heap.size, 1, none⟩ = some (.int .i64 z1) := (cell_of_row _ _ 1 _ _ _ q7).trans rfl
      clear own7 hb7 epm hqs cq t32 q7 B6 Q6 P12 P13 S6 T6
      go_wp2_with fail
      clear cc0 cc1
      refine (bent_any (.slice pa pm pc) qs z0 z1 W6.heap.size W7 OWN7.out (by have := HQS.out; omega)).mono ?_
      rintro e w2 ⟨v2, hs2, rfl, own2, hl2, hb2⟩
      obtain ⟨qa, qc, ev2⟩ := hs_sl own2.is
      obtain ⟨qm, eqm⟩ : ∃ x, hs2.length = x := ⟨_, rfl⟩
      rw [eqm] at ev2
      subst ev2
      have EQM := Lib.hid eqm
      have HL2 := Lib.hid hl2
      have bz : Below w2.heap.size w2 (w2.alloc (.cells #[.slice pa pm pc, .slice qa qm qc] 38)) := (Below.refl _ _).alloc (Nat.le_refl _) _
      have hbz := below_join hb2 bz
      have B8 := Lib.hid (below_join B7.out hbz)
      have P8 := Lib.hid (heap_below P12'.out hbz)
      have R8 := Lib.hid (heap_below P13'.out hbz)
      have S8 := Lib.hid (S7.out.below hbz)
      have T8 := Lib.hid (T7.out.below hbz)
      have LB := Lib.hid (heap_alloc_new w2 (.cells #[.slice pa pm pc, .slice qa qm qc] 38))
      have I1 := Lib.hid (OWN7.out.is.below hbz)
      have I2 := Lib.hid (own2.is.below bz)
      clear bz own2 hl2 eqm hb2 hbz B7 Q7 P12' P13' S7 T7 OWN7
      go_wp2_with fail
      generalize w2.alloc (.cells #[.slice pa pm pc, .slice qa qm qc] 38) = W8 at *
      go_loopw [74] (fun v wr => ∃ a : Nat, a ≤ 2 ∧ v = .int .i64 a ∧ Below W8.heap.size W8 wr) (fun v _ => 2 - (intOf v).toNat)
      case atStart => exact ⟨0, by omega, rfl, Below.refl _ _⟩
      case round =>
        obtain ⟨a, ha, rfl, hbw⟩ := hrel
        have HBW := Lib.hid hbw
        clear hbw
        by_cases ha2 : a < 2
        · have hda : decide ((a : Int) < 2) = true := by simp; omega
          have r1 : (0 : Int) ≤ (a : Int) := by omega
          have r2 : (a : Int) < 2 := by omega
          have r3 : (a : Int).toNat = a := by omega
          obtain ⟨ra, rm, rc, rh, hcr, hir, hlr⟩ : ∃ (ra : Option Addr) (rm rc : Nat) (rh : List Tree.H), wr.cell? ⟨w2.heap.size, a, none⟩ = some (.slice ra rm rc) ∧ IsHs wr (.slice ra rm rc) rh ∧ rh.length = rm := by
            have : a = 0 ∨ a = 1 := by omega
            have hlb := heap_below LB.out HBW.out
            rcases this with rfl | rfl
            · exact ⟨pa, pm, pc, qs, (cell_of_row _ _ 0 _ _ _ hlb).trans rfl, I1.out.below HBW.out, EPM.out⟩
            · exact ⟨qa, qm, qc, hs2, (cell_of_row _ _ 1 _ _ _ hlb).trans rfl, I2.out.below HBW.out, EQM.out⟩
          have IR := Lib.hid hir
          have HLR := Lib.hid hlr
          clear hir hlr
          cases B with
          | true =>
            go_wp2_with fail
            go_roundw
            case rel => exact ⟨a + 1, by omega, by go_num, HBW.out⟩
            case measure => simp [intOf]; omega
          | false =>
            have hne : s ≠ t.take ms := by
              rcases HB.out.2 rfl with h | h
              · omega
              · exact h
            have h1m : 1 ≤ ms := by
              rcases Nat.eq_zero_or_pos ms with h | h
              · exact absurd (by rw [h, List.take_zero]; exact List.length_eq_zero_iff.1 (by rw [LLS.out]; exact h)) hne
              · exact h
            obtain ⟨bg, cg, hbg⟩ := grows_told s t ms mt h1 h2 ra rm rc rh wr LLS.out LLT.out hms hmt hle h1m EH1.out EH2.out IR.out HLR.out (HT.out.below (below_join B8.out HBW.out)) hne
            have hp := heap_below P8.out HBW.out
            have hr := heap_below R8.out HBW.out
            have a12 := isHeadAt LH1.out hp
            have b12 := rowOf_at hp
            have a13 := isHeadAt LH2.out hr
            have b13 := rowOf_at hr
            have CG := Lib.hid (cg wr (Below.refl _ _))
            have HBG := Lib.hid hbg
            clear cg hbg hne hp hr
            go_wp2_with fail
            refine CG.out.mono ?_
            rintro e W9 ⟨rfl, hb9⟩
            have B9 := Lib.hid (below_join HBW.out hb9)
            have B9r := Lib.hid hb9
            clear hb9 CG a12 b12 a13 b13 hcr
            cases bg with
            | false =>
              go_wp2_with fail
              go_roundw
              case rel => exact ⟨a + 1, by omega, by go_num, B9.out⟩
              case measure => simp [intOf]; omega
            | true =>
              have bz : Below W9.heap.size W9 (W9.alloc (.cells #[.slice ps ms cs, .slice pt mt ct] 22)) := (Below.refl _ _).alloc (Nat.le_refl _) _
              have b10 := below_join B9.out bz
              have CI := Lib.hid (Inside_any 5 [s, t] W9.heap.size 2 2 (W9.alloc (.cells #[.slice ps ms cs, .slice pt mt ct] 22)) rfl (by omega) (lists_two (heap_alloc_new _ _) (S8.out.below b10) (T8.out.below b10)) (by
                intro l hl
                simp only [List.mem_cons, List.not_mem_nil, or_false] at hl
                rcases hl with rfl | rfl
                · rw [LLS.out]; show ms ≤ 32; omega
                · rw [LLT.out]; show mt ≤ 32; omega) (by rw [inside_two_lists, List.length_map]; have := inside_two_len s t; omega))
              rw [inside_two_lists] at CI
              have B10 := Lib.hid b10
              have B10r := Lib.hid (below_join B9r.out bz)
              have SH := Lib.hid (inside_two_short s t SS.out ST.out)
              have LN := Lib.hid (inside_two_len s t)
              clear bz b10 B9
              go_wp2_with fail
              generalize W9.alloc (.cells #[.slice ps ms cs, .slice pt mt ct] 22) = W10 at *
              refine CI.out.mono ?_
              rintro e W11 ⟨vi, rfl, own11, hb11⟩
              have B11 := Lib.hid (below_join B10.out hb11)
              have B11r := Lib.hid (below_join B10r.out hb11)
              obtain ⟨ia, ic, evi, _⟩ := strs_sl (own11.is (short_map _ SH.out))
              obtain ⟨im, eim⟩ : ∃ x, ((Tree.insideL 5 s ++ Tree.insideL 5 t).map bytesOf).length = x := ⟨_, rfl⟩
              rw [eim] at evi
              subst evi
              have OWN11 := Lib.hid own11
              have S10 := Lib.hid B10.out.size
              have SZ11 := Lib.hid hb11.size
              clear own11 hb11 CI eim
              have d1 : decide ((0 : Int) < (ms : Int)) = true := by simp; omega
              have d1' : decide (0 < ms) = true := by simp; omega
              rcases HBG.out (by first | rfl | trivial) with ⟨heq, hcl⟩ | ⟨hlt, hmany, hcl⟩
              · have d2 : decide ((ms : Int) < (mt : Int)) = false := by simp; omega
                have d2' : decide (ms < mt) = false := by simp; omega
                have CC := Lib.hid (clash_any _ _ W11 (OWN11.out.is (short_map _ SH.out)) (by rw [List.length_map]; have := LN.out; omega))
                have HCL := Lib.hid (clashes_found _ hcl)
                clear heq hcl
                go_wp2_with fail
                refine CC.out.mono ?_
                rintro e W12 ⟨bc, rfl, hno, hb12⟩
                have B12 := Lib.hid (below_join B11.out hb12)
                obtain rfl : bc = true := by
                  rcases hno with h | h
                  · exact absurd h HCL.out
                  · exact h
                clear hno hb12
                go_wp2_with fail
                go_roundw
                case rel => exact ⟨a + 1, by omega, by go_num, B12.out⟩
                case measure => simp [intOf]; omega
              · have d2 : decide ((ms : Int) < (mt : Int)) = true := by simp; omega
                have d2' : decide (ms < mt) = true := by simp; omega
                have RG := Lib.hid (head_hash (heap_below P8.out B11.out))
                have LI := Lib.hid (hash_infoL h1 LH1.out)
                have b911 : Below wr.heap.size wr W11 := B11r.out
                have CGI := Lib.hid (gin_any 5 ms mt rm rc true ra rh h1 W11 (by omega) h1m hle (by show mt ≤ 32; omega) (by omega) (IR.out.below b911) HLR.out hmany LH1.out)
                have HCL := Lib.hid hcl
                have HM := Lib.hid hmany
                clear hlt hmany hcl b911
                go_wp2_with (first
                  | ((with_reducible refine op_is ⟨some 106, .load 24 (.tmp 105), _, _, _, _⟩ ?_); refine wpList_load_mid rfl 24 (.tmp 105) rfl pO 1 rfl (hashArr h1).toList _ RG.out Tryd.underlying24 rfl LI.out ?_; rw [Array.toArray_toList]))
                refine CGI.out.mono ?_
                rintro e W13 ⟨vg, rfl, ownG, hbG⟩
                have B13 := Lib.hid (below_join B11.out hbG)
                have OWN13 := Lib.hid (OWN11.out.below hbG)
                have SRC := Lib.hid ownG.srcS
                have LEN : Hid (((Tree.insideL 5 s ++ Tree.insideL 5 t).map bytesOf).length + (growS 5 ms mt true h1 rh).length ≤ 100000) := by
                  show _ ≤ _
                  have := LN.out
                  have := growS_length 5 ms mt true h1 rh (by omega)
                  rw [List.length_map]; omega
                have BASE : Hid (W10.heap.size ≤ W13.heap.size) := Nat.le_trans SZ11.out hbG.size
                clear ownG hbG CGI RG LI
                go_wp2_with (first
                  | ((with_reducible refine op_is ⟨some 109, .call { callee := .builtin .append, args := #[.tmp 100, .tmp 108], argTypes := #[22, 22] }, _, _, _, _⟩ ?_); refine wpList_append_strs rfl (.tmp 100) (.tmp 108) rfl W10.heap.size _ _ _ _ rfl rfl OWN13.out SRC.out LEN.out BASE.out ?_; intro v' w' hown' hgrow))
                have B14 := Lib.hid (grown_ownS B13.out OWN13.out S10.out hgrow)
                have EQ : Hid ((Tree.insideL 5 s ++ Tree.insideL 5 t).map bytesOf ++ growS 5 ms mt true h1 rh = (Tree.insideL 5 s ++ Tree.insideL 5 t ++ Tree.growIn 5 ms mt true h1 rh).map bytesOf) := by
                  show _ = _
                  unfold growS; rw [← List.map_append]
                have SHG : Hid (∀ x ∈ Tree.insideL 5 s ++ Tree.insideL 5 t ++ Tree.growIn 5 ms mt true h1 rh, x.length ≤ 100000) := by
                  intro x hx
                  rcases List.mem_append.1 hx with hx | hx
                  · exact SH.out x hx
                  · have := Tree.growIn_short 5 ms mt true h1 rh IR.out.1 LH1.out h1m hle (by show mt ≤ 32; omega) (by rw [HLR.out]; exact HM.out) x hx
                    omega
                have CC : Hid (Calls Tryd.prog 27 #[v'] w' fun e w'' => ∃ b, e = .returned (.bool b) ∧ (NoClash ((Tree.insideL 5 s ++ Tree.insideL 5 t ++ Tree.growIn 5 ms mt true h1 rh).map bytesOf) ∨ b = true) ∧ Below w'.heap.size w' w'') :=
                  clash_any _ v' w' ((EQ.out ▸ hown').is (short_map _ SHG.out)) (by rw [← EQ.out, List.length_append]; exact LEN.out)
                have HNO := Lib.hid (clashes_found _ HCL.out)
                refine CC.out.mono ?_
                rintro e W15 ⟨bc, rfl, hno, hb15⟩
                have B15 := Lib.hid (below_join B14.out hb15)
                obtain rfl : bc = true := by
                  rcases hno with h | h
                  · exact absurd h HNO.out
                  · exact h
                clear hno hb15 hown' hgrow CC
                go_wp2_with fail
                go_roundw
                case rel => exact ⟨a + 1, by omega, by go_num, B15.out⟩
                case measure => simp [intOf]; omega
        · obtain rfl : a = 2 := by omega
          have BE := Lib.hid (below_join B8.out HBW.out)
          go_wp2_with fail
          go_ret
          exact ⟨rfl, BE.out⟩
    · refine (rgrowth_no t _ ms W6 T6.out (.inr (by rw [LLT.out]; omega))).mono ?_
      rintro e W7 ⟨vp, rfl, own7, hb7⟩
      obtain ⟨pa, pc, ev⟩ := hs_sl own7.is
      subst ev
      have B7 := Lib.hid (below_join B6.out hb7)
      have P12' := heap_below P12.out hb7
      have P13' := heap_below P13.out hb7
      have a12 := isHeadAt LH1.out P12'
      have b12 := rowOf_at P12'
      have a13 := isHeadAt LH2.out P13'
      have b13 := rowOf_at P13'
      clear own7 hb7 P12 P13 P12' P13' B6 Q6 S6 T6
      go_wp2_with fail
      refine (grows_any ms mt h1 h2 _ false W7 LH1.out LH2.out (fun V g => grow_no ms mt h1 h2 pa 0 pc V (.inr (by omega)))).mono ?_
      rintro e W8 ⟨rfl, hb8⟩
      have B8 := Lib.hid (below_join B7.out hb8)
      clear hb8 B7 a12 b12 a13 b13
      go_wp2_with fail
      go_ret
      exact ⟨rfl, B8.out⟩
theorem walk_TreeExtends {w : World} (ao : Option Addr) (na ca : Nat) (xs : List UInt8) (hx : BytesIn w ao na ca xs) (bo : Option Addr) (nb cb : Nat) (ys : List UInt8) (hy : BytesIn w bo nb cb ys) (zs : List Int) (hl : zs.length = 2) (hT : Tabs w) :
    Calls Tryd.prog 7 #[.slice ao na ca, .slice bo nb cb, .agg (zs.map (Value.int .i64)).toArray] w fun e w' => e = .returned (.bool true) ∧ Below w.heap.size w w' := by
  match zs, hl with
  | [z0, z1], _ => exact extends_at ao bo na ca nb cb xs ys z0 z1 w hx hy hT
end
end Go.Proofs.YtjedhmoehepbnaaDoor
