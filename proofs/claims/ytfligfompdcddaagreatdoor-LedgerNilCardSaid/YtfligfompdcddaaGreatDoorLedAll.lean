/- The contract of All. -/
import Derived.Test.YtfligfompdcddaaGreatDoorLedPost
import Derived.Test.YtfligfompdcddaaGreatDoorLedUndo
import Derived.Defers
import Derived.Recover
import Derived.Deep.LoopGhost
namespace Go.Proofs.YtfligfompdcddaaGreatDoor
open Go.RowKit Go.Sort Go.Maps
set_option linter.unusedVariables false
namespace Led
/-- one posting after the other, as long as each is taken -/
def run (L : List Pst) : List Pst → Nat → Nat × Int × List Pst
  | [], i => (i, 0, L)
  | q :: ps, i => if (post L q).1 = 0 then run (post L q).2 ps (i + 1) else (i, (post L q).1, L)
def all (L : List Pst) (ps : List Pst) : Nat × Int × List Pst := ((run L ps 0).1, (run L ps 0).2.1, if (run L ps 0).2.1 = 0 then (run L ps 0).2.2 else L)
theorem post_snd (L : List Pst) (q : Pst) : (post L q).2 = L ∨ (post L q).2 = L ++ [q] := by
  unfold post
  split
  · exact .inl rfl
  · split
    · exact .inl rfl
    · split
      · exact .inl rfl
      · split
        · exact .inl rfl
        · exact .inr rfl
theorem post_fail {L : List Pst} {q : Pst} (h : (post L q).1 ≠ 0) : (post L q).2 = L := by
  revert h
  unfold post
  split
  · intro; rfl
  · split
    · intro; rfl
    · split
      · intro; rfl
      · split
        · intro; rfl
        · intro h; exact absurd rfl h
end Led
theorem Turned.weaken {F G : Nat → Prop} {w w' : World} (h : Turned F w w') (hFG : ∀ k, F k → G k) : Turned G w w' := ⟨h.os, h.tape, h.output, h.size, fun k hk hn => h.block k hk (fun f => hn (hFG k f))⟩
theorem Step.refl {p : Nat} {L : List Pst} {c : Nat} {F : Nat → Prop} {w : World} (h : LedIn w p L c F) : Step p L c F w w := ⟨F, h, Turned.of_below (Below.refl _ _), fun k hk => .inl hk⟩
/-- a step behind a step -/
theorem Step.then {p : Nat} {L' : List Pst} {c' : Nat} {F F1 : Nat → Prop} {w w1 w2 : World} (hT : Turned F w w1) (hF : ∀ k, F1 k → F k ∨ w.heap.size ≤ k) (h : Step p L' c' F1 w1 w2) : Step p L' c' F w w2 := by
  obtain ⟨F2, h1, h2, h3⟩ := h
  refine ⟨F2, h1, hT.trans h2 hF, fun k hk => ?_⟩
  rcases h3 k hk with g | g
  · exact hF k g
  · exact .inr (Nat.le_trans hT.size g)
theorem LedIn.below {w w' : World} {p : Nat} {L : List Pst} {c : Nat} {F : Nat → Prop} (h : LedIn w p L c F) (hb : Below w.heap.size w w') : LedIn w' p L c F := by
  obtain ⟨vs, vk, vb, h1, h2⟩ := h
  exact ⟨vs, vk, vb, h1.below hb, h2⟩
theorem LedIn.mono {w : World} {p : Nat} {L : List Pst} {c c' : Nat} {F : Nat → Prop} (h : LedIn w p L c F) (hc : c ≤ c') : LedIn w p L c' F := by
  obtain ⟨vs, vk, vb, h1, h2⟩ := h
  refine ⟨vs, vk, vb, ⟨h1.cells, h1.row, h1.ok, ?_⟩, h2⟩
  rcases h1.maps with g | ⟨bk, bb, f, e1, e2, hne, m1, m2, hf⟩
  · exact .inl g
  · exact .inr ⟨bk, bb, f, e1, e2, hne, m1.mono hc, m2.mono hc, hf⟩
theorem LedIn.lt {w : World} {p : Nat} {L : List Pst} {c : Nat} {F : Nat → Prop} (h : LedIn w p L c F) : ∀ k, F k → k < w.heap.size := by
  obtain ⟨vs, vk, vb, h1, rfl⟩ := h
  exact h1.foot_lt
theorem LedIn.fp {w : World} {p : Nat} {L : List Pst} {c : Nat} {F : Nat → Prop} (h : LedIn w p L c F) : F p := by
  obtain ⟨vs, vk, vb, h1, rfl⟩ := h
  exact .inl rfl
theorem Turned.cell {F : Nat → Prop} {w w' : World} (h : Turned F w w') {a : Addr} {v : Value} (ha : w.cell? a = some v) (hF : ¬ F a.block) : w'.cell? a = some v := by
  have hl := block_lt_of_cell ha
  have := h.block a.block hl hF
  simp only [World.cell?, this] at ha ⊢
  exact ha
theorem LedIn.set {w : World} {p : Nat} {L : List Pst} {c : Nat} {F : Nat → Prop} (h : LedIn w p L c F) (b o : Nat) (v : Value) (hb : ¬ F b) : LedIn (w.setCell ⟨b, o, none⟩ v) p L c F := by
  obtain ⟨vs, vk, vb, h1, rfl⟩ := h
  exact ⟨vs, vk, vb, h1.kept (fun k => k = b) (Turned.of_grown (grownBy_setCellP w b o v) (fun k e => by injection e with e; exact e.symm)) (fun k hk e => hb (e ▸ hk)), rfl⟩
theorem Turned.set {F : Nat → Prop} {w w1 : World} (h : Turned F w w1) (b o : Nat) (v : Value) (hb : w.heap.size ≤ b) : Turned F w (w1.setCell ⟨b, o, none⟩ v) :=
  h.more (grownBy_setCellP w1 b o v) (fun k e => by injection e with e; exact .inr (by omega))
theorem run_all {L ps : List Pst} {r : Nat × Int × List Pst} (h : Led.run L ps 0 = r) : Led.all L ps = (r.1, r.2.1, if r.2.1 = 0 then r.2.2 else L) := by
  unfold Led.all; rw [h]
def ErrOf (p : Nat) (L M : List Pst) (er : Int) (c : Nat) (F : Nat → Prop) (w : World) (e : Ending) (w' : World) : Prop := e = .returned (.tuple #[]) ∧ Step p (if er = 0 then L ++ M else L) c F w w'
set_option maxHeartbeats 4000000 in
set_option maxRecDepth 100000 in
theorem allClosure_any {w : World} {p B1 B2 B3 : Nat} {L M : List Pst} {er : Int} {c : Nat} {F : Nat → Prop} (u : FrameMode) (h : LedIn w p (L ++ M) c F) (hc : c + 2 * M.length ≤ 1000000000)
    (h1 : w.cell? ⟨B1, 0, none⟩ = some (.pointer (some ⟨p, 0, none⟩))) (h2 : w.cell? ⟨B2, 0, none⟩ = some (.int .i64 er)) (h3 : w.cell? ⟨B3, 0, none⟩ = some (.int .i64 L.length)) (n1 : ¬ F B1) (n2 : ¬ F B2) (n3 : ¬ F B3) :
    CallsD Tryz.prog 40 #[.pointer (some ⟨B2, 0, none⟩), .pointer (some ⟨B1, 0, none⟩), .pointer (some ⟨B3, 0, none⟩)] u w fun e u' w' => u' = u ∧ ErrOf p L M er (c + 2 * M.length) F w e w' := by
  by_cases he : er = 0
  · subst he
    have H := Lib.hid h
    have d1 : ((0 : Int) != 0) = false := by decide
    have kept : ∀ (a : Addr) (v : Value), w.cell? a = some v → ∀ dd os, (grow (redrawn w dd) os).cell? a = some v := fun a v ha dd os => ((below_regrown w dd os).cell (block_lt_of_cell ha)).trans ha
    have X2 := kept _ _ h2
    clear h h1 h2 h3 kept n1 n2 n3
    go_enter_d Tryz.func40, Tryz.ntmps40
    go_wp2_with fail
    go_loopw [] (fun wr => wr = w) (fun _ => 0)
    case atStart => exact rfl
    case round =>
      obtain rfl := hrel
      go_wp2_with fail
      refine wp_region_quiet_below (by kernel_rfl) (by kernel_rfl) ?_
      repeat (go_big_quiet_step (fail))
      refine wpQuiet_nil ?_
      intro _ hw'
      obtain ⟨⟨dq, osq⟩, hw''⟩ := hw'
      subst hw''
      have B := Lib.hid (below_regrown wr dq osq)
      go_wp2_with fail
      go_end0
      exact ⟨rfl, F, by rw [if_pos rfl]; exact (H.out.below B.out).mono (by omega), Turned.of_below B.out, fun k hk => .inl hk⟩
  · have d1 : (er != 0) = true := by simpa using he
    have HE := Lib.hid he
    have HS := Lib.hid (Step.refl h)
    have HLT := Lib.hid h.lt
    have H1 := Lib.hid h1
    have H2 := Lib.hid h2
    have H3 := Lib.hid h3
    have N1 := Lib.hid n1
    have N2 := Lib.hid n2
    have N3 := Lib.hid n3
    clear h h1 h2 h3 n1 n2 n3
    go_enter_d Tryz.func40, Tryz.ntmps40
    go_wp2_with fail
    go_loopg [] M.length (fun g1 wr => ∃ M' : List Pst, M'.length ≤ g1 ∧ M'.length ≤ M.length ∧ Step p (L ++ M') (c + 2 * (M.length - M'.length)) F w wr)
    case atStart => exact ⟨M, Nat.le_refl _, Nat.le_refl _, by rw [Nat.sub_self]; exact HS.out⟩
    case round =>
      obtain ⟨M', hg, hml, F', hL, hT, hF⟩ := hrel
      have b1 := block_lt_of_cell H1.out
      have b2 := block_lt_of_cell H2.out
      have b3 := block_lt_of_cell H3.out
      have f1 : ¬ F' B1 := fun f => by rcases hF B1 f with g | g; exact N1.out g; simp only at b1; omega
      have f2 : ¬ F' B2 := fun f => by rcases hF B2 f with g | g; exact N2.out g; simp only at b2; omega
      have f3 : ¬ F' B3 := fun f => by rcases hF B3 f with g | g; exact N3.out g; simp only at b3; omega
      have x1 := hT.cell H1.out N1.out
      have x2 := hT.cell H2.out N2.out
      have x3 := hT.cell H3.out N3.out
      obtain ⟨vs, vk, vb, hA, hFF⟩ := hL
      obtain ⟨ao, cap, hvs⟩ := hA.slice
      subst hvs
      have x0 : wr.cell? ⟨p, 0, none⟩ = some (.slice ao (L ++ M').length cap) := (cell_of_row _ _ 0 _ _ _ hA.cells).trans rfl
      have kept : ∀ (a : Addr) (v : Value), wr.cell? a = some v → ∀ dd os, (grow (redrawn wr dd) os).cell? a = some v := fun a v ha dd os => ((below_regrown wr dd os).cell (block_lt_of_cell ha)).trans ha
      have X0 := kept _ _ x0
      have X1 := kept _ _ x1
      have X2 := kept _ _ x2
      have X3 := kept _ _ x3
      have HA := Lib.hid hA
      have HT := Lib.hid hT
      have HF := Lib.hid hF
      have HFF := Lib.hid hFF
      clear hA hT hF hFF kept x0 x1 x2 x3 b1 b2 b3 f1 f2 f3
      obtain ⟨n, hn⟩ : ∃ n, (L ++ M').length = n := ⟨_, rfl⟩
      obtain ⟨m, hm⟩ : ∃ m, L.length = m := ⟨_, rfl⟩
      have hnm : n = m + M'.length := by rw [← hn, ← hm]; simp
      rw [hn] at X0
      rw [hm] at X3
      have HN := Lib.hid hn
      have HM := Lib.hid hm
      have HNM := Lib.hid hnm
      clear hn hm
      rcases List.eq_nil_or_concat M' with hM | ⟨M'', q, hM⟩
      · have d2 : decide ((m : Int) < (n : Int)) = false := by simp; rw [hnm, hM]; simp
        have d3 : decide (m < n) = false := by simp; rw [hnm, hM]; simp
        clear hnm
        go_wp2_with fail
        refine wp_region_quiet_below (by kernel_rfl) (by kernel_rfl) ?_
        repeat (go_big_quiet_step (fail))
        refine wpQuiet_nil ?_
        intro _ hw'
        obtain ⟨⟨dq, osq⟩, hw''⟩ := hw'
        subst hw''
        have B := Lib.hid (below_regrown wr dq osq)
        have HMM := Lib.hid hM
        clear X0 X1 X2 X3 hM
        go_wp2_with fail
        go_end0
        refine ⟨rfl, ?_⟩
        rw [if_neg HE.out]
        have l1 : LedIn _ p (L ++ M') _ F' := ⟨_, _, _, HA.out.below B.out, HFF.out⟩
        have e : L ++ M' = L := by rw [HMM.out]; simp
        rw [e] at l1
        exact Step.then HT.out HF.out ⟨F', l1.mono (by omega), Turned.of_below B.out, fun k hk => .inl hk⟩
      · have hml2 : M'.length = M''.length + 1 := by rw [hM]; simp
        have d2 : decide ((m : Int) < (n : Int)) = true := by simp; omega
        have d3 : decide (m < n) = true := by simp; omega
        have HML := Lib.hid hml2
        clear hnm hml2
        go_wp2_with fail
        refine wp_region_quiet_below (by kernel_rfl) (by kernel_rfl) ?_
        repeat (go_big_quiet_step (fail))
        refine wpQuiet_nil ?_
        intro _ hw'
        obtain ⟨⟨dq, osq⟩, hw''⟩ := hw'
        subst hw''
        have hB := below_regrown wr dq osq
        have l1 := HA.out.below hB
        have e : L ++ M' = (L ++ M'') ++ [q] := by rw [hM]; simp
        rw [e] at l1
        have B := Lib.hid hB
        have E := Lib.hid e
        have CU := Lib.hid (undo_any l1 (by have := HML.out; omega))
        have X1' := X1 dq osq
        clear X0 X1 X2 X3 hM e hB l1
        go_wp2_with fail
        refine CU.out.mono ?_
        rintro e w' ⟨rfl, hst⟩
        have ST := Lib.hid hst
        clear hst X1'
        go_wp2_with fail
        go_roundg M''.length
        case measure => have := HML.out; omega
        case rel =>
          have h1 := HML.out
          refine ⟨M'', Nat.le_refl _, by omega, ?_⟩
          have e2 : c + 2 * (M.length - M'.length) + 2 = c + 2 * (M.length - M''.length) := by omega
          have h2 := ST.out
          rw [e2] at h2
          have ff := HFF.out
          rw [E.out] at ff
          rw [← ff] at h2
          exact Step.then (HT.out.trans (Turned.of_below (F := fun _ => False) B.out) (fun k f => f.elim)) HF.out h2
/-- a slice value reads as a list of postings -/
def PstsAt (w : World) (v : Value) (ps : List Pst) : Prop :=
  ∃ ao cap, v = .slice ao ps.length cap ∧ (ps = [] ∨ ∃ g, ao = some ⟨g, 0, none⟩ ∧ ∀ i q, ps[i]? = some q → ∀ j, j < 4 → w.cell? ⟨g, i * 4 + j, none⟩ = q.arr[j]?)
theorem PstsAt.turned {F : Nat → Prop} {w w' : World} {v : Value} {ps : List Pst} (h : PstsAt w v ps) (ht : Turned F w w') (hF : ∀ g, blkOf v = some g → ¬ F g) : PstsAt w' v ps := by
  obtain ⟨ao, cap, rfl, h⟩ := h
  refine ⟨ao, cap, rfl, ?_⟩
  rcases h with h | ⟨g, rfl, h⟩
  · exact .inl h
  · refine .inr ⟨g, rfl, fun i q hq j hj => ?_⟩
    have h1 := h i q hq j hj
    obtain ⟨v, hv⟩ : ∃ v, q.arr[j]? = some v := ⟨q.arr[j]'(by simp [Pst.arr]; omega), Array.getElem?_eq_getElem _⟩
    rw [hv] at h1 ⊢
    exact ht.cell h1 (hF g rfl)
/-- what All gives -/
def AllOf (p : Nat) (L ps : List Pst) (c : Nat) (F : Nat → Prop) (w : World) (e : Ending) (w' : World) : Prop :=
  e = .returned (.tuple #[.int .i64 (Led.all L ps).1, .int .i64 (Led.all L ps).2.1]) ∧ Step p (Led.all L ps).2.2 c F w w'
set_option maxHeartbeats 4000000 in
set_option maxRecDepth 100000 in
theorem all_any {w : World} {p : Nat} {L ps : List Pst} {c : Nat} {F : Nat → Prop} {v : Value} (h : LedIn w p L c F) (hv : PstsAt w v ps) (hF : ∀ g, blkOf v = some g → ¬ F g ∧ g < w.heap.size) (hc : c + 4 * ps.length ≤ 1000000000)
    (hz : ∀ q ∈ ps, q.key.size ≤ maxLen ∧ q.src.size ≤ maxLen ∧ q.dst.size ≤ maxLen) :
    Calls Tryz.prog 20 #[.pointer (some ⟨p, 0, none⟩), v] w (AllOf p L ps (c + 4 * ps.length) F w) := by
  obtain ⟨vs, vk, vb, hA, hFF⟩ := h
  obtain ⟨ls, cap, hvs⟩ := hA.slice
  subst hvs
  have hLI : LedIn w p L c F := ⟨_, _, _, hA, hFF⟩
  have x0 : w.cell? ⟨p, 0, none⟩ = some (.slice ls L.length cap) := (cell_of_row _ _ 0 _ _ _ hA.cells).trans rfl
  have hpl : p < w.heap.size := hLI.lt p hLI.fp
  have LI := Lib.hid hLI
  have HV := Lib.hid hv
  have HZ := Lib.hid hz
  have HF := Lib.hid hF
  obtain ⟨ao, vcap, hvv, _⟩ := hv
  subst hvv
  obtain ⟨n, hn⟩ : ∃ n, ps.length = n := ⟨_, rfl⟩
  obtain ⟨m, hm⟩ : ∃ m, L.length = m := ⟨_, rfl⟩
  have hmb : m ≤ 100000 := by rw [← hm]; exact hA.ok.2.1
  have HN := Lib.hid hn
  have HM := Lib.hid hm
  rw [hm] at x0
  rw [hn] at hc ⊢
  have x0a : (w.alloc (.cells #[.pointer (some ⟨p, 0, none⟩)] 26)).cell? ⟨p, 0, none⟩ = some (.slice ls m cap) := (((Below.refl w.heap.size w).alloc (Nat.le_refl _) _).cell (p := ⟨p, 0, none⟩) hpl).trans x0
  have BW : Below w.heap.size w (((w.alloc (.cells #[.pointer (some ⟨p, 0, none⟩)] 26)).alloc (.cells #[.int .i64 0] 32)).alloc (.cells #[.int .i64 m] 3)) := (((Below.refl _ _).alloc (Nat.le_refl _) _).alloc (by simp) _).alloc (by simp; omega) _
  have BW := Lib.hid BW
  clear hA hFF hLI hz hF hn hm
  go_enter_defers Tryz.func20, Tryz.ntmps20
  go_wp2_with fail
  have hA0 := LI.out.below BW.out
  have HB1 : Hid ((((w.alloc (.cells #[.pointer (some ⟨p, 0, none⟩)] 26)).alloc (.cells #[.int .i64 0] 32)).alloc (.cells #[.int .i64 m] 3)).heap[w.heap.size]? = some (.cells #[.pointer (some ⟨p, 0, none⟩)] 26 (0, 0))) :=
    (Below.heap_alloc _ _ _ (by simp; omega)).trans ((Below.heap_alloc _ _ _ (by simp)).trans (heap_alloc_new w _))
  have HB2 : Hid ((((w.alloc (.cells #[.pointer (some ⟨p, 0, none⟩)] 26)).alloc (.cells #[.int .i64 0] 32)).alloc (.cells #[.int .i64 m] 3)).heap[w.heap.size + 1]? = some (.cells #[.int .i64 0] 32 (0, 0))) := by
    have h := heap_alloc_new (w.alloc (.cells #[.pointer (some ⟨p, 0, none⟩)] 26)) (.cells #[.int .i64 0] 32)
    rw [show (w.alloc (.cells #[.pointer (some ⟨p, 0, none⟩)] 26)).heap.size = w.heap.size + 1 by simp] at h
    exact (Below.heap_alloc _ _ _ (by simp)).trans h
  have HB3 : Hid ((((w.alloc (.cells #[.pointer (some ⟨p, 0, none⟩)] 26)).alloc (.cells #[.int .i64 0] 32)).alloc (.cells #[.int .i64 m] 3)).heap[w.heap.size + 1 + 1]? = some (.cells #[.int .i64 m] 3 (0, 0))) := by
    have h := heap_alloc_new ((w.alloc (.cells #[.pointer (some ⟨p, 0, none⟩)] 26)).alloc (.cells #[.int .i64 0] 32)) (.cells #[.int .i64 m] 3)
    rw [show ((w.alloc (.cells #[.pointer (some ⟨p, 0, none⟩)] 26)).alloc (.cells #[.int .i64 0] 32)).heap.size = w.heap.size + 1 + 1 by simp] at h
    exact h
  have LT := Lib.hid LI.out.lt
  have LI0 := Lib.hid hA0
  clear hA0 x0 x0a
  generalize ((w.alloc (.cells #[.pointer (some ⟨p, 0, none⟩)] 26)).alloc (.cells #[.int .i64 0] 32)).alloc (.cells #[.int .i64 m] 3) = W0 at *
  obtain ⟨B1, hB1⟩ : ∃ b, w.heap.size = b := ⟨_, rfl⟩
  rw [hB1] at HB1 HB2 HB3 ⊢
  obtain ⟨B2, hB2⟩ : ∃ b, B1 + 1 = b := ⟨_, rfl⟩
  rw [hB2] at HB2 HB3 ⊢
  obtain ⟨B3, hB3⟩ : ∃ b, B2 + 1 = b := ⟨_, rfl⟩
  rw [hB3] at HB3 ⊢
  have EB1 := Lib.hid hB1
  have EB2 := Lib.hid hB2
  have EB3 := Lib.hid hB3
  clear hB1 hB2 hB3
  go_loopw [20] (fun i wr => ∃ (k : Nat) (M : List Pst), k ≤ n ∧ i = .int .i64 k ∧ M.length ≤ k ∧ Step p (L ++ M) (c + 2 * k) F W0 wr ∧ Led.run L ps 0 = Led.run (L ++ M) (ps.drop k) k) (fun i _ => n - (intOf i).toNat)
  case atStart => exact ⟨0, [], Nat.zero_le _, rfl, Nat.le_refl _, by rw [List.append_nil]; exact Step.refl LI0.out, by rw [List.append_nil, List.drop_zero]⟩
  case round =>
    obtain ⟨k, M, hk, rfl, hMk, ⟨F', hL, hT, hF'⟩, hrun⟩ := hrel
    have nf : ∀ b, W0.heap.size > b → w.heap.size ≤ b → ¬ F' b ∧ ¬ F b := by
      intro b h1 h2
      have h3 : ¬ F b := fun f => by have := LT.out b f; omega
      exact ⟨fun f => by rcases hF' b f with g | g; exact h3 g; omega, h3⟩
    have sz1 := (Array.getElem?_eq_some_iff.1 HB1.out).1
    have sz2 := (Array.getElem?_eq_some_iff.1 HB2.out).1
    have sz3 := (Array.getElem?_eq_some_iff.1 HB3.out).1
    have hb1 : wr.heap[B1]? = some (.cells #[.pointer (some ⟨p, 0, none⟩)] 26 (0, 0)) := (hT.block B1 sz1 (nf B1 sz1 (by rw [EB1.out]; exact Nat.le_refl _)).2).trans HB1.out
    have hb2 : wr.heap[B2]? = some (.cells #[.int .i64 0] 32 (0, 0)) := (hT.block B2 sz2 (nf B2 sz2 (by rw [EB1.out, ← EB2.out]; omega)).2).trans HB2.out
    have hb3 : wr.heap[B3]? = some (.cells #[.int .i64 m] 3 (0, 0)) := (hT.block B3 sz3 (nf B3 sz3 (by rw [EB1.out, ← EB3.out, ← EB2.out]; omega)).2).trans HB3.out
    have NF1 := Lib.hid (nf B1 sz1 (by rw [EB1.out]; exact Nat.le_refl _))
    have NF2 := Lib.hid (nf B2 sz2 (by rw [EB1.out, ← EB2.out]; omega))
    have NF3 := Lib.hid (nf B3 sz3 (by rw [EB1.out, ← EB3.out, ← EB2.out]; omega))
    have R1 := Lib.hid hb1
    have R2 := Lib.hid hb2
    have R3 := Lib.hid hb3
    have HL := Lib.hid hL
    have HT := Lib.hid hT
    have HFF := Lib.hid hF'
    have HRUN := Lib.hid hrun
    clear nf sz1 sz2 sz3 hb1 hb2 hb3 hL hT hF' hrun
    by_cases hlt : k < n
    · obtain ⟨q, hq⟩ : ∃ q, ps[k]? = some q := ⟨ps[k]'(by rw [HN.out]; exact hlt), List.getElem?_eq_getElem _⟩
      have hdrop : ps.drop k = q :: ps.drop (k + 1) := by
        have hkl : k < ps.length := by rw [HN.out]; exact hlt
        rw [List.drop_eq_getElem_cons hkl]
        rw [List.getElem?_eq_getElem hkl] at hq
        injection hq with hq
        rw [hq]
      have hzq := HZ.out q (List.mem_of_getElem? hq)
      obtain ⟨g, rfl, cellsq⟩ : ∃ g, ao = some ⟨g, 0, none⟩ ∧ ∀ j, j < 4 → wr.cell? ⟨g, k * 4 + j, none⟩ = q.arr[j]? := by
        obtain ⟨ao', cap', e1, h1⟩ := HV.out
        injection e1 with e1 e2 e3
        subst e1
        rcases h1 with h1 | ⟨g, rfl, h1⟩
        · rw [h1] at hq; simp at hq
        · refine ⟨g, rfl, fun j hj => ?_⟩
          have h2 := h1 k q hq j hj
          obtain ⟨v, hv⟩ : ∃ v, q.arr[j]? = some v := ⟨q.arr[j]'(by simp [Pst.arr]; omega), Array.getElem?_eq_getElem _⟩
          rw [hv] at h2 ⊢
          obtain ⟨h3, h4⟩ := HF.out g rfl
          have h5 : W0.cell? ⟨g, k * 4 + j, none⟩ = some v := (BW.out.cell (p := ⟨g, k * 4 + j, none⟩) h4).trans h2
          exact HT.out.cell h5 h3
      have HDROP := Lib.hid hdrop
      obtain ⟨qk, qs, qd, qn⟩ := q
      have g0 : wr.cell? ⟨g, k * 4, none⟩ = some (.string qk) := (cellsq 0 (by omega)).trans rfl
      have g1 : wr.cell? ⟨g, k * 4 + 1, none⟩ = some (.string qs) := (cellsq 1 (by omega)).trans rfl
      have g2 : wr.cell? ⟨g, k * 4 + 2, none⟩ = some (.string qd) := (cellsq 2 (by omega)).trans rfl
      have g3 : wr.cell? ⟨g, k * 4 + 3, none⟩ = some (.int .i64 qn) := (cellsq 3 (by omega)).trans rfl
      have ba : Below wr.heap.size wr (wr.alloc (.cells #[.string qk, .string qs, .string qd, .int .i64 qn] 24)) := (Below.refl _ _).alloc (Nat.le_refl _) _
      have x1 : (wr.alloc (.cells #[.string qk, .string qs, .string qd, .int .i64 qn] 24)).cell? ⟨B1, 0, none⟩ = some (.pointer (some ⟨p, 0, none⟩)) := (cell_of_row _ _ 0 _ _ _ (heap_below R1.out ba)).trans rfl
      have hq2 := heap_alloc_new wr (.cells #[.string qk, .string qs, .string qd, .int .i64 qn] 24)
      have c0 := (cell_of_row _ _ 0 _ _ _ hq2).trans rfl
      have c1 := (cell_of_row _ _ 1 _ _ _ hq2).trans rfl
      have c2 := (cell_of_row _ _ 2 _ _ _ hq2).trans rfl
      have c3 := (cell_of_row _ _ 3 _ _ _ hq2).trans rfl
      obtain ⟨vs', vk', vb', hA', hFF'⟩ := HL.out
      have CP : Hid (Calls Tryz.prog 11 #[.pointer (some ⟨p, 0, none⟩), .agg #[.string qk, .string qs, .string qd, .int .i64 qn]] (wr.alloc (.cells #[.string qk, .string qs, .string qd, .int .i64 qn] 24)) (Posted p (Led.post (L ++ M) ⟨qk, qs, qd, qn⟩) (c + 2 * k + 2) F' (wr.alloc (.cells #[.string qk, .string qs, .string qd, .int .i64 qn] 24)))) := by
        show Calls _ _ _ _ _
        rw [hFF']
        exact post_at (hA'.below ba) ⟨qk, qs, qd, qn⟩ (by omega) hzq
      have BA := Lib.hid ba
      clear hdrop cellsq hq2 ba hA' hFF' hzq hq
      go_wp2_with fail
      refine CP.out.mono ?_
      rintro e w2 ⟨F2, rfl, hl2, ht2, hf2⟩
      have hT2 : Turned F W0 w2 := (HT.out.trans (Turned.of_below (F := fun _ => False) BA.out) (fun k f => f.elim)).trans ht2 (fun b hb => HFF.out b hb)
      have hF2 : ∀ b, F2 b → F b ∨ W0.heap.size ≤ b := by
        intro b hb
        rcases hf2 b hb with g | g
        · exact HFF.out b g
        · exact .inr (Nat.le_trans (Nat.le_trans HT.out.size BA.out.size) g)
      have HL2 := Lib.hid hl2
      have HT2 := Lib.hid hT2
      have HF2 := Lib.hid hF2
      clear hl2 ht2 hf2 hT2 hF2 CP x1 c0 c1 c2 c3 g0 g1 g2 g3
      obtain ⟨code, hcode⟩ : ∃ code, (Led.post (L ++ M) ⟨qk, qs, qd, qn⟩).1 = code := ⟨_, rfl⟩
      have HC := Lib.hid hcode
      rw [hcode]
      clear hcode
      by_cases h0 : code = 0
      · subst h0
        have d1 : ((0 : Int) != 0) = false := by decide
        go_wp2_with fail
        go_roundw
        case rel =>
          obtain ⟨M', hM', hlen⟩ : ∃ M', (Led.post (L ++ M) ⟨qk, qs, qd, qn⟩).2 = L ++ M' ∧ M'.length ≤ k + 1 := by
            rcases Led.post_snd (L ++ M) ⟨qk, qs, qd, qn⟩ with h | h
            · exact ⟨M, h, by omega⟩
            · exact ⟨M ++ [⟨qk, qs, qd, qn⟩], by rw [h]; simp, by simp; omega⟩
          refine ⟨k + 1, M', by omega, by go_num, hlen, ⟨F2, by rw [← hM', show c + 2 * (k + 1) = c + 2 * k + 2 by omega]; exact HL2.out, HT2.out, HF2.out⟩, ?_⟩
          rw [HRUN.out, HDROP.out, Led.run, if_pos HC.out, hM']
        case measure => simp [intOf]; omega
      · have d1 : (code != 0) = true := by simpa using h0
        have H0 := Lib.hid h0
        have sz1 := (Array.getElem?_eq_some_iff.1 HB1.out).1
        have sz2 := (Array.getElem?_eq_some_iff.1 HB2.out).1
        have sz3 := (Array.getElem?_eq_some_iff.1 HB3.out).1
        have nf2 : ∀ b, W0.heap.size > b → ¬ F b → ¬ F2 b := fun b h1 h3 f => by rcases HF2.out b f with g | g; exact h3 g; omega
        have n1 := nf2 B1 sz1 NF1.out.2
        have n2 := nf2 B2 sz2 NF2.out.2
        have n3 := nf2 B3 sz3 NF3.out.2
        have r1 : w2.heap[B1]? = some (.cells #[.pointer (some ⟨p, 0, none⟩)] 26 (0, 0)) := (HT2.out.block B1 sz1 NF1.out.2).trans HB1.out
        have r2 : w2.heap[B2]? = some (.cells #[.int .i64 0] 32 (0, 0)) := (HT2.out.block B2 sz2 NF2.out.2).trans HB2.out
        have r3 : w2.heap[B3]? = some (.cells #[.int .i64 m] 3 (0, 0)) := (HT2.out.block B3 sz3 NF3.out.2).trans HB3.out
        have N1 := Lib.hid n1
        have N2 := Lib.hid n2
        have N3 := Lib.hid n3
        have S1 := Lib.hid r1
        have S2 := Lib.hid r2
        have S3 := Lib.hid r3
        have z2 : w2.cell? ⟨B2, 0, none⟩ = some (.int .i64 0) := (cell_of_row _ _ 0 _ _ _ r2).trans rfl
        have f2 : w2.frozen? ⟨B2, 0, none⟩ = false := frozen_of_row _ _ _ _ _ r2
        clear sz1 sz2 sz3 nf2 n1 n2 n3 r1 r2 r3 h0
        go_wp2_with fail
        clear z2 f2
        have c2 : (w2.setCell ⟨B2, 0, none⟩ (.int .i64 code)).heap[B2]? = some (.cells #[.int .i64 code] 32 (0, 0)) := (heap_setCell_same w2 B2 0 _ _ _ S2.out).trans rfl
        have c1 : (w2.setCell ⟨B2, 0, none⟩ (.int .i64 code)).heap[B1]? = some (.cells #[.pointer (some ⟨p, 0, none⟩)] 26 (0, 0)) := (heap_setCell_other w2 _ B1 _ (by show B1 ≠ B2; rw [← EB2.out]; omega)).trans S1.out
        have c3 : (w2.setCell ⟨B2, 0, none⟩ (.int .i64 code)).heap[B3]? = some (.cells #[.int .i64 m] 3 (0, 0)) := (heap_setCell_other w2 _ B3 _ (by show B3 ≠ B2; rw [← EB3.out]; omega)).trans S3.out
        have hpost : (Led.post (L ++ M) ⟨qk, qs, qd, qn⟩).2 = L ++ M := Led.post_fail (by rw [HC.out]; exact H0.out)
        have l1 := HL2.out
        rw [hpost] at l1
        replace l1 := l1.set B2 0 (.int .i64 code) N2.out
        have t1 : Turned F w (w2.setCell ⟨B2, 0, none⟩ (.int .i64 code)) := ((Turned.of_below BW.out).trans HT2.out (fun k h => .inl h)).set B2 0 _ (by rw [EB1.out, ← EB2.out]; omega)
        generalize w2.setCell ⟨B2, 0, none⟩ (.int .i64 code) = wX at *
        have x1 : wX.cell? ⟨B1, 0, none⟩ = some (.pointer (some ⟨p, 0, none⟩)) := (cell_of_row _ _ 0 _ _ _ c1).trans rfl
        have x2 : wX.cell? ⟨B2, 0, none⟩ = some (.int .i64 code) := (cell_of_row _ _ 0 _ _ _ c2).trans rfl
        have x3 : wX.cell? ⟨B3, 0, none⟩ = some (.int .i64 L.length) := by rw [HM.out]; exact (cell_of_row _ _ 0 _ _ _ c3).trans rfl
        refine leaves_cons (f := 40) (args := #[.pointer (some ⟨B2, 0, none⟩), .pointer (some ⟨B1, 0, none⟩), .pointer (some ⟨B3, 0, none⟩)]) (by simp) (by simp [go_sem]) ?_
        refine (allClosure_any .returning l1 (by omega) x1 x2 x3 N1.out N2.out N3.out).mono ?_
        rintro e u' w'' ⟨rfl, rfl, hst⟩
        rw [if_neg H0.out] at hst
        obtain ⟨F3, q1, q2, q3⟩ := hst
        have r2 : w''.cell? ⟨B2, 0, none⟩ = some (.int .i64 code) := q2.cell x2 N2.out
        have ha := run_all (HRUN.out.trans (by rw [HDROP.out, Led.run, if_neg (by rw [HC.out]; exact H0.out), HC.out]))
        refine ⟨.tuple #[.int .i64 k, .int .i64 code], by simp [results, Tryz.results20, go_sem, r2], ?_⟩
        unfold AllOf
        rw [ha]
        refine ⟨rfl, ?_⟩
        show Step p (if code = 0 then L ++ M else L) _ F w w''
        rw [if_neg H0.out]
        refine Step.then t1 (fun b hb => ?_) ⟨F3, q1.mono (by omega), q2, q3⟩
        rcases HF2.out b hb with g | g
        · exact .inl g
        · exact .inr (Nat.le_trans BW.out.size g)
    · obtain rfl : k = n := by omega
      have z2 : wr.cell? ⟨B2, 0, none⟩ = some (.int .i64 0) := (cell_of_row _ _ 0 _ _ _ R2.out).trans rfl
      have f2 : wr.frozen? ⟨B2, 0, none⟩ = false := frozen_of_row _ _ _ _ _ R2.out
      go_wp2_with fail
      clear z2 f2
      have c2 : (wr.setCell ⟨B2, 0, none⟩ (.int .i64 0)).heap[B2]? = some (.cells #[.int .i64 0] 32 (0, 0)) := (heap_setCell_same wr B2 0 _ _ _ R2.out).trans rfl
      have c1 : (wr.setCell ⟨B2, 0, none⟩ (.int .i64 0)).heap[B1]? = some (.cells #[.pointer (some ⟨p, 0, none⟩)] 26 (0, 0)) := (heap_setCell_other wr _ B1 _ (by show B1 ≠ B2; rw [← EB2.out]; omega)).trans R1.out
      have c3 : (wr.setCell ⟨B2, 0, none⟩ (.int .i64 0)).heap[B3]? = some (.cells #[.int .i64 m] 3 (0, 0)) := (heap_setCell_other wr _ B3 _ (by show B3 ≠ B2; rw [← EB3.out]; omega)).trans R3.out
      have l1 := HL.out.set B2 0 (.int .i64 0) NF2.out.1
      have t1 : Turned F w (wr.setCell ⟨B2, 0, none⟩ (.int .i64 0)) := ((Turned.of_below BW.out).trans HT.out (fun k h => .inl h)).set B2 0 _ (by rw [EB1.out, ← EB2.out]; omega)
      generalize wr.setCell ⟨B2, 0, none⟩ (.int .i64 0) = wX at *
      have x1 : wX.cell? ⟨B1, 0, none⟩ = some (.pointer (some ⟨p, 0, none⟩)) := (cell_of_row _ _ 0 _ _ _ c1).trans rfl
      have x2 : wX.cell? ⟨B2, 0, none⟩ = some (.int .i64 0) := (cell_of_row _ _ 0 _ _ _ c2).trans rfl
      have x3 : wX.cell? ⟨B3, 0, none⟩ = some (.int .i64 L.length) := by rw [HM.out]; exact (cell_of_row _ _ 0 _ _ _ c3).trans rfl
      refine leaves_cons (f := 40) (args := #[.pointer (some ⟨B2, 0, none⟩), .pointer (some ⟨B1, 0, none⟩), .pointer (some ⟨B3, 0, none⟩)]) (by simp) (by simp [go_sem]) ?_
      refine (allClosure_any .returning l1 (by omega) x1 x2 x3 NF1.out.1 NF2.out.1 NF3.out.1).mono ?_
      rintro e u' w'' ⟨rfl, rfl, hst⟩
      rw [if_pos rfl] at hst
      obtain ⟨F2, q1, q2, q3⟩ := hst
      have r2 : w''.cell? ⟨B2, 0, none⟩ = some (.int .i64 0) := q2.cell x2 NF2.out.1
      have ha := run_all (HRUN.out.trans (by rw [List.drop_of_length_le (by rw [HN.out]; exact Nat.le_refl _), Led.run]))
      refine ⟨.tuple #[.int .i64 k, .int .i64 0], by simp [results, Tryz.results20, go_sem, r2], ?_⟩
      unfold AllOf
      rw [ha]
      refine ⟨rfl, ?_⟩
      show Step p (L ++ M) _ F w w''
      refine Step.then t1 (fun b hb => ?_) ⟨F2, q1.mono (by omega), q2, q3⟩
      rcases HFF.out b hb with g | g
      · exact .inl g
      · exact .inr (Nat.le_trans BW.out.size g)
end Go.Proofs.YtfligfompdcddaaGreatDoor
