/- The contract of digest.mix. The contract of sortesref03.rounds. -/
import Derived.Test.YtpblfpnldbdncaaGreatDoorG03
import Derived.Deep.OwnRows
import Derived.RegionTactic
import Derived.BigRegion
import Derived.StillTailTactics
import Derived.Deep.WholeRow
import Derived.Laws.CopyOwn
namespace Go.Proofs.YtpblfpnldbdncaaGreatDoor
open Go.RowKit
set_option linter.unusedVariables false

def stVal (s : Sha.St) : Value := .agg #[.int .u32 s.a, .int .u32 s.b, .int .u32 s.c, .int .u32 s.d, .int .u32 s.e, .int .u32 s.f, .int .u32 s.g, .int .u32 s.h]
/-- the package's tables lie in memory -/
def Tabs (w : World) : Prop := (∀ i, i < 8 → w.cell? ⟨0, i, none⟩ = some (.int .u32 ((Sha.stList Sha.iv).getD i 0 : Nat))) ∧ (∀ i, i < 64 → w.cell? ⟨1, i, none⟩ = some (.int .u32 (Sha.ks.getD i 0 : Nat))) ∧ 0 < w.heap.size ∧ 1 < w.heap.size

/-- the memory of a call of mix: the state, the result, the schedule -/
def MixMem (w wr : World) (st : Array Value) (f : Nat → Nat) : Prop :=
  wr.rowIs w.heap.size 122 8 (fun i => st.getD i undef) ∧ wr.rowIs (w.heap.size + 1) 122 8 (fun _ => .int .u32 0) ∧ wr.rowIs (w.heap.size + 1 + 1) 155 64 (fun j => .int .u32 (f j : Nat)) ∧ Below w.heap.size w wr
theorem MixMem.drew {w wr : World} {st : Array Value} {f : Nat → Nat} (h : MixMem w wr st f) : MixMem w wr.drew st f := ⟨h.1, h.2.1, h.2.2.1, h.2.2.2.drew⟩
theorem MixMem.drewN {w wr : World} {st : Array Value} {f : Nat → Nat} (h : MixMem w wr st f) (n : Nat) : MixMem w (wr.drewN n) st f := ⟨h.1, h.2.1, h.2.2.1, below_drewN h.2.2.2 n⟩
theorem MixMem.congr {w wr : World} {st : Array Value} {f g : Nat → Nat} (h : MixMem w wr st f) (e : ∀ j, j < 64 → f j = g j) : MixMem w wr st g := ⟨h.1, h.2.1, h.2.2.1.congr (fun j hj => by rw [e j hj]), h.2.2.2⟩
theorem MixMem.store {w wr : World} {st : Array Value} {f : Nat → Nat} (h : MixMem w wr st f) (j v : Nat) (x : Int) (hx : x = v) : MixMem w (wr.setCell ⟨w.heap.size + 1 + 1, j, none⟩ (.int .u32 x)) st (fun i => if i = j then v else f i) := by
  subst hx
  refine ⟨h.1.setOther (by simp; omega) _, h.2.1.setOther (by simp) _, ?_, h.2.2.2.setCell (by simp; omega) _⟩
  refine (h.2.2.1.set j _).congr fun i _ => ?_
  by_cases e : i = j <;> simp [e]
theorem zeros_row (n : Nat) (v : Value) (i : Nat) (h : i < n) : (Array.replicate n v)[i]? = some v := by simp [h]
theorem mix_world (w : World) (Q : World → Prop) (a b c d e f g h : Value) (z8 z64 : Array Value) (t u : TypeId) (h8 : z8 = Array.replicate 8 (.int .u32 0)) (h64 : z64 = Array.replicate 64 (.int .u32 0))
    (k : ∀ W0 : World, W0.rowIs w.heap.size t 8 (fun i => #[a, b, c, d, e, f, g, h].getD i undef) → W0.rowIs (w.heap.size + 1) t 8 (fun _ => .int .u32 0) → W0.rowIs (w.heap.size + 1 + 1) u 64 (fun _ => .int .u32 0) → Below w.heap.size w W0 → W0.heap.size = w.heap.size + 3 → Q W0) :
    Q (((w.alloc (.cells #[a, b, c, d, e, f, g, h] t)).alloc (.cells z8 t)).alloc (.cells z64 u)) := by
  subst h8 h64
  apply k
  · refine World.rowIs.alloc (World.rowIs.alloc (World.rowIs_alloc w #[a, b, c, d, e, f, g, h] t _ ?_) _) _
    intro i hi
    match i, hi with
    | 0, _ => rfl
    | 1, _ => rfl
    | 2, _ => rfl
    | 3, _ => rfl
    | 4, _ => rfl
    | 5, _ => rfl
    | 6, _ => rfl
    | 7, _ => rfl
    | i + 8, hi => simp at hi; omega
  · have h := World.rowIs_alloc (w.alloc (.cells #[a, b, c, d, e, f, g, h] t)) (Array.replicate 8 (.int .u32 0)) t (fun _ => .int .u32 0) (fun i hi => zeros_row 8 _ i (by simpa using hi))
    simp only [Array.size_replicate] at h
    have h2 := h.alloc (.cells (Array.replicate 64 (.int .u32 0)) u)
    simpa using h2
  · have h := World.rowIs_alloc ((w.alloc (.cells #[a, b, c, d, e, f, g, h] t)).alloc (.cells (Array.replicate 8 (.int .u32 0)) t)) (Array.replicate 64 (.int .u32 0)) u (fun _ => .int .u32 0) (fun i hi => zeros_row 64 _ i (by simpa using hi))
    simpa using h
  · exact (((Below.refl _ _).alloc (Nat.le_refl _) _).alloc (by simp) _).alloc (by simp; omega) _
  · simp

set_option maxHeartbeats 4000000 in
set_option maxRecDepth 100000 in
theorem mix_any (a b c d e f g h : Nat) (s : ByteArray) (w : World) (hs : s.size = 64) (hT : Tabs w)
    (ha : a < 4294967296) (hb : b < 4294967296) (hc : c < 4294967296) (hd : d < 4294967296) (he : e < 4294967296) (hf : f < 4294967296) (hg : g < 4294967296) (hh : h < 4294967296) :
    Calls Tryz.prog 116 #[.agg #[.int .u32 a, .int .u32 b, .int .u32 c, .int .u32 d, .int .u32 e, .int .u32 f, .int .u32 g, .int .u32 h], .string s] w fun e' w' => e' = .returned (stVal (Sha.mix ⟨a, b, c, d, e, f, g, h⟩ s.data.toList)) ∧ Below w.heap.size w w' := by
  have HT := Lib.hid hT
  have hs1 : 64 ≤ s.size := by omega
  have hs2 : s.size ≤ 64 := by omega
  clear hT hs
  go_enter Tryz.func116, Tryz.ntmps116
  go_wp2_with fail
  refine mix_world w (Code.wp _ _ _ _) _ _ _ _ _ _ _ _ _ _ _ _ rfl rfl ?_
  intro W0 hr8 hz8 hr64 hbl hsz
  have hM0 : MixMem w W0 #[Value.int .u32 a, .int .u32 b, .int .u32 c, .int .u32 d, .int .u32 e, .int .u32 f, .int .u32 g, .int .u32 h] (Sha.arrAt s.data.toList 0) := ⟨hr8, hz8, hr64, hbl⟩
  clear hr8 hz8 hr64 hbl hsz
  generalize hst : #[Value.int .u32 a, .int .u32 b, .int .u32 c, .int .u32 d, .int .u32 e, .int .u32 f, .int .u32 g, .int .u32 h] = st at hM0
  have HST := Lib.hid hst
  clear hst
  go_loopw [6, 23] (fun _ i wr => ∃ k : Nat, k ≤ 64 ∧ i = .int .i64 k ∧ MixMem w wr st (Sha.arrAt s.data.toList k)) (fun _ i _ => 64 - (intOf i).toNat)
  case atStart => exact ⟨0, by omega, rfl, hM0⟩
  case round =>
    obtain ⟨k, hk, rfl, hM⟩ := hrel
    by_cases hlt : k < 64
    · have hcell := hM.2.2.1.cell (i := k / 4) (by omega)
      have hfr := hM.2.2.1.frozen (k / 4)
      have hal := Sha.arrAt_lt s.data.toList k (k / 4)
      have hki : (k : Int) < (s.size : Int) := by omega
      have hkn : k < s.size := by omega
      have HW := Lib.hid (Sha.arr_walk' s k hkn)
      go_wp2_with fail
      go_region
      go_wp2_with fail
      go_roundw
      case rel => exact ⟨k + 1, by omega, by go_num, ((hM.store (k / 4) _ _ HW.out).congr fun j _ => Sha.arrAt_step _ _ _).drew⟩
      case measure => simp [intOf]; omega
    · have hdk : decide ((k : Int) < 64) = false := by simp; omega
      have hM1 : MixMem w wr st (fun j => (Sha.sched s.data.toList 0).getD j 0) := by
        obtain rfl : k = 64 := by omega
        exact hM.congr fun j hj => Sha.arrAt_end _ j hj
      clear hM hM0 hlt hk
      go_wp2_with fail
      go_loopw [7, 8, 9, 10, 11] (fun i _ _ _ _ wr => ∃ n : Nat, n ≤ 48 ∧ i = .int .i64 ((n : Int) + 16) ∧ MixMem w wr st (fun j => (Sha.sched s.data.toList n).getD j 0)) (fun i _ _ _ _ _ => 64 - (intOf i).toNat)
      case atStart => exact ⟨0, by omega, rfl, hM1⟩
      case round =>
        obtain ⟨n, hn, rfl, hM⟩ := hrel
        by_cases hlt : n < 48
        · obtain ⟨x15, ex15⟩ : ∃ v, (Sha.sched s.data.toList n).getD (n + 1) 0 = v := ⟨_, rfl⟩
          have cx15 : wr.cell? ⟨w.heap.size + 1 + 1, n + 1, none⟩ = some (.int .u32 (x15 : Int)) := by rw [← ex15]; exact hM.2.2.1.cell (i := n + 1) (by omega)
          have lx15 : x15 < 4294967296 := by rw [← ex15]; exact Sha.sched_lt s.data.toList n (n + 1)
          have Ex15 := Lib.hid ex15
          clear ex15
          obtain ⟨x2, ex2⟩ : ∃ v, (Sha.sched s.data.toList n).getD (n + 14) 0 = v := ⟨_, rfl⟩
          have cx2 : wr.cell? ⟨w.heap.size + 1 + 1, n + 14, none⟩ = some (.int .u32 (x2 : Int)) := by rw [← ex2]; exact hM.2.2.1.cell (i := n + 14) (by omega)
          have lx2 : x2 < 4294967296 := by rw [← ex2]; exact Sha.sched_lt s.data.toList n (n + 14)
          have Ex2 := Lib.hid ex2
          clear ex2
          obtain ⟨x16, ex16⟩ : ∃ v, (Sha.sched s.data.toList n).getD (n) 0 = v := ⟨_, rfl⟩
          have cx16 : wr.cell? ⟨w.heap.size + 1 + 1, n, none⟩ = some (.int .u32 (x16 : Int)) := by rw [← ex16]; exact hM.2.2.1.cell (i := n) (by omega)
          have lx16 : x16 < 4294967296 := by rw [← ex16]; exact Sha.sched_lt s.data.toList n (n)
          have Ex16 := Lib.hid ex16
          clear ex16
          obtain ⟨x7, ex7⟩ : ∃ v, (Sha.sched s.data.toList n).getD (n + 9) 0 = v := ⟨_, rfl⟩
          have cx7 : wr.cell? ⟨w.heap.size + 1 + 1, n + 9, none⟩ = some (.int .u32 (x7 : Int)) := by rw [← ex7]; exact hM.2.2.1.cell (i := n + 9) (by omega)
          have lx7 : x7 < 4294967296 := by rw [← ex7]; exact Sha.sched_lt s.data.toList n (n + 9)
          have Ex7 := Lib.hid ex7
          clear ex7
          obtain ⟨x0, ex0⟩ : ∃ v, (Sha.sched s.data.toList n).getD (n + 16) 0 = v := ⟨_, rfl⟩
          have cx0 : wr.cell? ⟨w.heap.size + 1 + 1, n + 16, none⟩ = some (.int .u32 (x0 : Int)) := by rw [← ex0]; exact hM.2.2.1.cell (i := n + 16) (by omega)
          have lx0 : x0 < 4294967296 := by rw [← ex0]; exact Sha.sched_lt s.data.toList n (n + 16)
          have Ex0 := Lib.hid ex0
          clear ex0
          have hfr := hM.2.2.1.frozen (n + 16)
          go_wp2_with fail
          go_quiet (fail)
          go_wp2_with fail
          refine (rotate_int _ _ _ (by omega) (by omega) (by omega)).mono ?_
          rintro e' w' ⟨rfl, hw'⟩
          subst hw'
          go_wp2_with fail
          refine (rotate_int _ _ _ (by omega) (by omega) (by omega)).mono ?_
          rintro e' w' ⟨rfl, hw'⟩
          subst hw'
          go_wp2_with fail
          refine (rotate_int _ _ _ (by omega) (by omega) (by omega)).mono ?_
          rintro e' w' ⟨rfl, hw'⟩
          subst hw'
          go_wp2_with fail
          refine (rotate_int _ _ _ (by omega) (by omega) (by omega)).mono ?_
          rintro e' w' ⟨rfl, hw'⟩
          subst hw'
          go_wp2_with fail
          go_region
          go_wp2_with fail
          go_roundw
          case rel =>
            refine ⟨n + 1, by omega, by go_num, ?_⟩
            have HW := Sha.more_walk x16 x15 x7 x2 lx15 lx2
            refine ((hM.drewN (nq + 1)).store (n + 16) _ _ HW).congr fun j _ => ?_
            rw [← Ex16.out, ← Ex15.out, ← Ex7.out, ← Ex2.out]
            exact Sha.sched_step _ _ _
          case measure => simp [intOf]; omega
        · have hdn : decide ((n : Int) + 16 < 64) = false := by simp; omega
          have hM2 : MixMem w wr st (fun j => (Sha.sched s.data.toList 48).getD j 0) := by
            obtain rfl : n = 48 := by omega
            exact hM
          clear hM hM1 hlt hn
          go_wp2_with fail
          have s0 : wr.cell? ⟨w.heap.size, 0, none⟩ = some (.int .u32 (a : Int)) := by have := hM2.1.cell (i := 0) (by omega); rw [← HST.out] at this; exact this
          have s1 : wr.cell? ⟨w.heap.size, 1, none⟩ = some (.int .u32 (b : Int)) := by have := hM2.1.cell (i := 1) (by omega); rw [← HST.out] at this; exact this
          have s2 : wr.cell? ⟨w.heap.size, 2, none⟩ = some (.int .u32 (c : Int)) := by have := hM2.1.cell (i := 2) (by omega); rw [← HST.out] at this; exact this
          have s3 : wr.cell? ⟨w.heap.size, 3, none⟩ = some (.int .u32 (d : Int)) := by have := hM2.1.cell (i := 3) (by omega); rw [← HST.out] at this; exact this
          have s4 : wr.cell? ⟨w.heap.size, 4, none⟩ = some (.int .u32 (e : Int)) := by have := hM2.1.cell (i := 4) (by omega); rw [← HST.out] at this; exact this
          have s5 : wr.cell? ⟨w.heap.size, 5, none⟩ = some (.int .u32 (f : Int)) := by have := hM2.1.cell (i := 5) (by omega); rw [← HST.out] at this; exact this
          have s6 : wr.cell? ⟨w.heap.size, 6, none⟩ = some (.int .u32 (g : Int)) := by have := hM2.1.cell (i := 6) (by omega); rw [← HST.out] at this; exact this
          have s7 : wr.cell? ⟨w.heap.size, 7, none⟩ = some (.int .u32 (h : Int)) := by have := hM2.1.cell (i := 7) (by omega); rw [← HST.out] at this; exact this
          go_quiet (fail)
          go_wp2_with fail
          go_quiet (fail)
          go_wp2_with fail
          go_loopw [12, 13, 14, 15, 16, 17, 18, 19, 20, 21, 22, 99] (fun va vb vc vd ve vf vg vh _ _ _ i wr => ∃ k A B C D E F G H : Nat, k ≤ 64 ∧ i = .int .i64 k ∧ va = .int .u32 (A : Int) ∧ vb = .int .u32 (B : Int) ∧ vc = .int .u32 (C : Int) ∧ vd = .int .u32 (D : Int) ∧ ve = .int .u32 (E : Int) ∧ vf = .int .u32 (F : Int) ∧ vg = .int .u32 (G : Int) ∧ vh = .int .u32 (H : Int) ∧ A < 4294967296 ∧ B < 4294967296 ∧ C < 4294967296 ∧ D < 4294967296 ∧ E < 4294967296 ∧ F < 4294967296 ∧ G < 4294967296 ∧ H < 4294967296 ∧ Hid ((⟨A, B, C, D, E, F, G, H⟩ : Sha.St) = Sha.rounds (Sha.sched s.data.toList 48) ⟨a, b, c, d, e, f, g, h⟩ k) ∧ MixMem w wr st (fun j => (Sha.sched s.data.toList 48).getD j 0)) (fun _ _ _ _ _ _ _ _ _ _ _ i _ => 64 - (intOf i).toNat)
          case atStart => exact ⟨0, a, b, c, d, e, f, g, h, by omega, rfl, rfl, rfl, rfl, rfl, rfl, rfl, rfl, rfl, ha, hb, hc, hd, he, hf, hg, hh, rfl, (hM2.drewN _).drewN _⟩
          case round =>
            obtain ⟨k, A, B, C, D, E, F, G, H, hk, rfl, rfl, rfl, rfl, rfl, rfl, rfl, rfl, rfl, lA, lB, lC, lD, lE, lF, lG, lH, HR, hM⟩ := hrel
            by_cases hlt : k < 64
            · obtain ⟨wk, ewk⟩ : ∃ v, (Sha.sched s.data.toList 48).getD k 0 = v := ⟨_, rfl⟩
              have cwk : wr.cell? ⟨w.heap.size + 1 + 1, k, none⟩ = some (.int .u32 (wk : Int)) := by rw [← ewk]; exact hM.2.2.1.cell (i := k) (by omega)
              have lwk : wk < 4294967296 := by rw [← ewk]; exact Sha.sched_lt _ _ _
              obtain ⟨kk, ekk⟩ : ∃ v, Sha.ks.getD k 0 = v := ⟨_, rfl⟩
              have ckk : wr.cell? ⟨1, k, none⟩ = some (.int .u32 (kk : Int)) := by rw [← ekk, hM.2.2.2.cell (p := ⟨1, k, none⟩) HT.out.2.2.2]; exact HT.out.2.1 k hlt
              have lkk : kk < 4294967296 := by rw [← ekk]; exact Sha.ks_lt _
              have EWK := Lib.hid ewk
              have EKK := Lib.hid ekk
              clear ewk ekk
              have hki : (k : Int) < 64 := by omega
              have hnot := Sha.not_walk
              go_wp2_with fail
              go_quiet ((go_at_call 152; with_reducible exact Calls.quiet_of_same (rotate_int _ _ _ lE (by decide) (by decide))))
              rw [Sha.t_walk A B C D E F G H kk wk lE lF lG]
              have lT := Sha.add_lt (Sha.add (Sha.add (Sha.add H (Sha.S1 E)) (Sha.ch E F G)) kk) wk
              obtain ⟨T, eT⟩ : ∃ v, Sha.tOf ⟨A, B, C, D, E, F, G, H⟩ kk wk = v := ⟨_, rfl⟩
              rw [eT]
              have lT : T < 4294967296 := by rw [← eT]; exact lT
              have ET := Lib.hid eT
              clear eT
              go_wp2_with fail
              refine (rotate_int _ _ _ lA (by decide) (by decide)).mono ?_
              rintro e' w' ⟨rfl, hw'⟩
              subst hw'
              go_wp2_with fail
              refine (rotate_int _ _ _ lA (by decide) (by decide)).mono ?_
              rintro e' w' ⟨rfl, hw'⟩
              subst hw'
              go_wp2_with fail
              refine (rotate_int _ _ _ lA (by decide) (by decide)).mono ?_
              rintro e' w' ⟨rfl, hw'⟩
              subst hw'
              go_wp2_with fail
              go_roundw
              case rel =>
                have HU := Sha.u_walk A B C D E F G H lA lB lC
                rw [HU]
                refine ⟨k + 1, Sha.add T (Sha.uOf ⟨A, B, C, D, E, F, G, H⟩), A, B, C, Sha.add D T, E, F, G, by omega, by go_num, by unfold Sha.add; go_num, rfl, rfl, rfl, by unfold Sha.add; go_num, rfl, rfl, rfl, Sha.add_lt _ _, lA, lB, lC, Sha.add_lt _ _, lE, lF, lG, ?_, hM.drewN _⟩
                show _ = _
                rw [Sha.rounds, ← HR.out, EKK.out, EWK.out, Sha.round, ET.out]
              case measure => simp [intOf]; omega
            · have hdk2 : decide ((k : Int) < 64) = false := by simp; omega
              have HRR : Hid ((⟨A, B, C, D, E, F, G, H⟩ : Sha.St) = Sha.rounds (Sha.sched s.data.toList 48) ⟨a, b, c, d, e, f, g, h⟩ 64) := by
                obtain rfl : k = 64 := by omega
                exact HR
              clear HR hlt hk s0 s1 s2 s3 s4 s5 s6 s7 hM2
              have s0 : wr.cell? ⟨w.heap.size, 0, none⟩ = some (.int .u32 (a : Int)) := by have := hM.1.cell (i := 0) (by omega); rw [← HST.out] at this; exact this
              have z0 : wr.cell? ⟨w.heap.size + 1, 0, none⟩ = some (.int .u32 0) := hM.2.1.cell (i := 0) (by omega)
              have y0 : wr.frozen? ⟨w.heap.size + 1, 0, none⟩ = false := hM.2.1.frozen 0
              have s1 : wr.cell? ⟨w.heap.size, 1, none⟩ = some (.int .u32 (b : Int)) := by have := hM.1.cell (i := 1) (by omega); rw [← HST.out] at this; exact this
              have z1 : wr.cell? ⟨w.heap.size + 1, 1, none⟩ = some (.int .u32 0) := hM.2.1.cell (i := 1) (by omega)
              have y1 : wr.frozen? ⟨w.heap.size + 1, 1, none⟩ = false := hM.2.1.frozen 1
              have s2 : wr.cell? ⟨w.heap.size, 2, none⟩ = some (.int .u32 (c : Int)) := by have := hM.1.cell (i := 2) (by omega); rw [← HST.out] at this; exact this
              have z2 : wr.cell? ⟨w.heap.size + 1, 2, none⟩ = some (.int .u32 0) := hM.2.1.cell (i := 2) (by omega)
              have y2 : wr.frozen? ⟨w.heap.size + 1, 2, none⟩ = false := hM.2.1.frozen 2
              have s3 : wr.cell? ⟨w.heap.size, 3, none⟩ = some (.int .u32 (d : Int)) := by have := hM.1.cell (i := 3) (by omega); rw [← HST.out] at this; exact this
              have z3 : wr.cell? ⟨w.heap.size + 1, 3, none⟩ = some (.int .u32 0) := hM.2.1.cell (i := 3) (by omega)
              have y3 : wr.frozen? ⟨w.heap.size + 1, 3, none⟩ = false := hM.2.1.frozen 3
              have s4 : wr.cell? ⟨w.heap.size, 4, none⟩ = some (.int .u32 (e : Int)) := by have := hM.1.cell (i := 4) (by omega); rw [← HST.out] at this; exact this
              have z4 : wr.cell? ⟨w.heap.size + 1, 4, none⟩ = some (.int .u32 0) := hM.2.1.cell (i := 4) (by omega)
              have y4 : wr.frozen? ⟨w.heap.size + 1, 4, none⟩ = false := hM.2.1.frozen 4
              have s5 : wr.cell? ⟨w.heap.size, 5, none⟩ = some (.int .u32 (f : Int)) := by have := hM.1.cell (i := 5) (by omega); rw [← HST.out] at this; exact this
              have z5 : wr.cell? ⟨w.heap.size + 1, 5, none⟩ = some (.int .u32 0) := hM.2.1.cell (i := 5) (by omega)
              have y5 : wr.frozen? ⟨w.heap.size + 1, 5, none⟩ = false := hM.2.1.frozen 5
              have s6 : wr.cell? ⟨w.heap.size, 6, none⟩ = some (.int .u32 (g : Int)) := by have := hM.1.cell (i := 6) (by omega); rw [← HST.out] at this; exact this
              have z6 : wr.cell? ⟨w.heap.size + 1, 6, none⟩ = some (.int .u32 0) := hM.2.1.cell (i := 6) (by omega)
              have y6 : wr.frozen? ⟨w.heap.size + 1, 6, none⟩ = false := hM.2.1.frozen 6
              have s7 : wr.cell? ⟨w.heap.size, 7, none⟩ = some (.int .u32 (h : Int)) := by have := hM.1.cell (i := 7) (by omega); rw [← HST.out] at this; exact this
              have z7 : wr.cell? ⟨w.heap.size + 1, 7, none⟩ = some (.int .u32 0) := hM.2.1.cell (i := 7) (by omega)
              have y7 : wr.frozen? ⟨w.heap.size + 1, 7, none⟩ = false := hM.2.1.frozen 7
              go_wp2_with fail
              have HV : stVal (Sha.mix ⟨a, b, c, d, e, f, g, h⟩ s.data.toList) = .agg #[.int .u32 (((a : Int) + (A : Int)) % 4294967296), .int .u32 (((b : Int) + (B : Int)) % 4294967296), .int .u32 (((c : Int) + (C : Int)) % 4294967296), .int .u32 (((d : Int) + (D : Int)) % 4294967296), .int .u32 (((e : Int) + (E : Int)) % 4294967296), .int .u32 (((f : Int) + (F : Int)) % 4294967296), .int .u32 (((g : Int) + (G : Int)) % 4294967296), .int .u32 (((h : Int) + (H : Int)) % 4294967296)] := by
                unfold Sha.mix; rw [← HRR.out]; simp [stVal, Sha.plus, Sha.add]
              rw [HV]
              refine bodyPost_ret (v := .agg #[.int .u32 (((a : Int) + (A : Int)) % 4294967296), .int .u32 (((b : Int) + (B : Int)) % 4294967296), .int .u32 (((c : Int) + (C : Int)) % 4294967296), .int .u32 (((d : Int) + (D : Int)) % 4294967296), .int .u32 (((e : Int) + (E : Int)) % 4294967296), .int .u32 (((f : Int) + (F : Int)) % 4294967296), .int .u32 (((g : Int) + (G : Int)) % 4294967296), .int .u32 (((h : Int) + (H : Int)) % 4294967296)]) (by simp [results, Tryz.results116, go_sem, z0, z1, z2, z3, z4, z5, z6, z7]) rfl ⟨rfl, ?_⟩
              exact (((((((hM.2.2.2.setCell (by simp) _).setCell (by simp) _).setCell (by simp) _).setCell (by simp) _).setCell (by simp) _).setCell (by simp) _).setCell (by simp) _).setCell (by simp) _
end Go.Proofs.YtpblfpnldbdncaaGreatDoor
namespace Go.Proofs.YtpblfpnldbdncaaGreatDoor
open Go.RowKit
set_option linter.unusedVariables false

def ksArr : Array Value := (Sha.ks.map fun (k : Nat) => Value.int .u32 (k : Int)).toArray

set_option maxHeartbeats 1000000 in
set_option maxRecDepth 100000 in
theorem rounds_any (w : World) : Calls Tryz.prog 86 #[] w fun e w' => e = .returned (.agg ksArr) ∧ Below w.heap.size w w' := by
  go_enter Tryz.func86, Tryz.ntmps86
  go_wp2_with (refine wpList_store_row rfl 155 (.tmp 0) (.tmp 1) rfl w.heap.size ksArr rfl (by kernel_rfl) 155 _ (heap_alloc_new _ _) (by kernel_rfl) rfl (by kernel_rfl) ?_)
  refine bodyPost_ret (v := .agg ksArr) (results_cell_row Tryz.results86 _ _ w.heap.size 155 ksArr (0, 0) _ rfl (setRow_heap _ _ _ _ _ _ (heap_alloc_new _ _)) Tryz.underlying155 rfl (by kernel_rfl)) rfl ⟨rfl, ?_⟩
  exact below_setRow ((Below.refl _ _).alloc (Nat.le_refl _) _) (Nat.le_refl _) _
end Go.Proofs.YtpblfpnldbdncaaGreatDoor
