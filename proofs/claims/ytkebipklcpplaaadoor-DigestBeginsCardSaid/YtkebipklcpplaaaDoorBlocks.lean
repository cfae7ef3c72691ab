/- The blocks of a stream; the contract of the iterator blocks$1. -/
import Derived.Test.YtkebipklcpplaaaDoorTailIn
import Derived.Test.YtkebipklcpplaaaDoorTextsWalk
import Derived.Test.YtkebipklcpplaaaDoorShelf
import Derived.RangeFuncNested
import Derived.RangeFuncBound
import Derived.RangeFuncCalls
import Derived.RangeFuncLeaves
import Derived.Shelf.Abstract
import Derived.Shelf.RegionOpen
import Derived.WalkKit
import Derived.OwnWalkIn
import Derived.TacticsInMore
import Derived.LoopNIn
import Derived.LoopIn
import Derived.Sort.BigQuietIn
namespace Go.Proofs.YtkebipklcpplaaaDoor
open Go.RowKit Go.Sort
set_option linter.unusedVariables false
/-- block k of the stream of a seed -/
def Sha.blk (x : List UInt8) (k : Nat) : List UInt8 := Sha.sum (x ++ 47 :: Lib.decDigits k)
abbrev HashL := { l : List UInt8 // l.length = 32 }
def blkH (x : List UInt8) (k : Nat) : HashL := ⟨Sha.blk x k, Sha.sum_length _⟩
/-- what a round keeps -/
def Kq (Bs : Nat) (W W' : World) : Prop := W'.heap[Bs]? = W.heap[Bs]? ∧ (Tabs W → Tabs W')
theorem dec_small (k : Nat) (hk : k < 100) : (Lib.decDigits k).length ≤ 2 := by
  rw [Lib.decDigits]
  split
  · simp
  · rw [Lib.decDigits, dif_pos (by omega)]; simp
theorem abides_below {α : Type} {B : Nat} {J : List α → World → Prop} (hJ : AbidesFrom B J) {s : List α} {W W' : World} (h : J s W) (hb : Below W.heap.size W W') : J s W' :=
  hJ s W W' none h ⟨hb.os, hb.tape, hb.output, hb.size, fun k hk _ => hb.block k hk⟩ (fun r e => by cases e)
theorem wide_fn (f : FuncId) : Fence.wide.fn f ↔ True := Iff.rfl
attribute [local go_sem] Oper.semAt_some Oper.askedIn wide_fn
set_option maxHeartbeats 2000000 in
set_option maxRecDepth 100000 in
theorem blocks1_stops (n : Nat) (hn : 1 ≤ n) (Bn Bs M : Nat) (x : ByteArray) (Wl : World) (hM : M ≤ 100) (hx : x.size ≤ 1000) (hBn : Wl.cell? ⟨Bn, 0, none⟩ = some (.int .i64 (M : Int))) (hBs : Wl.heap[Bs]? = some (.cells #[.string x] 9 (0, 0))) (hT : Tabs Wl) :
    SeqStopsK Fence.wide n Tryd.prog 64 #[.pointer (some ⟨Bn, 0, none⟩), .pointer (some ⟨Bs, 0, none⟩)] (fun h : HashL => #[Value.agg (hashArr h.1)]) (Kq Bs) (fun xs => xs = (List.range M).map (blkH x.data.toList)) (fun _ => True) M Wl := fun l J Jx W hW hJ hJx hY h0 => by
  have hcn : W.cell? ⟨Bn, 0, none⟩ = some (.int .i64 (M : Int)) := (hW.cell (p := ⟨Bn, 0, none⟩) (block_lt_of_cell hBn)).trans hBn
  have hWs := Lib.hid (heap_below hBs hW)
  have hWT := Lib.hid (hT.below hW)
  have HY := Lib.hid hY
  have HJ := Lib.hid hJ
  have H0 := Lib.hid h0
  clear hT hBs hBn hY hJ hJx h0 hW
  refine callsIn_of_wp Tryd.func64 rfl trivial ?_ rfl
  simp only [Tryd.ntmps64, List.size_toArray, List.length_cons, List.length_nil, Nat.reduceAdd, Nat.reduceSub, Array.replicate_succ, Array.replicate_zero, List.push_toArray, List.append_toArray, List.nil_append, List.cons_append]
  gi_wp2
  gi_loopw [6] (fun v wr => ∃ k : Nat, k ≤ M ∧ v = .int .i64 k ∧ Hid (wr.heap[Bs]? = some (.cells #[.string x] 9 (0, 0))) ∧ Hid (Tabs wr) ∧ Hid (J ((List.range k).map (blkH x.data.toList)) wr)) (fun v _ => M - (intOf v).toNat)
  case atStart => exact ⟨0, by omega, rfl, hWs, hWT, H0⟩
  case round =>
    obtain ⟨k, hk, rfl, hs, hTr, hJr⟩ := hrel
    clear hWs hWT H0 hcn
    by_cases hkM : k < M
    · have dk : decide ((k : Int) < (M : Int)) = true := by simp; omega
      have dk' : decide (k < M) = true := by simp; omega
      have cs : wr.cell? ⟨Bs, 0, none⟩ = some (.string x) := (cell_of_row _ _ 0 _ _ _ hs.out).trans rfl
      have p0 : ∀ d os, (grow (redrawn wr d) os).cell? ⟨Bs, 0, none⟩ = some (.string x) := fun d os => ((below_regrown wr d os).cell (p := ⟨Bs, 0, none⟩) (block_lt_of_cell cs)).trans cs
      have dz := dec_small k (by omega)
      obtain ⟨ds, eds⟩ : ∃ s : ByteArray, (⟨(Lib.decDigits k).toArray⟩ : ByteArray) = s := ⟨_, rfl⟩
      have zd : ds.size ≤ 2 := by rw [← eds]; simpa [ByteArray.size] using dz
      have zone : (⟨#[47]⟩ : ByteArray).size = 1 := rfl
      obtain ⟨x1, ex1⟩ : ∃ s : ByteArray, x ++ (⟨#[47]⟩ : ByteArray) = s := ⟨_, rfl⟩
      have z1 : x1.size = x.size + 1 := by rw [← ex1, ByteArray.size_append, zone]
      obtain ⟨x2, ex2⟩ : ∃ s : ByteArray, x1 ++ ds = s := ⟨_, rfl⟩
      have z2 : x2.size ≤ 2000 := by rw [← ex2, ByteArray.size_append]; omega
      have EB : Hid (Sha.sum x2.data.toList = Sha.blk x.data.toList k) := by
        show _ = _
        rw [← ex2, ← ex1, ← eds, Sha.blk]
        congr 1
        simp
      have n1 : ¬ 9223372036854775807 < x.size + 1 := by omega
      have n2 : ¬ 9223372036854775807 < x1.size + ds.size := by omega
      have CI : Hid (∀ V, Calls Tryd.prog 65 #[.int .i64 (k : Int)] V fun e w' => e = .returned (.string ds) ∧ Below V.heap.size V w') := fun V => by
        rw [← eds]
        exact (Tryd.strconv_Itoa_small k (by omega) V).mono fun e w' ⟨he, hw⟩ => ⟨he, by rw [hw]; exact Below.refl _ _⟩
      have CS : Hid (∀ d os, Calls Tryd.prog 16 #[.string x2] (grow (redrawn wr d) os) fun e w' => e = .returned (.agg (hashArr (Sha.blk x.data.toList k))) ∧ Below (grow (redrawn wr d) os).heap.size (grow (redrawn wr d) os) w') := fun d os => by
        have := sum_any x2 (grow (redrawn wr d) os) (by omega) (hTr.out.below (below_regrown _ _ _))
        rw [EB.out] at this
        exact this
      have HK := Lib.hid hk
      clear cs dz eds zd z1 z2 zone
      gi_wp2
      refine wpIn_region_tail_below 7 (by kernel_rfl) (by kernel_rfl) (by kernel_rfl) ?_
      simp only [List.take_succ_cons, List.take_zero, List.drop_succ_cons, List.drop_zero]
      repeat (gi_big_quiet_step ((first | with_reducible exact CallsIn.regrown_of (callsIn_wide.2 (CI.out _)) | with_reducible exact CallsIn.regrown_of (callsIn_wide.2 (CS.out _ _)))))
      refine wpQuietIn_nil ?_
      intro _ hw'
      obtain ⟨⟨dq, osq⟩, hw''⟩ := hw'
      subst hw''
      have hq := below_regrown wr dq osq
      have S1 := Lib.hid (heap_below hs.out hq)
      have T1 := Lib.hid (hTr.out.below hq)
      have J1 := abides_below HJ.out hJr.out hq
      clear hq p0
      generalize grow (redrawn wr dq) osq = W1 at *
      obtain ⟨fn, tmps, assign, body, hy, hR⟩ := HY.out ((List.range k).map (blkH x.data.toList)) (blkH x.data.toList k) W1 J1 (by simp; omega)
      dsimp only [blkH] at hy
      have HR := Lib.hid hR
      clear hR J1
      gi_wp2
      refine HR.out.mono ?_
      rintro e W3 (⟨rfl, hJ3, hk3⟩ | ⟨rfl, hJx3⟩)
      · have A3 := Lib.hid hJ3
        have S3 : Hid (W3.heap[Bs]? = some (.cells #[.string x] 9 (0, 0))) := hk3.1.trans S1.out
        have T3 : Hid (Tabs W3) := hk3.2 T1.out
        clear hJ3 hk3
        gi_wp2
        go_roundw
        case rel => exact ⟨k + 1, by have := HK.out; omega, by go_num, S3, T3, by
          have e : (List.range (k + 1)).map (blkH x.data.toList) = (List.range k).map (blkH x.data.toList) ++ [blkH x.data.toList k] := by rw [List.range_succ, List.map_append]; rfl
          rw [e]; exact A3⟩
        case measure => simp [intOf]; omega
      · have A3 := Lib.hid hJx3
        clear hJx3
        gi_wp2
        refine bodyPost_ret (results_none rfl _ _ _) rfl ?_
        exact ⟨⟨_, rfl⟩, .inr ⟨_, trivial, A3.out⟩⟩
    · obtain rfl : k = M := by omega
      have dk : decide ((k : Int) < (k : Int)) = false := by simp
      have dk' : decide (k < k) = false := by simp
      gi_wp2
      go_end0
      exact ⟨⟨_, rfl⟩, .inl ⟨_, rfl, hJr.out⟩⟩
end Go.Proofs.YtkebipklcpplaaaDoor
