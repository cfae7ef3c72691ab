/- A hash that lies in memory, loaded as a whole: a rule of the walk; and hashes as arguments. -/
import Derived.Test.YtkebipklcpplaaaDoorText
import Derived.Test.YtkebipklcpplaaaDoorArrays
namespace Go.Proofs.YtkebipklcpplaaaDoor
open Go.RowKit
set_option linter.unusedVariables false

/-- the block's cells as one value -/
def blkVal (W : World) (b : Nat) : Value := match W.heap[b]? with
  | some (.cells cs _ _) => .agg cs
  | _ => undef
def blkOk (W : World) (b n : Nat) : Bool := match W.heap[b]? with
  | some (.cells cs _ _) => cs.size == n
  | _ => false
theorem blk_of {W : World} {b n : Nat} {cs : Array Value} {t : TypeId} {fr : Nat × Nat} (h : W.heap[b]? = some (.cells cs t fr)) (hn : cs.size = n) : blkVal W b = .agg cs ∧ blkOk W b n = true := by
  unfold blkVal blkOk
  rw [h]
  simp [hn]
theorem blk_below {W w1 : World} (hb : Below W.heap.size W w1) : (∀ b, b < W.heap.size → blkVal w1 b = blkVal W b) ∧ (∀ b n, b < W.heap.size → blkOk w1 b n = blkOk W b n) := by
  refine ⟨fun b h => ?_, fun b n h => ?_⟩
  · unfold blkVal; rw [hb.block b h]
  · unfold blkOk; rw [hb.block b h]
theorem blkVal_drew (W : World) (b : Nat) : blkVal W.drew b = blkVal W b := rfl
theorem blkVal_drewN (W : World) (n b : Nat) : blkVal (W.drewN n) b = blkVal W b := rfl
theorem blkOk_drew (W : World) (b n : Nat) : blkOk W.drew b n = blkOk W b n := rfl
theorem blkOk_drewN (W : World) (m b n : Nat) : blkOk (W.drewN m) b n = blkOk W b n := rfl
theorem load_blk (W : World) (b : Nat) (h : blkOk W b 32 = true) : (loadVar 24 ⟨b, 0, none⟩).run Tryd.prog W = .ok (blkVal W b) W := by
  unfold blkOk at h
  split at h
  · rename_i cs t fr hb
    have hn : cs.size = 32 := by simpa using h
    have e : blkVal W b = .agg cs := (blk_of hb hn).1
    rw [e]
    exact run_loadVar_row W b t 24 cs fr _ hb Tryd.underlying24 rfl (by rw [hn]; kernel_rfl)
  · cases h

/-- an array of bytes, as a hash -/
theorem hash_of_ints (zs : List Int) (hw : ∀ z ∈ zs, (Lit.int .u8 z).wf = true) : ∃ l : List UInt8, l.length = zs.length ∧ (zs.map (Value.int .u8)).toArray = hashArr l := by
  refine ⟨zs.map fun z => UInt8.ofNat z.toNat, by simp, ?_⟩
  unfold hashArr
  congr 1
  rw [List.map_map]
  apply List.map_congr_left
  intro z hz
  have h : 0 ≤ z ∧ z ≤ 255 := by simpa [Lit.wf, IntKind.min, IntKind.max, IntKind.signed, IntKind.bits] using hw z hz
  simp only [Function.comp]
  congr 1
  have : z.toNat < 256 := by omega
  simp
  omega
theorem hexDigit_inj : ∀ a b : Fin 16, Sha.hexDigit a.val = Sha.hexDigit b.val → a = b := by decide +kernel
theorem text_inj : ∀ (a b : List UInt8), a.length = b.length → Sha.text a = Sha.text b → a = b := by
  intro a
  induction a with
  | nil => intro b h _; cases b with
    | nil => rfl
    | cons y b => simp at h
  | cons x a ih =>
    intro b h e
    cases b with
    | nil => simp at h
    | cons y b =>
      have e1 : ∀ (x : UInt8) (l : List UInt8), Sha.text (x :: l) = Sha.hexDigit (x.toNat / 16) :: Sha.hexDigit (x.toNat % 16) :: Sha.text l := by intro x l; simp [Sha.text]
      rw [e1, e1] at e
      injection e with h1 e
      injection e with h2 e
      have hx := UInt8.toNat_lt x
      have hy := UInt8.toNat_lt y
      have k1 := hexDigit_inj ⟨x.toNat / 16, by omega⟩ ⟨y.toNat / 16, by omega⟩ h1
      have k2 := hexDigit_inj ⟨x.toNat % 16, by omega⟩ ⟨y.toNat % 16, by omega⟩ h2
      simp only [Fin.mk.injEq] at k1 k2
      have : x = y := UInt8.toNat_inj.1 (by omega)
      rw [this, ih b (by simpa using h) e]
end Go.Proofs.YtkebipklcpplaaaDoor
