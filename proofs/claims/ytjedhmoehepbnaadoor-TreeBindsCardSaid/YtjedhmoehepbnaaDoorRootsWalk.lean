/- The walk of the law TreeRoots. -/
import Derived.Test.YtjedhmoehepbnaaDoorSanity12
import Derived.Test.YtjedhmoehepbnaaDoorTreeRefRoot
namespace Go.Proofs.YtjedhmoehepbnaaDoor
open Go.RowKit Go.Sort
set_option linter.unusedVariables false

set_option maxHeartbeats 2000000 in
set_option maxRecDepth 100000 in
/-- behind the loop -/
theorem roots_at (ao : Option Addr) (n m c : Nat) (l : List ByteArray) (a b : Tree.H) (w : World) (hT : Tabs w) (la : a.length = 32) (lb : b.length = 32) (hm : m ≤ 40) (hmn : m ≤ n) (hmin : min (n : Int) 40 = (m : Int)) (hnc : n ≤ c) (hc : c ≤ 9223372036854775807) (hl : l.length = m)
    (hcut : ∀ W, (Instr.slice 22 (.slice ao n c) none (some (.int .i64 (m : Int))) none).run Tryd.prog W = .ok (.slice ao m c) W)
    (hv : IsStrs w (.slice ao m c) l) :
    Calls Tryd.prog 3 #[.slice ao n c, .agg (hashArr a), .agg (hashArr b)] w fun e w' => e = .returned (.bool true) ∧ Below w.heap.size w w' := by
  obtain ⟨h, eh⟩ : ∃ x, Tree.root 6 l = x := ⟨_, rfl⟩
  obtain ⟨k', ek⟩ : ∃ x, Tree.node a b = x := ⟨_, rfl⟩
  have lh : h.length = 32 := by rw [← eh]; exact Tree.root_length _ _
  have lk : k'.length = 32 := by rw [← ek]; exact Tree.node_length _ _
  have h64 : l.length ≤ 2 ^ 6 := by show l.length ≤ 64; omega
  have EH := Lib.hid eh
  have EK := Lib.hid ek
  have LA := Lib.hid la
  have LB := Lib.hid lb
  have HT := Lib.hid hT
  have HV := Lib.hid hv
  have HL := Lib.hid hl
  have H64 := Lib.hid h64
  have HMIN := Lib.hid hmin
  have heq := fun W => hash_eql h h lh lh W
  have keq := fun W => hash_eql k' k' lk lk W
  rw [show (h == h) = true by simp] at heq
  rw [show (k' == k') = true by simp] at keq
  clear eh ek lh lk la lb hT hv hl h64 hmin
  go_enter Tryd.func3, Tryd.ntmps3
  go_wp2_with fail
  have hb0 : Below w.heap.size w ((w.alloc (.cells (hashArr a) 24)).alloc (.cells (hashArr b) 24)) := ((Below.refl _ _).alloc (Nat.le_refl _) _).alloc (by simp) _
  have BA := Lib.hid (heap_alloc2_old w (.cells (hashArr a) 24) (.cells (hashArr b) 24))
  have BB := Lib.hid (heap_alloc2_new w (.cells (hashArr a) 24) (.cells (hashArr b) 24))
  have HB0 := Lib.hid hb0
  clear hb0
  generalize (w.alloc (.cells (hashArr a) 24)).alloc (.cells (hashArr b) 24) = W0 at *
  refine (sanity12_any _ (HT.out.below HB0.out)).mono ?_
  rintro e w1 ⟨rfl, hb1⟩
  have HB1 := Lib.hid (HB0.out.trans (hb1.mono HB0.out.size))
  have BA1 := Lib.hid (heap_below BA.out hb1)
  have BB1 := Lib.hid (heap_below BB.out hb1)
  clear hb1 BA BB HB0
  have hmin := HMIN.out
  go_wp2_with fail
  clear hmin
  go_loopw [9, 18] (fun _ i wr => ∃ k : Nat, k ≤ m ∧ i = .int .i64 k ∧ Below w.heap.size w wr ∧ wr.heap[w.heap.size]? = some (.cells (hashArr a) 24 (0, 0)) ∧ wr.heap[w.heap.size + 1]? = some (.cells (hashArr b) 24 (0, 0))) (fun _ i _ => m - (intOf i).toNat)
  case atStart => exact ⟨0, by omega, rfl, HB1.out, BA1.out, BB1.out⟩
  case round =>
    obtain ⟨k, hk, rfl, hbw, ba, bb⟩ := hrel
    have HBW := Lib.hid hbw
    have BAW := Lib.hid ba
    have BBW := Lib.hid bb
    clear HB1 BA1 BB1 ba bb
    by_cases hlt : k < m
    · obtain ⟨hsh, ⟨e, _⟩ | ⟨b', o, c', e, _, _, _, sa⟩⟩ := HV.out.below hbw
      · have := HL.out; rw [e] at this; simp at this; omega
      injection e with e1 e2 e3
      subst e1 e3
      have hs1 := sa k (by rw [HL.out]; exact hlt)
      have hz := hsh.getD k
      generalize l.getD k ByteArray.empty = s at hs1 hz
      obtain ⟨x, ex⟩ : ∃ x, Tree.leaf s = x := ⟨_, rfl⟩
      have lx : x.length = 32 := by rw [← ex]; exact Tree.leaf_length s
      have hnq := fun W => hash_neq x x lx lx W
      rw [show (!(x == x)) = false by simp] at hnq
      have hTw := HT.out.below hbw
      have CA := Lib.hid (fun (W : World) (g : Below wr.heap.size wr W) => leaf_any s x W (by omega) (hTw.below g) ex)
      have CB := Lib.hid (fun (W : World) => rleaf_any s x W (by omega) ex)
      have q1 : (0 : Int) ≤ (k : Int) := by omega
      have q2 : (k : Int) < (m : Int) := by omega
      have q3 : (k : Int).toNat = k := by omega
      clear sa hsh e2 ex lx hTw hbw hz
      go_wp2_with fail
      refine (CA.out _ (Below.refl _ _)).mono ?_
      rintro e w2 ⟨rfl, hb2⟩
      go_wp2_with fail
      refine (CB.out _).mono ?_
      rintro e w3 ⟨rfl, hb3⟩
      go_wp2_with fail
      go_roundw
      case rel =>
        have h23 := hb2.trans (hb3.mono hb2.size)
        exact ⟨k + 1, by omega, by go_num, HBW.out.trans (h23.mono HBW.out.size), heap_below BAW.out h23, heap_below BBW.out h23⟩
      case measure => simp [intOf]; omega
    · obtain rfl : k = m := by omega
      have hdn : decide ((k : Int) < (k : Int)) = false := by simp
      have hvw := HV.out.below hbw
      have hTw := HT.out.below hbw
      have CA := Lib.hid (fun (W : World) (g : Below wr.heap.size wr W) => root_any 6 l _ h W H64.out (hvw.below g) (hTw.below g) EH.out)
      have CB := Lib.hid (fun (W : World) (g : Below wr.heap.size wr W) => rroot_any 6 l _ h W H64.out (hvw.below g) EH)
      have CC := Lib.hid (fun (W : World) (g : Below wr.heap.size wr W) => node_any a b k' LA.out LB.out W (hTw.below g) EK.out)
      have CD := Lib.hid (fun (W : World) => rnode_any a b k' LA.out LB.out W EK.out)
      clear hvw hTw hbw
      have L1 := Lib.hid (hash_load LA.out BAW.out)
      have L2 := Lib.hid (hash_load LB.out BBW.out)
      go_wp2_with fail
      refine wp_region_quiet_below (by kernel_rfl) (by kernel_rfl) ?_
      repeat (first | (refine quiet_load_row (by rfl) _ (.tmp 4) rfl _ _ rfl _ L1.out ?_; simp only [Act.put, List.setIfInBounds_toArray, List.set_cons_zero, List.set_cons_succ]) | (refine quiet_load_row (by rfl) _ (.tmp 5) rfl _ _ rfl _ L2.out ?_; simp only [Act.put, List.setIfInBounds_toArray, List.set_cons_zero, List.set_cons_succ]) | go_big_quiet_step ((first | with_reducible exact Calls.regrown_of (CA.out _ (below_regrown _ _ _)) | with_reducible exact Calls.regrown_of (CB.out _ (below_regrown _ _ _)) | with_reducible exact Calls.regrown_of (CC.out _ (below_regrown _ _ _)) | with_reducible exact Calls.regrown_of (CD.out _))))
      refine wpQuiet_nil ?_
      intro _ hw'
      obtain ⟨⟨dq, osq⟩, hw''⟩ := hw'
      subst hw''
      have hq := below_regrown wr dq osq
      have HBQ := Lib.hid (HBW.out.trans (hq.mono HBW.out.size))
      clear hq
      generalize grow (redrawn wr dq) osq = W1 at *
      go_wp2_with fail
      go_ret
      exact ⟨rfl, HBQ.out⟩
theorem elem_strs : Tryd.prog.underlying 22 = some (.slice (Tryd.prog.elem 22)) := by kernel_rfl
theorem size_strs (W : World) : (sizeOf (Tryd.prog.elem 22)).run Tryd.prog W = .ok 1 W := by kernel_rfl
theorem cut_strs (ao : Option Addr) (n m c : Nat) (h : m ≤ c) (W : World) : (Instr.slice 22 (.slice ao n c) none (some (.int .i64 (m : Int))) none).run Tryd.prog W = .ok (.slice ao m c) W := by
  rw [run_slice_h (P := Tryd.prog) W 22 ao n c elem_strs .i64 (m : Int) (by omega) (by omega), size_strs]
  simp only [Result.andThen, sliced, Nat.zero_mul, Nat.sub_zero, Int.toNat_natCast]
  have : ao.map (·.add 0) = ao := by cases ao <;> simp [Addr.add]
  rw [this]
  simp
theorem hash_of_ints (zs : List Int) (hw : ∀ z ∈ zs, (Lit.int .u8 z).wf = true) : ∃ l : List UInt8, l.length = zs.length ∧ (zs.map (Value.int .u8)).toArray = hashArr l := by
  refine ⟨zs.map fun z => UInt8.ofNat z.toNat, by simp, ?_⟩
  unfold hashArr
  congr 1
  rw [List.map_map]
  apply List.map_congr_left
  intro z hz
  have h : 0 ≤ z ∧ z ≤ 255 := by simpa [Lit.wf, IntKind.min, IntKind.max, IntKind.signed, IntKind.bits] using hw z hz
  simp only [Function.comp]
  congr 1
  have : z.toNat < 256 := by omega
  simp
  omega
/-- an argument that is a slice of strings, as it is opened -/
structure StrsIn (w : World) (ao : Option Addr) (n c : Nat) (ss : List ByteArray) : Prop where
  le : n ≤ c
  cap : c ≤ 9223372036854775807
  len : ss.length = n
  short : Short ss
  some : 0 < n → ∃ b o, ao = some ⟨b, o, none⟩ ∧ SAt w b o ss
theorem StrsIn.is {w : World} {ao : Option Addr} {n c : Nat} {ss : List ByteArray} (h : StrsIn w ao n c ss) : ∀ m, m ≤ n → IsStrs w (.slice ao m c) (ss.take m) := by
  intro m hm
  refine ⟨h.short.take m, ?_⟩
  have hl := h.len
  by_cases h0 : m = 0
  · subst h0; exact .inl ⟨by simp, _, _, rfl⟩
  · obtain ⟨b, o, rfl, hs⟩ := h.some (by omega)
    have : (ss.take m).length = m := by simp; omega
    exact .inr ⟨b, o, c, by rw [this], by omega, by have := h.le; omega, h.cap, hs.take⟩
theorem walk_TreeRoots {w : World} (ao : Option Addr) (n c : Nat) (ss : List ByteArray) (hS : StrsIn w ao n c ss) (x : List Int) (lx : x.length = 32) (y : List Int) (ly : y.length = 32) (wx : ∀ z ∈ x, (Lit.int .u8 z).wf = true) (wy : ∀ z ∈ y, (Lit.int .u8 z).wf = true) (hT : Tabs w) :
    Calls Tryd.prog 3 #[.slice ao n c, .agg (x.map (Value.int .u8)).toArray, .agg (y.map (Value.int .u8)).toArray] w fun e w' => e = .returned (.bool true) ∧ Below w.heap.size w w' := by
  obtain ⟨a, ha, ea⟩ := hash_of_ints x wx
  obtain ⟨b, hb, eb⟩ := hash_of_ints y wy
  rw [ea, eb]
  have h1 := hS.le
  have h2 := hS.len
  obtain ⟨m, hm, hmn, hmin⟩ : ∃ m : Nat, m ≤ 40 ∧ m ≤ n ∧ min (n : Int) 40 = (m : Int) := ⟨min n 40, by omega, by omega, by omega⟩
  exact roots_at ao n m c (ss.take m) a b w hT (by omega) (by omega) hm hmn hmin h1 hS.cap (by simp; omega) (cut_strs ao n m c (by omega)) (hS.is m hmn)
end Go.Proofs.YtjedhmoehepbnaaDoor
