/- The contracts of the reference's inside and Inside; append of a slice of strings. -/
import Derived.Test.YtjedhmoehepbnaaDoorTreeClashF
import Derived.Test.YtjedhmoehepbnaaDoorTreeStrings
import Derived.Test.YtjedhmoehepbnaaDoorTreeNode
import Derived.Laws.AppendOwnNone
namespace Go.Proofs.YtjedhmoehepbnaaDoor
open Go.RowKit Go.Sort
set_option linter.unusedVariables false
section
def bytesOf (x : Tree.S) : ByteArray := ⟨x.toArray⟩
def insideS (f : Nat) (l : List ByteArray) : List ByteArray := (Tree.insideL f l).map bytesOf
/-- out with more strings behind: of what was there only out's own block may have turned -/
def Adds (ss : List ByteArray) (B : Nat) (vo : Value) (w : World) (e : Ending) (w' : World) : Prop :=
  ∃ v', e = .returned v' ∧ OwnsS w' B v' ss ∧ w.grownBy w' vo.ownBlock ∧ (v'.ownBlock = vo.ownBlock ∨ ∃ g, v'.ownBlock = some g ∧ w.heap.size ≤ g)
theorem wpList_append_str2 {ops : Array Oper} {rest : List Oper} {o : Oper} {a : Act} {w : World} {Q : Exit → Act → World → Prop} (hgd : o.guard = none) (s x : Operand)
    (ho : o.op = .call { callee := .builtin .append, args := #[s, x], argTypes := #[22, 22] }) (base : Nat) (v : Value) (ss : List ByteArray) (r : ByteArray) (B : Nat)
    (hsv : a.eval s = v) (hx : a.eval x = .slice (some ⟨B, 0, none⟩) 1 1) (hown : OwnsS w base v ss) (hB : w.heap[B]? = some (.cells #[.string r] 9 (0, 0))) (hlen : ss.length ≤ 100000) (hbase : base ≤ w.heap.size)
    (h : ∀ g cap w', OwnsS w' base (.slice (some ⟨g, 0, none⟩) (ss.length + 1) cap) (ss ++ [r]) → w.grownBy w' v.ownBlock → (v.ownBlock = some g ∨ w.heap.size ≤ g) → wpList Tryd.prog ops Q rest (a.put o.dst (.slice (some ⟨g, 0, none⟩) (ss.length + 1) cap)) w') :
    wpList Tryd.prog ops Q (o :: rest) a w := by
  obtain ⟨i0, hi, hz0, hz1, hz2⟩ := info_parts str_infos
  refine wpList_append_lies (P := Tryd.prog) w hgd s x 22 ho base 9 i0 _ 1 16 Tryd.underlying22 hi hz0 hz1 hz2 rfl (by omega) v ss.length (ss.map Value.string) hsv hown ⟨B, 0, none⟩ 1 1 [.string r] hx rfl (World.news_of_block hB)
    (fun u hu => by rw [List.mem_singleton.1 hu]; rfl) (by omega) (by unfold maxLen; omega) (by omega) hbase _ rfl ?_
  intro g cap w1 hown1 hgrow hg _
  refine h g cap w1 ?_ hgrow (by rcases hg with hg | hg; exact .inl hg; exact .inr (by omega))
  show World.ownsRow _ _ _ _ _ _ _
  rw [List.map_append, List.length_append]; exact hown1
/-- one string more, out of a new block -/
theorem adds_one {w w' : World} {o : Obj} {B g cap n : Nat} {vo : Value} {ss ss' : List ByteArray} (ho : OwnsS w B vo ss) (h1 : OwnsS w' B (.slice (some ⟨g, 0, none⟩) n cap) ss') (h2 : (w.alloc o).grownBy w' vo.ownBlock) (h3 : vo.ownBlock = some g ∨ (w.alloc o).heap.size ≤ g) : Adds ss' B vo w (.returned (.slice (some ⟨g, 0, none⟩) n cap)) w' := by
  refine ⟨_, rfl, h1, ⟨h2.os, h2.tape, h2.output, ?_, fun k hk hne => ?_⟩, ?_⟩
  · have := h2.size; simp at this; omega
  · rw [h2.block k (by simp; omega) hne]; exact heap_alloc_old _ _ hk
  · rcases h3 with h3 | h3
    · exact .inl h3.symm
    · exact .inr ⟨g, rfl, by simp at h3; omega⟩
set_option maxHeartbeats 1000000 in
set_option maxRecDepth 100000 in
theorem inside_nil (f : Nat) (a : Option Addr) (c B : Nat) (vo : Value) (ss : List ByteArray) (w : World) (ho : OwnsS w B vo ss) (hn : ss.length ≤ 100000) (hB : B ≤ w.heap.size) :
    Calls Tryd.prog 42 #[.slice a 0 c, vo] w (Adds (ss ++ insideS f []) B vo w) := by
  have e : insideS f [] = [⟨#[]⟩] := by cases f <;> rfl
  rw [e]
  have OW := Lib.hid ho
  have bx : Below w.heap.size w (w.alloc (.cells #[.string ⟨#[]⟩] 9)) := (Below.refl _ _).alloc (Nat.le_refl _) _
  have OX := Lib.hid (ho.below bx)
  have BX := Lib.hid (Nat.le_trans hB bx.size)
  have NB := Lib.hid (heap_alloc_new w (.cells #[.string ⟨#[]⟩] 9))
  clear ho bx
  go_enter Tryd.func42, Tryd.ntmps42
  go_upto_region 2 with fail
  go_wp2_with ((with_reducible refine op_is ⟨some 13, .call { callee := .builtin .append, args := #[.tmp 11, .tmp 12], argTypes := #[22, 22] }, _, _, _, _⟩ ?_); refine wpList_append_str2 rfl (.tmp 11) (.tmp 12) rfl B _ ss ⟨#[]⟩ w.heap.size rfl rfl OX.out NB.out hn BX.out ?_; intro g cap w1 hown1 hgrow1 hg1)
  go_ret
  exact adds_one OW.out hown1 hgrow1 hg1
set_option maxHeartbeats 1000000 in
set_option maxRecDepth 100000 in
theorem inside_one (f : Nat) (b o c B : Nat) (s : ByteArray) (vo : Value) (ss : List ByteArray) (w : World) (hs : w.cell? ⟨b, o, none⟩ = some (.string s)) (hz : s.size ≤ 140737488351232) (ho : OwnsS w B vo ss) (hn : ss.length ≤ 100000) (hB : B ≤ w.heap.size) :
    Calls Tryd.prog 42 #[.slice (some ⟨b, o, none⟩) 1 c, vo] w (Adds (ss ++ insideS f [s]) B vo w) := by
  obtain ⟨x, ex⟩ : ∃ x, (⟨#[0]⟩ : ByteArray) ++ s = x := ⟨_, rfl⟩
  have e : insideS f [s] = [x] := by
    have h0 : insideS f [s] = [bytesOf (0 :: s.data.toList)] := by cases f <;> rfl
    have h1 : bytesOf (0 :: s.data.toList) = x := by
      rw [← ex]
      have : ((⟨#[0]⟩ : ByteArray) ++ s).data.toList = 0 :: s.data.toList := one_append 0 s
      rw [← this]
      show (⟨_⟩ : ByteArray) = _
      rw [Array.toArray_toList]
    rw [h0, h1]
  rw [e]
  have OW := Lib.hid ho
  have bx : Below w.heap.size w (w.alloc (.cells #[.string x] 9)) := (Below.refl _ _).alloc (Nat.le_refl _) _
  have OX := Lib.hid (ho.below bx)
  have BX := Lib.hid (Nat.le_trans hB bx.size)
  have NB := Lib.hid (heap_alloc_new w (.cells #[.string x] 9))
  clear ho bx e
  go_enter Tryd.func42, Tryd.ntmps42
  go_upto_region 4 with fail
  go_wp2_with ((with_reducible refine op_is ⟨some 23, .call { callee := .builtin .append, args := #[.tmp 17, .tmp 22], argTypes := #[22, 22] }, _, _, _, _⟩ ?_); refine wpList_append_str2 rfl (.tmp 17) (.tmp 22) rfl B _ ss x w.heap.size rfl rfl OX.out NB.out hn BX.out ?_; intro g cap w1 hown1 hgrow1 hg1)
  go_ret
  exact adds_one OW.out hown1 hgrow1 hg1
end
section
theorem OwnsS.lt {W : World} {B : Nat} {v : Value} {ss : List ByteArray} (h : OwnsS W B v ss) : ∀ k, v.ownBlock = some k → B ≤ k ∧ k < W.heap.size := by
  intro k hk
  rcases h.2 with ⟨rfl, _⟩ | ⟨g, cap, cur, rfl, hbg, hgg, _⟩
  · cases hk
  · injection hk with hk; rw [← hk]; exact ⟨hbg, lt_of_block hgg⟩
theorem step_append_str2 {ops : Array Oper} {o : Oper} {a : Act} {w : World} {K : Act → World → Prop} {Q : Exit → Act → World → Prop} {E : Prop} (hgd : o.guard = none) (s x : Operand)
    (ho : o.op = .call { callee := .builtin .append, args := #[s, x], argTypes := #[22, 22] }) (base : Nat) (v : Value) (ss : List ByteArray) (r : ByteArray) (B : Nat)
    (hsv : a.eval s = v) (hx : a.eval x = .slice (some ⟨B, 0, none⟩) 1 1) (hown : OwnsS w base v ss) (hB : w.heap[B]? = some (.cells #[.string r] 9 (0, 0))) (hlen : ss.length ≤ 100000) (hbase : base ≤ w.heap.size)
    (h : ∀ g cap w', OwnsS w' base (.slice (some ⟨g, 0, none⟩) (ss.length + 1) cap) (ss ++ [r]) → w.grownBy w' v.ownBlock → (v.ownBlock = some g ∨ w.heap.size ≤ g) → K (a.put o.dst (.slice (some ⟨g, 0, none⟩) (ss.length + 1) cap)) w') :
    if Region.wanted o (yielded ops a.tmps) = true then Oper.wp Tryd.prog o a w K Q else E := by
  obtain ⟨i0, hi, hz0, hz1, hz2⟩ := info_parts str_infos
  refine step_append_lies (P := Tryd.prog) w hgd s x 22 ho base 9 i0 _ 1 16 Tryd.underlying22 hi hz0 hz1 hz2 rfl (by omega) v ss.length (ss.map Value.string) hsv hown ⟨B, 0, none⟩ 1 1 [.string r] hx rfl (World.news_of_block hB)
    (fun u hu => by rw [List.mem_singleton.1 hu]; rfl) (by omega) (by unfold maxLen; omega) (by omega) hbase _ rfl ?_
  intro g cap w1 hown1 hgrow hg _
  refine h g cap w1 ?_ hgrow (by rcases hg with hg | hg; exact .inl hg; exact .inr (by omega))
  show World.ownsRow _ _ _ _ _ _ _
  rw [List.map_append, List.length_append]; exact hown1
theorem adds_last {w w4 w5 : World} {o : Obj} {B g cap n : Nat} {vo v4 : Value} {ss' : List ByteArray} (h1 : OwnsS w5 B (.slice (some ⟨g, 0, none⟩) n cap) ss') (h2 : (w4.alloc o).drew.grownBy w5 v4.ownBlock) (h3 : v4.ownBlock = some g ∨ (w4.alloc o).drew.heap.size ≤ g)
    (G : w.grownBy w4 vo.ownBlock) (V : v4.ownBlock = vo.ownBlock ∨ ∃ g, v4.ownBlock = some g ∧ w.heap.size ≤ g) : Adds ss' B vo w (.returned (.slice (some ⟨g, 0, none⟩) n cap)) w5 := by
  have hs : (w4.alloc o).drew.heap.size = w4.heap.size + 1 := by show (w4.alloc o).heap.size = _; simp
  have g0 := G.size
  refine ⟨_, rfl, h1, ⟨h2.os.trans G.os, h2.tape.trans G.tape, h2.output.trans G.output, ?_, fun k hk hne => ?_⟩, ?_⟩
  · have := h2.size; omega
  · have hne' : some k ≠ v4.ownBlock := by
      intro e
      rcases V with h | ⟨g', h, hg'⟩
      · exact hne (e.trans h)
      · rw [h] at e; injection e with e; omega
    rw [h2.block k (by omega) hne']
    exact (heap_alloc_old w4 o (by omega)).trans (G.block k hk hne)
  · rcases h3 with h3 | h3
    · rcases V with h | ⟨g', h, hg'⟩
      · exact .inl (h3.symm.trans h)
      · rw [h3] at h; injection h with h; exact .inr ⟨g, rfl, by omega⟩
    · exact .inr ⟨g, rfl, by omega⟩
attribute [local go_sem ↓] wp_alloc_hash
set_option maxHeartbeats 4000000 in
set_option maxRecDepth 100000 in
theorem inside_two (b o c n k B : Nat) (vo : Value) (ss sl sr : List ByteArray) (ra rb : Tree.H) (w : World) (h2 : 2 ≤ n) (hnm : n ≤ 9223372036854775807) (hk : Tree.half n = k) (hk0 : 1 ≤ k) (hk1 : k < n) (hnc : n ≤ c) (hcm : c ≤ 9223372036854775807) (lra : ra.length = 32) (lrb : rb.length = 32)
    (ho : OwnsS w B vo ss) (hB : B ≤ w.heap.size) (hlen : ss.length + sl.length + sr.length ≤ 100000)
    (R1 : ∀ W, Below B w W → Calls Tryd.prog 17 #[.slice (some ⟨b, o, none⟩) k c] W fun e w' => e = .returned (.agg (hashArr ra)) ∧ Below W.heap.size W w')
    (R2 : ∀ W, Below B w W → Calls Tryd.prog 17 #[.slice (some ⟨b, o + k, none⟩) (n - k) (c - k)] W fun e w' => e = .returned (.agg (hashArr rb)) ∧ Below W.heap.size W w')
    (I1 : ∀ W v s, Below B w W → OwnsS W B v s → s.length + sl.length ≤ 100000 → B ≤ W.heap.size → Calls Tryd.prog 42 #[.slice (some ⟨b, o, none⟩) k c, v] W (Adds (s ++ sl) B v W))
    (I2 : ∀ W v s, Below B w W → OwnsS W B v s → s.length + sr.length ≤ 100000 → B ≤ W.heap.size → Calls Tryd.prog 42 #[.slice (some ⟨b, o + k, none⟩) (n - k) (c - k), v] W (Adds (s ++ sr) B v W)) :
    Calls Tryd.prog 42 #[.slice (some ⟨b, o, none⟩) n c, vo] w (Adds (ss ++ sl ++ sr ++ [bytesOf (1 :: (ra ++ rb))]) B vo w) := by
  have hd0 : ((n : Int) == 0) = false := by simp; omega
  have hd1 : ((n : Int) == 1) = false := by simp; omega
  have ch := fun W => rhalf_any n W h2 hnm
  rw [hk] at ch
  have CH := Lib.hid ch
  have CR1 := Lib.hid R1
  have CR2 := Lib.hid R2
  have CI1 := Lib.hid I1
  have CI2 := Lib.hid I2
  have OW := Lib.hid ho
  have LRA := Lib.hid lra
  have LRB := Lib.hid lrb
  have L0 : Hid ((hashArr Tree.zero).size = 32) := by show _ = _; rw [hashArr_size]; exact zero_length
  have q1 : (0 : Int) ≤ (k : Int) := by omega
  have q2 : (k : Int) ≤ (c : Int) := by omega
  have q3 : (k : Int) ≤ (n : Int) := by omega
  have q4 : (k : Int).toNat = k := by omega
  have q5 : ¬ (c - k = 0) := by omega
  have q6 : ¬ (c = k) := by omega
  clear ch R1 R2 I1 I2 ho lra lrb hk
  go_enter Tryd.func42, Tryd.ntmps42
  go_wp2_with fail
  with_reducible refine (CH.out _).mono ?_
  rintro e w' ⟨rfl, rfl⟩
  go_wp2_with fail
  refine (CR1.out _ (Below.refl _ _)).mono ?_
  rintro e w1 ⟨rfl, hb1⟩
  go_wp2_with ((with_reducible refine op_is ⟨none, .store 24 (.tmp 6) (.tmp 30), _, _, _, _⟩ ?_); refine store_hash LRA.out L0.out (.tmp 6) (.tmp 30) rfl rfl rfl rfl rfl ?_)
  have bw1 : Below w.heap.size w (w1.alloc (.cells (hashArr ra) 24)) := hb1.alloc hb1.size _
  have T6 := Lib.hid (heap_alloc_new w1 (.cells (hashArr ra) 24))
  have BW1 := Lib.hid bw1
  have HB1 := Lib.hid hb1.size
  clear hb1 bw1
  generalize w1.alloc (.cells (hashArr ra) 24) = W1 at *
  refine (CR2.out _ (BW1.out.mono hB)).mono ?_
  rintro e w2 ⟨rfl, hb2⟩
  go_wp2_with ((with_reducible refine op_is ⟨none, .store 24 (.tmp 7) (.tmp 34), _, _, _, _⟩ ?_); refine store_hash LRB.out L0.out (.tmp 7) (.tmp 34) rfl rfl rfl rfl rfl ?_)
  have bw2 : Below W1.heap.size W1 (w2.alloc (.cells (hashArr rb) 24)) := hb2.alloc hb2.size _
  have T62 := Lib.hid (heap_below T6.out bw2)
  have T72 := Lib.hid (heap_alloc_new w2 (.cells (hashArr rb) 24))
  have BW2 := Lib.hid (below_join BW1.out bw2)
  have HB2 := Lib.hid hb2.size
  have HW1 := Lib.hid BW1.out.size
  have OW2 := Lib.hid (OW.out.below BW2.out)
  clear bw2 hb2 T6 BW1
  generalize w2.alloc (.cells (hashArr rb) 24) = W2 at *
  refine (CI1.out W2 vo ss (BW2.out.mono hB) OW2.out (by omega) (Nat.le_trans hB BW2.out.size)).mono ?_
  rintro e w3 ⟨v3, rfl, own3, grow3, hv3⟩
  have lt6 := lt_of_block T62.out
  have lt7 := lt_of_block T72.out
  have ne6 : some w1.heap.size ≠ vo.ownBlock := fun e => by have := (OW.out.lt _ e.symm).2; have := HB1.out; omega
  have ne7 : some w2.heap.size ≠ vo.ownBlock := fun e => by have := (OW.out.lt _ e.symm).2; have := HB2.out; have := HW1.out; omega
  have T63 := (grow3.block _ lt6 ne6).trans T62.out
  have T73 := (grow3.block _ lt7 ne7).trans T72.out
  have b3 : Below B w w3 := (BW2.out.mono hB).grown grow3 (Nat.le_trans hB BW2.out.size) (fun k hk => (OW.out.lt k hk).1)
  have g3 : ∀ k, k < w.heap.size → some k ≠ vo.ownBlock → w3.heap[k]? = w.heap[k]? := fun k hk hne => (grow3.block k (Nat.lt_of_lt_of_le hk BW2.out.size) hne).trans (BW2.out.block k hk)
  have OWN3 := Lib.hid own3
  have B3 := Lib.hid b3
  have T63h := Lib.hid T63
  have T73h := Lib.hid T73
  have NE : Hid (∀ k, k < W2.heap.size → some k ≠ vo.ownBlock → some k ≠ v3.ownBlock) := by
    intro k hk hne e
    rcases hv3 with h | ⟨g, h, hg⟩
    · exact hne (e.trans h)
    · rw [h] at e; injection e with e; omega
  have V3 := Lib.hid hv3
  have G3 := Lib.hid g3
  have LT6 := Lib.hid lt6
  have LT7 := Lib.hid lt7
  have NE6 := Lib.hid ne6
  have NE7 := Lib.hid ne7
  have S3 := Lib.hid (Nat.le_trans BW2.out.size grow3.size)
  have S2 := Lib.hid BW2.out.size
  have LW3 := Lib.hid grow3.size
  have E3 : Hid (w3.os = w.os ∧ w3.tape = w.tape ∧ w3.output = w.output) := ⟨grow3.os.trans BW2.out.os, grow3.tape.trans BW2.out.tape, grow3.output.trans BW2.out.output⟩
  clear own3 grow3 hv3 lt6 lt7 ne6 ne7 T63 T73 b3 g3
  go_wp2_with fail
  refine (CI2.out w3 v3 (ss ++ sl) B3.out OWN3.out (by simp; omega) (Nat.le_trans hB S3.out)).mono ?_
  rintro e w4 ⟨v4, rfl, own4, grow4, hv4⟩
  have T64 := Lib.hid ((grow4.block _ (Nat.lt_of_lt_of_le LT6.out LW3.out) (NE.out _ LT6.out NE6.out)).trans T63h.out)
  have T74 := Lib.hid ((grow4.block _ (Nat.lt_of_lt_of_le LT7.out LW3.out) (NE.out _ LT7.out NE7.out)).trans T73h.out)
  have GW : Hid (w.grownBy w4 vo.ownBlock) := ⟨grow4.os.trans E3.out.1, grow4.tape.trans E3.out.2.1, grow4.output.trans E3.out.2.2, Nat.le_trans S3.out grow4.size, fun k hk hne => (grow4.block k (Nat.lt_of_lt_of_le hk S3.out) (NE.out k (Nat.lt_of_lt_of_le hk S2.out) hne)).trans (G3.out k hk hne)⟩
  have V4 : Hid (v4.ownBlock = vo.ownBlock ∨ ∃ g, v4.ownBlock = some g ∧ w.heap.size ≤ g) := by
    rcases hv4 with h | ⟨g, h, hg⟩
    · rcases V3.out with h' | ⟨g', h', hg'⟩
      · exact .inl (h.trans h')
      · exact .inr ⟨g', h.trans h', Nat.le_trans S2.out hg'⟩
    · exact .inr ⟨g, h, Nat.le_trans S3.out hg⟩
  have OWN4 := Lib.hid own4
  have S4 := Lib.hid (Nat.le_trans S3.out grow4.size)
  clear own4 grow4 hv4 CI1 CI2 CR1 CR2 CH OW OW2 BW2 HB1 HB2 HW1 T62 T72 OWN3 B3 T63h T73h NE V3 G3 LT6 LT7 NE6 NE7 S3 S2 LW3 E3
  obtain ⟨sa, esa⟩ : ∃ s : ByteArray, (⟨ra.toArray⟩ : ByteArray) = s := ⟨_, rfl⟩
  obtain ⟨sb, esb⟩ : ∃ s : ByteArray, (⟨rb.toArray⟩ : ByteArray) = s := ⟨_, rfl⟩
  have CA := conv_hash LRA.out (heap_below T64.out (Below.refl _ _).drew)
  have CB := conv_hash LRB.out (heap_below T74.out (Below.refl _ _).drew)
  rw [esa] at CA
  rw [esb] at CB
  have za : sa.size = 32 := by rw [← esa]; simp [ByteArray.size, LRA.out]
  have zb : sb.size = 32 := by rw [← esb]; simp [ByteArray.size, LRB.out]
  have n1 : ¬ 9223372036854775807 < 1 + sa.size := by omega
  have n2 : ¬ 9223372036854775807 < 1 + sa.size + sb.size := by omega
  have EX : Hid (bytesOf (1 :: (ra ++ rb)) = (⟨#[1]⟩ : ByteArray) ++ sa ++ sb) := by
    show _ = _
    rw [← esa, ← esb]
    have := node_text ra rb
    show (⟨_⟩ : ByteArray) = _
    rw [← this, Array.toArray_toList]
  clear esa esb za zb
  obtain ⟨x, exx⟩ : ∃ x, (⟨#[1]⟩ : ByteArray) ++ sa ++ sb = x := ⟨_, rfl⟩
  obtain ⟨big, ebig⟩ : ∃ x, ss ++ sl ++ sr = x := ⟨_, rfl⟩
  have HL : Hid (big.length ≤ 100000) := by show _ ≤ _; rw [← ebig]; simp; omega
  rw [ebig] at OWN4
  have BIG := Lib.hid ebig
  have EXX : Hid (bytesOf (1 :: (ra ++ rb)) = x) := EX.out.trans exx
  have bx : Below w4.heap.size w4 (w4.alloc (.cells #[.string x] 9)).drew := ((Below.refl _ _).alloc (Nat.le_refl _) _).drew
  have OX := Lib.hid (OWN4.out.below bx)
  have BX := Lib.hid (Nat.le_trans (Nat.le_trans hB S4.out) bx.size)
  have NB : Hid ((w4.alloc (.cells #[.string x] 9)).drew.heap[w4.heap.size]? = some (.cells #[.string x] 9 (0, 0))) := heap_alloc_new w4 _
  clear bx ebig EX
  go_wp2_with fail
  go_region_law (refine step_append_str2 (by rfl) (.tmp 45) (.tmp 52) (by rfl) B v4 big x w4.heap.size (by rfl) (by rfl) OX.out NB.out HL.out BX.out ?_; intro g cap w5 hown5 hgrow5 hg5)
  all_goals
    go_wp2_with fail
    go_ret
    have hfin := adds_last hown5 hgrow5 hg5 GW.out V4.out
    rw [← EXX.out, ← BIG.out] at hfin
    rw [← BIG.out]
    exact hfin
theorem SAt.low {W W' : World} {b o B : Nat} {l : List ByteArray} (h : SAt W b o l) (hb : Below B W W') (hB : b < B) : SAt W' b o l := fun i hi =>
  (hb.cell (p := ⟨b, o + i, none⟩) hB).trans (h i hi)
theorem insideS_succ (f : Nat) (l : List ByteArray) (h : ¬ l.length ≤ 1) : insideS (f + 1) l = insideS f (l.take (Tree.half l.length)) ++ insideS f (l.drop (Tree.half l.length)) ++ [bytesOf (1 :: (Tree.root f (l.take (Tree.half l.length)) ++ Tree.root f (l.drop (Tree.half l.length))))] := by
  unfold insideS
  rw [Tree.inside_succ, if_neg h]
  simp
theorem inside_any : ∀ (f : Nat) (l : List ByteArray) (b o c B : Nat) (vo : Value) (ss : List ByteArray) (w : World), l.length ≤ 2 ^ f → 1 ≤ l.length → l.length ≤ c → c ≤ 9223372036854775807 → SAt w b o l → Short l → b < B → OwnsS w B vo ss → B ≤ w.heap.size → ss.length + (insideS f l).length ≤ 100000 →
    Calls Tryd.prog 42 #[.slice (some ⟨b, o, none⟩) l.length c, vo] w (Adds (ss ++ insideS f l) B vo w) := by
  have one : ∀ (f : Nat) (l : List ByteArray) (b o c B : Nat) (vo : Value) (ss : List ByteArray) (w : World), l.length = 1 → SAt w b o l → Short l → OwnsS w B vo ss → B ≤ w.heap.size → ss.length ≤ 100000 →
      Calls Tryd.prog 42 #[.slice (some ⟨b, o, none⟩) l.length c, vo] w (Adds (ss ++ insideS f l) B vo w) := by
    intro f l b o c B vo ss w h1 hs hsh ho hB hn
    match l, h1 with
    | [s], _ =>
      have h0 := hs 0 (by simp)
      exact inside_one f b o c B s vo ss w (by simpa using h0) (hsh s (by simp)) ho hn hB
  intro f
  induction f with
  | zero =>
    intro l b o c B vo ss w hf h1 hc hcm hs hsh hbB ho hB hn
    have : (2 : Nat) ^ 0 = 1 := rfl
    exact one 0 l b o c B vo ss w (by omega) hs hsh ho hB (by omega)
  | succ f ih =>
    intro l b o c B vo ss w hf h1 hc hcm hs hsh hbB ho hB hn
    by_cases hl1 : l.length = 1
    · exact one (f + 1) l b o c B vo ss w hl1 hs hsh ho hB (by omega)
    · have hne : ¬ l.length ≤ 1 := by omega
      rw [insideS_succ f l hne] at hn ⊢
      simp only [List.length_append, List.length_cons, List.length_nil] at hn
      have hk0 := Tree.half_pos l.length
      have hk1 := Tree.half_lt l.length (by omega)
      have hf1 := Tree.half_pow l.length f (by omega) hf
      have hf2 := Tree.rest_pow l.length f (by omega) hf
      have lt1 : (l.take (Tree.half l.length)).length = Tree.half l.length := by rw [List.length_take]; omega
      have lt2 : (l.drop (Tree.half l.length)).length = l.length - Tree.half l.length := by rw [List.length_drop]
      have := inside_two b o c l.length (Tree.half l.length) B vo ss (insideS f (l.take (Tree.half l.length))) (insideS f (l.drop (Tree.half l.length))) (Tree.root f (l.take (Tree.half l.length))) (Tree.root f (l.drop (Tree.half l.length))) w (by omega) (by omega) rfl hk0 hk1 hc hcm (Tree.root_length _ _) (Tree.root_length _ _) ho hB (by omega)
        (fun W hb => rroot_any f _ _ _ W (by omega) (strs_at lt1 hk0 (by omega) hcm (hs.low hb hbB).take (hsh.take _)) (Lib.hid rfl))
        (fun W hb => rroot_any f _ _ _ W (by omega) (strs_at lt2 (by omega) (by omega) (by omega) (hs.low hb hbB).drop (hsh.drop _)) (Lib.hid rfl))
        (fun W v s hb ho' hl' hB' => by
          have h := ih (l.take (Tree.half l.length)) b o c B v s W (by omega) (by omega) (by omega) hcm (hs.low hb hbB).take (hsh.take _) hbB ho' hB' hl'
          rw [lt1] at h
          exact h)
        (fun W v s hb ho' hl' hB' => by
          have h := ih (l.drop (Tree.half l.length)) b (o + Tree.half l.length) (c - Tree.half l.length) B v s W (by omega) (by omega) (by omega) (by omega) (hs.low hb hbB).drop (hsh.drop _) hbB ho' hB' hl'
          rw [lt2] at h
          exact h)
      simpa [List.append_assoc] using this
end
section
def ListsAt (w : World) (p : Nat) (ls : List (List ByteArray)) : Prop := ∀ i, i < ls.length → ∃ v, w.cell? ⟨p, i, none⟩ = some v ∧ IsStrs w v (ls.getD i [])
theorem inside_is (f : Nat) (l : List ByteArray) (v : Value) (B : Nat) (vo : Value) (ss : List ByteArray) (w0 w : World) (hf : l.length ≤ 2 ^ f) (hv : IsStrs w0 v l) (hb : Below w0.heap.size w0 w) (ho : OwnsS w B vo ss) (h0 : w0.heap.size = B) (hn : ss.length + (insideS f l).length ≤ 100000) :
    Calls Tryd.prog 42 #[v, vo] w (Adds (ss ++ insideS f l) B vo w) := by
  have hB : B ≤ w.heap.size := by rw [← h0]; exact hb.size
  obtain ⟨hsh, ⟨rfl, a, c, rfl⟩ | ⟨b, o, c, rfl, h1, hc, hcm, hs⟩⟩ := hv
  · exact inside_nil f a c B vo ss w ho (by omega) hB
  · have hlt : b < B := by
      have := block_lt_of_cell (hs 0 (by omega))
      rw [← h0]; exact this
    exact inside_any f l b o c B vo ss w hf h1 hc hcm (hs.below hb) hsh hlt ho hB hn
theorem take_flat (ls : List (List ByteArray)) (f k : Nat) (hk : k < ls.length) : (ls.take (k + 1)).flatMap (insideS f) = (ls.take k).flatMap (insideS f) ++ insideS f (ls.getD k []) := by
  rw [List.take_add_one, List.flatMap_append, List.getD_eq_getElem?_getD, List.getElem?_eq_getElem hk]
  simp
theorem flat_bound (ls : List (List ByteArray)) (f k : Nat) (hk : k < ls.length) : ((ls.take k).flatMap (insideS f)).length + (insideS f (ls.getD k [])).length ≤ (ls.flatMap (insideS f)).length := by
  have h := take_flat ls f k hk
  have e : ls.flatMap (insideS f) = (ls.take (k + 1)).flatMap (insideS f) ++ (ls.drop (k + 1)).flatMap (insideS f) := by rw [← List.flatMap_append, List.take_append_drop]
  rw [e, h]
  simp
set_option maxHeartbeats 2000000 in
set_option maxRecDepth 100000 in
theorem Inside_any (f : Nat) (ls : List (List ByteArray)) (p n c : Nat) (w : World) (hl : ls.length = n) (hn : n ≤ 1000) (hL : ListsAt w p ls) (hf : ∀ l ∈ ls, l.length ≤ 2 ^ f) (hbd : (ls.flatMap (insideS f)).length ≤ 100000) :
    Calls Tryd.prog 25 #[.slice (some ⟨p, 0, none⟩) n c] w fun e w' => ∃ v, e = .returned v ∧ OwnsS w' w.heap.size v (ls.flatMap (insideS f)) ∧ Below w.heap.size w w' := by
  have HL := Lib.hid hl
  have LA := Lib.hid hL
  have HF := Lib.hid hf
  have HBD := Lib.hid hbd
  clear hl hL hf hbd
  go_enter Tryd.func25, Tryd.ntmps25
  go_wp2_with fail
  go_loopw [3, 4] (fun x i wr => ∃ k : Nat, k ≤ n ∧ i = .int .i64 k ∧ Below w.heap.size w wr ∧ Hid (OwnsS wr w.heap.size x ((ls.take k).flatMap (insideS f)))) (fun _ i _ => n - (intOf i).toNat)
  case atStart => exact ⟨0, by omega, rfl, Below.refl _ _, ⟨rfl, .inl ⟨rfl, rfl⟩⟩⟩
  case round =>
    obtain ⟨k, hk, rfl, hbw, hown⟩ := hrel
    by_cases hkn : k < n
    · have hd : decide ((k : Int) < (n : Int)) = true := by simp; omega
      have r1 : (0 : Int) ≤ (k : Int) := by omega
      have r2 : (k : Int) < (n : Int) := by omega
      have r3 : (k : Int).toNat = k := by omega
      have w1 : IntKind.i64.wrap ((k : Int) + 1) = (k : Int) + 1 := IntWalk.i64_in _ (by omega)
      have hkl : k < ls.length := by rw [HL.out]; exact hkn
      obtain ⟨v, hc, hv⟩ := LA.out k hkl
      have hcw := (hbw.cell (p := ⟨p, k, none⟩) (block_lt_of_cell hc)).trans hc
      have CI := Lib.hid (inside_is f (ls.getD k []) v w.heap.size _ _ w wr (HF.out _ (by rw [List.getD_eq_getElem?_getD, List.getElem?_eq_getElem hkl]; exact List.getElem_mem hkl)) hv hbw hown.out rfl (Nat.le_trans (flat_bound ls f k hkl) HBD.out))
      have HB := Lib.hid hbw
      have OW := Lib.hid hown.out
      have TF := Lib.hid (take_flat ls f k hkl)
      clear hc hv hbw
      go_wp2_with fail
      refine CI.out.mono ?_
      rintro e w2 ⟨v2, rfl, own2, grow2, _⟩
      have B2 := Lib.hid (HB.out.grown grow2 HB.out.size (fun g hg => OW.out.block g hg))
      have O2 := Lib.hid own2
      rw [← TF.out] at O2
      clear own2 grow2 hcw CI
      go_wp2_with fail
      go_roundw
      case rel => exact ⟨k + 1, by omega, by go_num, B2.out, O2⟩
      case measure => simp [intOf]; omega
    · obtain rfl : k = n := by omega
      have hd : decide ((k : Int) < (k : Int)) = false := by simp
      have HB := Lib.hid hbw
      have O2 := Lib.hid hown.out
      rw [← HL.out, List.take_length] at O2
      clear hbw hown
      go_wp2_with fail
      go_ret
      exact ⟨_, rfl, O2.out, HB.out⟩
end
section
/-- what may be appended -/
def SrcS (w : World) (u : Value) (ys : List ByteArray) : Prop :=
  (u = .slice none 0 0 ∧ ys = []) ∨ ∃ b o c, u = .slice (some ⟨b, o, none⟩) ys.length c ∧ ∀ j x, (ys.map Value.string)[j]? = some x → w.cell? ⟨b, o + j, none⟩ = some x
theorem OwnsS.srcS {W : World} {base : Nat} {v : Value} {ss : List ByteArray} (h : OwnsS W base v ss) : SrcS W v ss := by
  rcases h.2 with ⟨rfl, hn⟩ | ⟨g, cap, cur, rfl, hbg, hgg, hnc, hcm, hcs, ht⟩
  · exact .inl ⟨rfl, List.length_eq_zero_iff.1 hn⟩
  · refine .inr ⟨g, 0, cap, rfl, fun j x hx => ?_⟩
    rw [← ht, List.getElem?_take] at hx
    split at hx
    · rw [Nat.zero_add, cell_of_row _ _ _ _ _ _ hgg]; simpa using hx
    · cases hx
theorem SrcS.below {W w1 : World} {u : Value} {ys : List ByteArray} (h : SrcS W u ys) (hb : Below W.heap.size W w1) : SrcS w1 u ys := by
  rcases h with h2 | ⟨b, o, c, e, h3⟩
  · exact .inl h2
  · exact .inr ⟨b, o, c, e, fun j x hx => (hb.cell (p := ⟨b, o + j, none⟩) (block_lt_of_cell (h3 j x hx))).trans (h3 j x hx)⟩
theorem wp_append_strs {o : Oper} {a : Act} {w : World} {K : Act → World → Prop} {Q : Exit → Act → World → Prop} (s x : Operand)
    (ho : o.op = .call { callee := .builtin .append, args := #[s, x], argTypes := #[22, 22] }) (base : Nat) (v u : Value) (ss ys : List ByteArray)
    (hsv : a.eval s = v) (hxv : a.eval x = u) (hown : OwnsS w base v ss) (hy : SrcS w u ys) (hlen : ss.length + ys.length ≤ 100000) (hbase : base ≤ w.heap.size)
    (h : ∀ v' w', OwnsS w' base v' (ss ++ ys) → w.grownBy w' v.ownBlock → K (a.put o.dst v') w') : o.wp Tryd.prog a w K Q := by
  obtain ⟨i0, hi, hz0, hz1, hz2⟩ := info_parts str_infos
  rcases hy with ⟨rfl, rfl⟩ | ⟨b, off, c, rfl, hc⟩
  · have hrun := run_append_owned_none (P := Tryd.prog) (w := w) base 22 o.type 9 i0 1 Tryd.underlying22 hi v ss.length (ss.map Value.string) hown
    unfold Oper.wp execOp
    simp only [ho, resolve, invoke, builtin, Sem.run_bind, Sem.run_pure, Result.andThen_ok, List.map_toArray, List.map_cons, List.map_nil, hsv, hxv, hrun]
    exact h v w (by rw [List.append_nil]; exact hown) ⟨rfl, rfl, rfl, Nat.le_refl _, fun _ _ _ => rfl⟩
  · refine wp_append_own (P := Tryd.prog) w s x 22 ho base 9 i0 _ 1 16 Tryd.underlying22 hi hz0 hz1 hz2 rfl (by omega) v ss.length (ss.map Value.string) hsv hown ⟨b, off, none⟩ ys.length c (ys.map Value.string) hxv (by simp) (fun j u hu => by rw [Addr.add_mid]; exact hc j u hu) (fun u hu => by
      obtain ⟨y, _, rfl⟩ := List.mem_map.1 hu
      rfl) (by unfold maxLen; omega) (by omega) hbase ?_
    intro v' w' h2 h3 _
    refine h v' w' ?_ h3
    show World.ownsRow _ _ _ _ _ _ _
    rw [List.map_append, List.length_append]; exact h2
theorem wpList_append_strs {ops : Array Oper} {rest : List Oper} {o : Oper} {a : Act} {w : World} {Q : Exit → Act → World → Prop} (hgd : o.guard = none) (s x : Operand)
    (ho : o.op = .call { callee := .builtin .append, args := #[s, x], argTypes := #[22, 22] }) (base : Nat) (v u : Value) (ss ys : List ByteArray)
    (hsv : a.eval s = v) (hxv : a.eval x = u) (hown : OwnsS w base v ss) (hy : SrcS w u ys) (hlen : ss.length + ys.length ≤ 100000) (hbase : base ≤ w.heap.size)
    (h : ∀ v' w', OwnsS w' base v' (ss ++ ys) → w.grownBy w' v.ownBlock → wpList Tryd.prog ops Q rest (a.put o.dst v') w') : wpList Tryd.prog ops Q (o :: rest) a w :=
  wpList_plain hgd fun _ hK => wp_append_strs s x ho base v u ss ys hsv hxv hown hy hlen hbase fun v' w' h1 h2 => hK _ _ (h v' w' h1 h2)
end
end Go.Proofs.YtjedhmoehepbnaaDoor
