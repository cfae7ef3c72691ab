/- The contract of the reference's Strings. -/
import Derived.Test.YtjedhmoehepbnaaDoorSlices
import Derived.Test.YtjedhmoehepbnaaDoorTreeRefPath
namespace Go.Proofs.YtjedhmoehepbnaaDoor
open Go.RowKit Go.Sort
set_option linter.unusedVariables false

/-- an argument that is a slice of bytes -/
structure BytesIn (w : World) (ao : Option Addr) (n c : Nat) (xs : List UInt8) : Prop where
  le : n ≤ c
  cap : c ≤ 9223372036854775807
  len : xs.length = n
  some : 0 < n → ∃ b o, ao = some ⟨b, o, none⟩ ∧ ∀ i, i < n → w.cell? ⟨b, o + i, none⟩ = some (.int .u8 ((xs.getD i 0).toNat : Int))
theorem BytesIn.below {W w1 : World} {ao : Option Addr} {n c : Nat} {xs : List UInt8} (h : BytesIn W ao n c xs) (hb : Below W.heap.size W w1) : BytesIn w1 ao n c xs :=
  ⟨h.le, h.cap, h.len, fun h0 => by
    obtain ⟨b, o, e, hc⟩ := h.some h0
    exact ⟨b, o, e, fun i hi => (hb.cell (p := ⟨b, o + i, none⟩) (block_lt_of_cell (hc i hi))).trans (hc i hi)⟩⟩
/-- a new slice of strings -/
def OwnsS (W : World) (base : Nat) (v : Value) (ss : List ByteArray) : Prop := W.ownsRow base 9 1 v ss.length (ss.map Value.string)
def Tree.word (x : UInt8) (k : Nat) : ByteArray := ⟨#[UInt8.ofNat (97 + x.toNat % 5), UInt8.ofNat k]⟩
def Tree.words (xs : List UInt8) (k : Nat) : List ByteArray := (List.range k).map fun i => Tree.word (xs.getD i 0) i
theorem str_infos : (Tryd.prog.info? 9).map (fun i => (i.zero, i.size, i.bytes)) = some (some (.string ByteArray.empty), 1, 16) := by kernel_rfl
theorem wpList_append_str {ops : Array Oper} {rest : List Oper} {o : Oper} {a : Act} {w : World} {Q : Exit → Act → World → Prop} (hgd : o.guard = none) (s x : Operand)
    (ho : o.op = .call { callee := .builtin .append, args := #[s, x], argTypes := #[22, 22] }) (base : Nat) (v : Value) (ss : List ByteArray) (r : ByteArray) (B : Nat)
    (hsv : a.eval s = v) (hx : a.eval x = .slice (some ⟨B, 0, none⟩) 1 1) (hown : OwnsS w base v ss) (hB : w.heap[B]? = some (.cells #[.string r] 9 (0, 0))) (hlen : ss.length ≤ 100000) (hbase : base ≤ w.heap.size)
    (h : ∀ g cap w', OwnsS w' base (.slice (some ⟨g, 0, none⟩) (ss.length + 1) cap) (ss ++ [r]) → w.grownBy w' v.ownBlock → wpList Tryd.prog ops Q rest (a.put o.dst (.slice (some ⟨g, 0, none⟩) (ss.length + 1) cap)) w') :
    wpList Tryd.prog ops Q (o :: rest) a w := by
  obtain ⟨i0, hi, hz0, hz1, hz2⟩ := info_parts str_infos
  refine wpList_append_lies (P := Tryd.prog) w hgd s x 22 ho base 9 i0 _ 1 16 Tryd.underlying22 hi hz0 hz1 hz2 rfl (by omega) v ss.length (ss.map Value.string) hsv hown ⟨B, 0, none⟩ 1 1 [.string r] hx rfl (World.news_of_block hB)
    (fun u hu => by rw [List.mem_singleton.1 hu]; rfl) (by omega) (by unfold maxLen; omega) (by omega) hbase _ rfl ?_
  intro g cap w1 hown1 hgrow _ _
  refine h g cap w1 ?_ hgrow
  show World.ownsRow _ _ _ _ _ _ _
  rw [List.map_append, List.length_append]; exact hown1
theorem OwnsS.below {W w1 : World} {base : Nat} {v : Value} {ss : List ByteArray} (h : OwnsS W base v ss) (hb : Below W.heap.size W w1) : OwnsS w1 base v ss := ownsRow_below h hb
theorem OwnsS.block {W : World} {base : Nat} {v : Value} {ss : List ByteArray} (h : OwnsS W base v ss) : ∀ k, v.ownBlock = some k → base ≤ k := by
  intro k hk
  rcases h.2 with ⟨rfl, _⟩ | ⟨g, cap, cur, rfl, hbg, _⟩
  · cases hk
  · injection hk with hk; rw [← hk]; exact hbg
theorem conv_word (z : UInt8) (k : Nat) (W : World) (T : TypeId) : (convert 30 9 (.slice (some ⟨W.heap.size, 0, none⟩) 2 2)).run Tryd.prog (W.alloc (.cells #[.int .u8 (97 + (z.toNat : Int) % 5), .int .u8 (k : Int)] T)) = .ok (.string (Tree.word z k)) (W.alloc (.cells #[.int .u8 (97 + (z.toNat : Int) % 5), .int .u8 (k : Int)] T)) := by
  have h := conv_row (P := Tryd.prog) (w := W.alloc (.cells #[.int .u8 (97 + (z.toNat : Int) % 5), .int .u8 (k : Int)] T)) (b := W.heap.size) (n := 2) (c := 2) (T := T) (S := 30) (D := 9) (E := 5) (g := fun i => if i = 0 then 97 + z.toNat % 5 else k) Tryd.underlying30 Tryd.underlying5 Tryd.underlying9 (fun i hi => by
    have : i = 0 ∨ i = 1 := by omega
    rcases this with rfl | rfl
    · simp
    · simp)
  rw [h]; rfl
theorem word_size (z : UInt8) (k : Nat) : (Tree.word z k).size = 2 := rfl
theorem words_succ (xs : List UInt8) (k : Nat) : Tree.words xs (k + 1) = Tree.words xs k ++ [Tree.word (xs.getD k 0) k] := by simp [Tree.words, List.range_succ]
set_option maxHeartbeats 2000000 in
set_option maxRecDepth 100000 in
theorem rstrings_any (ao : Option Addr) (n c : Nat) (xs : List UInt8) (w : World) (hx : BytesIn w ao n c xs) :
    Calls Tryd.prog 20 #[.slice ao n c] w fun e w' => ∃ v, e = .returned v ∧ OwnsS w' w.heap.size v (Tree.words xs (min n 20)) ∧ Below w.heap.size w w' := by
  have HX := Lib.hid hx
  clear hx
  go_enter Tryd.func20, Tryd.ntmps20
  go_wp2_with fail
  go_loopw [3, 4] (fun v i wr => ∃ k : Nat, k ≤ min n 20 ∧ i = .int .i64 k ∧ Below w.heap.size w wr ∧ OwnsS wr w.heap.size v (Tree.words xs k)) (fun _ i _ => n - (intOf i).toNat)
  case atStart => exact ⟨0, by omega, rfl, Below.refl _ _, ⟨rfl, .inl ⟨rfl, rfl⟩⟩⟩
  case round =>
    rename_i v i
    obtain ⟨k, hk, rfl, hbw, hown⟩ := hrel
    have HBW := Lib.hid hbw
    have HOWN := Lib.hid hown
    by_cases hlt : k < min n 20
    · obtain ⟨b, o, rfl, hc⟩ := (HX.out.below hbw).some (by omega)
      have hcell := hc k (by omega)
      have hcap := HX.out.cap
      have hle := HX.out.le
      generalize hz : xs.getD k 0 = z at hcell
      have hz5 : z.toNat < 256 := z.toNat_lt
      have d1 : decide ((k : Int) < (n : Int)) = true := by simp; omega
      have d2 : decide ((k : Int) < 20) = true := by simp; omega
      have q1 : (0 : Int) ≤ (k : Int) := by omega
      have q2 : (k : Int) < (n : Int) := by omega
      have q3 : (k : Int).toNat = k := by omega
      have hcv := fun T => conv_word z k wr T
      obtain ⟨s, es⟩ : ∃ s, Tree.word z k = s := ⟨_, rfl⟩
      rw [es] at hcv
      have ew : Tree.words xs (k + 1) = Tree.words xs k ++ [s] := by rw [words_succ, hz, es]
      have lw : (Tree.words xs k).length = k := by simp [Tree.words]
      have EW := Lib.hid ew
      clear hc hbw hown ew es hz
      obtain ⟨ss, ess⟩ : ∃ ss, Tree.words xs k = ss := ⟨_, rfl⟩
      rw [ess] at HOWN EW lw
      have hb2 := Lib.hid ((HBW.out.alloc HBW.out.size (.cells #[.int .u8 (97 + (z.toNat : Int) % 5), .int .u8 (k : Int)] 5)).alloc (by simp; have := HBW.out.size; omega) (.cells #[.string s] 9))
      have HO2 := Lib.hid ((HOWN.out.below ((Below.refl _ _).alloc (Nat.le_refl _) (.cells #[.int .u8 (97 + (z.toNat : Int) % 5), .int .u8 (k : Int)] 5))).below ((Below.refl _ _).alloc (Nat.le_refl _) (.cells #[.string s] 9)))
      clear ess
      have HN := Lib.hid (heap_alloc2_new wr (.cells #[.int .u8 (97 + (z.toNat : Int) % 5), .int .u8 (k : Int)] 5) (.cells #[.string s] 9))
      go_wp2_with (refine wpList_append_str rfl _ _ rfl w.heap.size _ ss s (wr.heap.size + 1) rfl rfl HO2.out HN.out (by omega) hb2.out.size ?_; intro g3 cap3 w3 hown3 hgrow3)
      go_roundw
      case rel => exact ⟨k + 1, by omega, by go_num, hb2.out.grown hgrow3 hb2.out.size (fun k hk => HOWN.out.block k hk), by rw [EW.out, ← lw]; exact hown3⟩
      case measure => simp [intOf]; omega
    · obtain rfl : k = min n 20 := by omega
      obtain ⟨v1, ev1⟩ : ∃ m : Nat, min n 20 = m := ⟨_, rfl⟩
      rw [ev1] at HOWN ⊢
      clear hk hown
      by_cases h20 : n ≤ 20
      · have d1 : decide ((v1 : Int) < (n : Int)) = false := by simp; omega
        go_wp2_with fail
        go_ret
        exact ⟨_, rfl, by rw [ev1]; exact HOWN.out, HBW.out⟩
      · have d1 : decide ((v1 : Int) < (n : Int)) = true := by simp; omega
        have d2 : decide ((v1 : Int) < 20) = false := by simp; omega
        go_wp2_with fail
        go_ret
        exact ⟨_, rfl, by rw [ev1]; exact HOWN.out, HBW.out⟩
theorem OwnsS.is {W : World} {base : Nat} {v : Value} {ss : List ByteArray} (h : OwnsS W base v ss) (hsh : Short ss) : IsStrs W v ss := by
  refine ⟨hsh, ?_⟩
  rcases h.2 with ⟨rfl, hn⟩ | ⟨g, cap, cur, rfl, hbg, hgg, hnc, hcm, hcs, ht⟩
  · exact .inl ⟨List.length_eq_zero_iff.1 hn, none, 0, rfl⟩
  · have hcm' : cap ≤ 9223372036854775807 := by unfold maxLen at hcm; omega
    by_cases h0 : ss.length = 0
    · exact .inl ⟨List.length_eq_zero_iff.1 h0, some ⟨g, 0, none⟩, cap, by rw [h0]⟩
    · refine .inr ⟨g, 0, cap, rfl, by omega, hnc, hcm', fun i hi => ?_⟩
      rw [Nat.zero_add, cell_of_row _ _ _ _ _ _ hgg]
      have e : (ss.map Value.string)[i]? = some (.string (ss.getD i ByteArray.empty)) := by
        rw [List.getElem?_map, List.getD_eq_getElem?_getD, List.getElem?_eq_getElem hi]; rfl
      rw [← ht, List.getElem?_take, if_pos (by omega)] at e
      simpa using e
theorem words_short (xs : List UInt8) (k : Nat) : Short (Tree.words xs k) := by
  intro s hs
  obtain ⟨i, _, rfl⟩ := List.mem_map.1 hs
  rw [word_size]; omega
theorem words_length (xs : List UInt8) (k : Nat) : (Tree.words xs k).length = k := by simp [Tree.words]
end Go.Proofs.YtjedhmoehepbnaaDoor
