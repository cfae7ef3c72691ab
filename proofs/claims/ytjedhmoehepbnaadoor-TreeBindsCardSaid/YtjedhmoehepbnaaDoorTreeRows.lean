/- Slices of hashes: owned rows, a literal of hashes, an append of one hash. -/
import Derived.Test.YtjedhmoehepbnaaDoorTreeRoot
import Derived.Deep.AppendLies
import Derived.Deep.RegionLaw
import Derived.Deep.DrawnRows
import Derived.Great.BuildSlice
import Derived.OwnWalk
namespace Go.Proofs.YtjedhmoehepbnaaDoor
open Go.RowKit Go.Sort
set_option linter.unusedVariables false

def flat (hs : List Tree.H) : List Value := hs.flatMap fun h => (hashArr h).toList
theorem flat_length (hs : List Tree.H) (h : ∀ x ∈ hs, x.length = 32) : (flat hs).length = hs.length * 32 := by
  induction hs with
  | nil => rfl
  | cons x hs ih =>
    have e : flat (x :: hs) = (hashArr x).toList ++ flat hs := by simp [flat]
    rw [e, List.length_append, ih (fun y hy => h y (by simp [hy])), Array.length_toList, hashArr_size, h x (by simp), List.length_cons]
    omega
theorem flat_snoc (hs : List Tree.H) (r : Tree.H) : flat (hs ++ [r]) = flat hs ++ (hashArr r).toList := by simp [flat]
/-- a slice of hashes of the call's own -/
def OwnsH (W : World) (base : Nat) (v : Value) (hs : List Tree.H) : Prop := (∀ x ∈ hs, x.length = 32) ∧ W.ownsRow base 24 32 v hs.length (flat hs)
theorem ownsRow_below {W w1 : World} {base : Nat} {e : TypeId} {size : Nat} {v : Value} {n : Nat} {xs : List Value} (h : W.ownsRow base e size v n xs) (hb : Below W.heap.size W w1) : w1.ownsRow base e size v n xs := by
  refine ⟨h.1, ?_⟩
  rcases h.2 with hn | ⟨g, cap, cur, rfl, hbg, hgg, rest⟩
  · exact .inl hn
  · exact .inr ⟨g, cap, cur, rfl, hbg, heap_below hgg hb, rest⟩
theorem OwnsH.below {W w1 : World} {base : Nat} {v : Value} {hs : List Tree.H} (h : OwnsH W base v hs) (hb : Below W.heap.size W w1) : OwnsH w1 base v hs := ⟨h.1, ownsRow_below h.2 hb⟩
theorem OwnsH.nil (W : World) (base : Nat) : OwnsH W base (.slice none 0 0) [] := ⟨by simp, rfl, .inl ⟨rfl, rfl⟩⟩
theorem OwnsH.block {W : World} {base : Nat} {v : Value} {hs : List Tree.H} (h : OwnsH W base v hs) : ∀ k, v.ownBlock = some k → base ≤ k := by
  intro k hk
  rcases h.2.2 with ⟨rfl, _⟩ | ⟨g, cap, cur, rfl, hbg, _⟩
  · cases hk
  · injection hk with hk; rw [← hk]; exact hbg
theorem OwnsH.mono {W : World} {base b2 : Nat} {v : Value} {hs : List Tree.H} (h : OwnsH W base v hs) (hb : b2 ≤ base) : OwnsH W b2 v hs := by
  refine ⟨h.1, h.2.1, ?_⟩
  rcases h.2.2 with hn | ⟨g, cap, cur, rfl, hbg, rest⟩
  · exact .inl hn
  · exact .inr ⟨g, cap, cur, rfl, by omega, rest⟩
theorem hash_infos : (Tryd.prog.info? 24).map (fun i => (i.zero, i.size, i.bytes)) = some (some (.agg (hashArr (List.replicate 32 0))), 32, 32) := by kernel_rfl
/-- a literal of hashes -/
theorem build_hashes (w : World) (hs : List Tree.H) (parts : Array (Nat × Value)) (hp : parts.toList = (hs.zipIdx 0).map fun x => (x.2, Value.agg (hashArr x.1))) (h : ∀ x ∈ hs, x.length = 32) (h0 : 0 < hs.length) (h1 : hs.length ≤ 100) :
    (Instr.buildSlice 38 hs.length parts).run Tryd.prog w = .ok (.slice (some ⟨w.heap.size, 0, none⟩) hs.length hs.length) (w.alloc (.cells (flat hs).toArray 24)) := by
  obtain ⟨i0, hi, hz0, hz1, hz2⟩ := info_parts hash_infos
  refine run_buildSlice w 38 24 hs.length parts (flat hs).toArray i0 _ Tryd.underlying38 hi hz0 (by rw [hz1]; omega) (by rw [hz1]; omega) ?_
  rw [hz1, hp]
  have := Great.fill_whole (s := 32) (by omega) (hs.map fun x => Value.agg (hashArr x)) ((Array.range (hs.length * 32)).map ((Value.agg (hashArr (List.replicate 32 0))).cells[· % (Value.agg (hashArr (List.replicate 32 0))).cells.size]!)) (fun v hv => by
    obtain ⟨x, hx, rfl⟩ := List.mem_map.1 hv
    show (hashArr x).size = 32
    rw [hashArr_size, h x hx]) (by simp)
  rw [List.zipIdx_map, List.map_map] at this
  have e1 : ((fun x : Value × Nat => (x.2, x.1)) ∘ Prod.map (fun x => Value.agg (hashArr x)) id) = fun x : Tree.H × Nat => (x.2, Value.agg (hashArr x.1)) := by funext x; rfl
  have e2 : ((hs.map fun x => Value.agg (hashArr x)).flatMap fun v => v.cells.toList) = flat hs := by
    unfold flat
    rw [List.flatMap_map]
    rfl
  rw [e1, e2] at this
  exact this
/-- one hash -/
theorem build_one (h : Tree.H) (hl : Hid (h.length = 32)) (w : World) : (Instr.buildSlice 38 1 #[(0, .agg (hashArr h))]).run Tryd.prog w = .ok (.slice (some ⟨w.heap.size, 0, none⟩) 1 1) (w.alloc (.cells (hashArr h) 24)) := by
  have := build_hashes w [h] #[(0, .agg (hashArr h))] rfl (by simp [hl.out]) (by simp) (by simp)
  rw [show flat [h] = (hashArr h).toList by simp [flat], Array.toArray_toList] at this
  exact this
/-- the operation itself, of 1: a rule of the walk -/
theorem wp_build_one {d : Option Tmp} {x : Operand} {ty : TypeId} {pos : String} {after : Array Edge} {gd : Option (Nat × Bool)} {a : Act} {w : World} {K : Act → World → Prop} {Q : Exit → Act → World → Prop} (h0 : (a.eval x).cells.size = 32) :
    Oper.wp Tryd.prog ⟨d, .buildSlice 38 1 #[(0, x)], ty, pos, after, gd⟩ a w K Q = K (a.put d (.slice (some ⟨w.heap.size, 0, none⟩) 1 1)) (w.alloc (.cells ((a.eval x).cells) 24)) := by
  obtain ⟨i0, hi, hz0, hz1, hz2⟩ := info_parts hash_infos
  have hf := Great.fill_whole (s := 32) (by omega) [a.eval x] ((Array.range (1 * 32)).map ((Value.agg (hashArr (List.replicate 32 0))).cells[· % (Value.agg (hashArr (List.replicate 32 0))).cells.size]!)) (fun v hv => by
    simp only [List.mem_cons, List.not_mem_nil, or_false] at hv
    rcases hv with rfl
    · exact h0) (by simp)
  have e2 : ([a.eval x].flatMap fun v => v.cells.toList).toArray = (a.eval x).cells := by simp
  rw [e2] at hf
  have hr := run_buildSlice (P := Tryd.prog) w 38 24 1 #[(0, a.eval x)] ((a.eval x).cells) i0 _ Tryd.underlying38 hi hz0 (by rw [hz1]; omega) (by rw [hz1]; omega) (by rw [hz1]; exact hf)
  unfold Oper.wp execOp
  simp only [Sem.run_bind, List.map_toArray, List.map_cons, List.map_nil, hr, Result.andThen_ok]
  rfl
/-- the operation itself, of 2: a rule of the walk -/
theorem wp_build_two {d : Option Tmp} {x0 x1 : Operand} {ty : TypeId} {pos : String} {after : Array Edge} {gd : Option (Nat × Bool)} {a : Act} {w : World} {K : Act → World → Prop} {Q : Exit → Act → World → Prop} (h0 : (a.eval x0).cells.size = 32) (h1 : (a.eval x1).cells.size = 32) :
    Oper.wp Tryd.prog ⟨d, .buildSlice 38 2 #[(0, x0), (1, x1)], ty, pos, after, gd⟩ a w K Q = K (a.put d (.slice (some ⟨w.heap.size, 0, none⟩) 2 2)) (w.alloc (.cells ((a.eval x0).cells ++ (a.eval x1).cells) 24)) := by
  obtain ⟨i0, hi, hz0, hz1, hz2⟩ := info_parts hash_infos
  have hf := Great.fill_whole (s := 32) (by omega) [a.eval x0, a.eval x1] ((Array.range (2 * 32)).map ((Value.agg (hashArr (List.replicate 32 0))).cells[· % (Value.agg (hashArr (List.replicate 32 0))).cells.size]!)) (fun v hv => by
    simp only [List.mem_cons, List.not_mem_nil, or_false] at hv
    rcases hv with rfl | rfl
    · exact h0
    · exact h1) (by simp)
  have e2 : ([a.eval x0, a.eval x1].flatMap fun v => v.cells.toList).toArray = (a.eval x0).cells ++ (a.eval x1).cells := by simp
  rw [e2] at hf
  have hr := run_buildSlice (P := Tryd.prog) w 38 24 2 #[(0, a.eval x0), (1, a.eval x1)] ((a.eval x0).cells ++ (a.eval x1).cells) i0 _ Tryd.underlying38 hi hz0 (by rw [hz1]; omega) (by rw [hz1]; omega) (by rw [hz1]; exact hf)
  unfold Oper.wp execOp
  simp only [Sem.run_bind, List.map_toArray, List.map_cons, List.map_nil, hr, Result.andThen_ok]
  rfl
/-- the operation itself, of 3: a rule of the walk -/
theorem wp_build_three {d : Option Tmp} {x0 x1 x2 : Operand} {ty : TypeId} {pos : String} {after : Array Edge} {gd : Option (Nat × Bool)} {a : Act} {w : World} {K : Act → World → Prop} {Q : Exit → Act → World → Prop} (h0 : (a.eval x0).cells.size = 32) (h1 : (a.eval x1).cells.size = 32) (h2 : (a.eval x2).cells.size = 32) :
    Oper.wp Tryd.prog ⟨d, .buildSlice 38 3 #[(0, x0), (1, x1), (2, x2)], ty, pos, after, gd⟩ a w K Q = K (a.put d (.slice (some ⟨w.heap.size, 0, none⟩) 3 3)) (w.alloc (.cells ((a.eval x0).cells ++ (a.eval x1).cells ++ (a.eval x2).cells) 24)) := by
  obtain ⟨i0, hi, hz0, hz1, hz2⟩ := info_parts hash_infos
  have hf := Great.fill_whole (s := 32) (by omega) [a.eval x0, a.eval x1, a.eval x2] ((Array.range (3 * 32)).map ((Value.agg (hashArr (List.replicate 32 0))).cells[· % (Value.agg (hashArr (List.replicate 32 0))).cells.size]!)) (fun v hv => by
    simp only [List.mem_cons, List.not_mem_nil, or_false] at hv
    rcases hv with rfl | rfl | rfl
    · exact h0
    · exact h1
    · exact h2) (by simp)
  have e2 : ([a.eval x0, a.eval x1, a.eval x2].flatMap fun v => v.cells.toList).toArray = (a.eval x0).cells ++ (a.eval x1).cells ++ (a.eval x2).cells := by simp
  rw [e2] at hf
  have hr := run_buildSlice (P := Tryd.prog) w 38 24 3 #[(0, a.eval x0), (1, a.eval x1), (2, a.eval x2)] ((a.eval x0).cells ++ (a.eval x1).cells ++ (a.eval x2).cells) i0 _ Tryd.underlying38 hi hz0 (by rw [hz1]; omega) (by rw [hz1]; omega) (by rw [hz1]; exact hf)
  unfold Oper.wp execOp
  simp only [Sem.run_bind, List.map_toArray, List.map_cons, List.map_nil, hr, Result.andThen_ok]
  rfl
/-- 'append(s, r)' as a step of a region that draws its order -/
theorem step_append_hash {ops : Array Oper} {o : Oper} {a : Act} {w : World} {K : Act → World → Prop} {Q : Exit → Act → World → Prop} {E : Prop} (hgd : o.guard = none) (s x : Operand)
    (ho : o.op = .call { callee := .builtin .append, args := #[s, x], argTypes := #[38, 38] }) (base : Nat) (v : Value) (hs : List Tree.H) (r : Tree.H) (B : Nat)
    (hsv : a.eval s = v) (hx : a.eval x = .slice (some ⟨B, 0, none⟩) 1 1) (hown : OwnsH w base v hs) (hB : w.heap[B]? = some (.cells (hashArr r) 24 (0, 0))) (hr : r.length = 32) (hlen : hs.length ≤ 100000) (hbase : base ≤ w.heap.size)
    (h : ∀ g cap w', OwnsH w' base (.slice (some ⟨g, 0, none⟩) (hs.length + 1) cap) (hs ++ [r]) → w.grownBy w' v.ownBlock → K (a.put o.dst (.slice (some ⟨g, 0, none⟩) (hs.length + 1) cap)) w') :
    if Region.wanted o (yielded ops a.tmps) = true then Oper.wp Tryd.prog o a w K Q else E := by
  obtain ⟨i0, hi, hz0, hz1, hz2⟩ := info_parts hash_infos
  refine step_append_lies (P := Tryd.prog) w hgd s x 38 ho base 24 i0 _ 32 32 Tryd.underlying38 hi hz0 hz1 hz2 rfl (by omega) v hs.length (flat hs) hsv hown.2 ⟨B, 0, none⟩ 1 1 (hashArr r).toList hx (by rw [Array.length_toList, hashArr_size, hr]) (World.news_of_block hB)
    (fun u hu => Array.all_eq_true_iff_forall_mem.1 (hashArr_one r) u (by simpa using hu)) (by omega) (by unfold maxLen; omega) (by omega) hbase _ rfl ?_
  intro g cap w1 hown1 hgrow _ _
  refine h g cap w1 ⟨fun y hy => ?_, ?_⟩ hgrow
  · rcases List.mem_append.1 hy with hy | hy
    · exact hown.1 y hy
    · rw [List.mem_singleton.1 hy]; exact hr
  · rw [flat_snoc, List.length_append]; exact hown1
end Go.Proofs.YtjedhmoehepbnaaDoor
