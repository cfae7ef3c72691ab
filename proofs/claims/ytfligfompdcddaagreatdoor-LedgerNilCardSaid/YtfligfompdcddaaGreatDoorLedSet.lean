/- Sets of strings (map[string]bool), their keys, sorted. -/
import Derived.Test.YtfligfompdcddaaGreatDoorLedMap
import Derived.Test.YtfligfompdcddaaGreatDoorKeysShelf
namespace Go.Proofs.YtfligfompdcddaaGreatDoor
open Go.RowKit Go.Sort Go.Maps Go.Shelf
set_option linter.unusedVariables false
/-- block b is a set of strings, of at most n entries -/
def SetAt (w : World) (b n : Nat) (xs : List (List UInt8)) : Prop :=
  ∃ D : DataW Unit, w.ownsMap Tryz.prog 9 (plainElem Tryz.prog 4) b n D ∧ ∀ x : List UInt8, has D (.string x) = true ↔ x ∈ xs
theorem SetAt.made (w : World) : SetAt (w.alloc (.map #[] 0)) w.heap.size 0 [] :=
  ⟨.map [], World.ownsMap_made _ _ _ _, fun x => by simp [has]⟩
theorem SetAt.lt {w : World} {b n : Nat} {xs : List (List UInt8)} (h : SetAt w b n xs) : b < w.heap.size := let ⟨_, h, _⟩ := h; h.lt
theorem SetAt.kept {w w' : World} {b n : Nat} {xs : List (List UInt8)} {row : Option Nat} (h : SetAt w b n xs) (hg : w.grownBy w' row) (hne : some b ≠ row) : SetAt w' b n xs :=
  let ⟨D, h1, h2⟩ := h; ⟨D, h1.kept hg hne, h2⟩
theorem SetAt.mono {w : World} {b n m : Nat} {xs : List (List UInt8)} (h : SetAt w b n xs) (hm : n ≤ m) : SetAt w b m xs := let ⟨D, h1, h2⟩ := h; ⟨D, h1.mono hm, h2⟩
theorem SetAt.below {w w' : World} {b n : Nat} {xs : List (List UInt8)} (h : SetAt w b n xs) (hb : Below w.heap.size w w') : SetAt w' b n xs :=
  h.kept (row := none) ⟨hb.os, hb.tape, hb.output, hb.size, fun k hk _ => hb.block k hk⟩ (by simp)
theorem SetAt.put {w : World} {b n : Nat} {xs : List (List UInt8)} (h : SetAt w b n xs) {s : ByteArray} (hs : s.size ≤ maxLen) (hn : n < maxLen) :
    ∃ w', (Instr.mapUpdate 76 (.map (some b)) (.string s) (.bool true)).run Tryz.prog w = .ok () w' ∧ SetAt w' b (n + 1) (xs ++ [s.data.toList]) ∧ w.grownBy w' (some b) := by
  obtain ⟨D, h1, h2⟩ := h
  obtain ⟨w', hrun, r1, r2⟩ := h1.update keyedS Tryz.underlying76 hn (keyS hs) (plainElem_bool Tryz.underlying4 true)
  refine ⟨w', hrun, ⟨_, r1, fun x => ?_⟩, r2⟩
  by_cases e : x = s.data.toList
  · subst e
    have := Maps.has_put_same h1.isMap (litS_key s) (DataW.lit (.bool true) : DataW Unit)
    exact ⟨fun _ => by simp, fun _ => this⟩
  · have hne : (Lit.string x) ≠ litS s := fun h => e (by unfold litS at h; injection h)
    rw [Maps.has_put_other hne, h2 x, List.mem_append, List.mem_singleton]
    exact ⟨.inl, fun h => h.resolve_right e⟩
/-- a store into a set, the last of a region -/
theorem wpList_putB {ops : Array Oper} {rest : List Oper} {o : Oper} {a : Act} {w : World} {Q : Exit → Act → World → Prop} (hg : o.guard = none) (hd : o.dst = none) (m x v : Operand) (hop : o.op = Op.mapUpdate 76 m x v)
    {b n : Nat} {xs : List (List UInt8)} (hm : a.eval m = .map (some b)) (h : SetAt w b n xs) {s : ByteArray} (hx : a.eval x = .string s) (hs : s.size ≤ maxLen) (hn : n < maxLen) (hv : a.eval v = .bool true)
    (hK : ∀ w', SetAt w' b (n + 1) (xs ++ [s.data.toList]) → w.grownBy w' (some b) → wpList Tryz.prog ops Q rest a w') :
    wpList Tryz.prog ops Q (o :: rest) a w := by
  refine wpList_plain hg fun K' hK' => ?_
  obtain ⟨w', hrun, r1, r2⟩ := h.put hs hn
  unfold Oper.wp
  simp [execOp, hop, hm, hx, hv, hrun, Result.andThen]
  have hp : a.put o.dst undef = a := by rw [hd]; rfl
  have h1 := hK w' r1 r2
  rw [← hp] at h1
  exact hK' _ _ h1
theorem strKeys_facts {w : World} {b n : Nat} {D : DataW Unit} (hown : w.ownsMap Tryz.prog 9 (plainElem Tryz.prog 4) b n D) : (strKeys D).Nodup ∧ ∀ x, x ∈ strKeys D ↔ has D (.string x) = true := by
  obtain ⟨es, hD, hpw, _⟩ := hown.entries keyedS
  obtain ⟨es', hD', hko⟩ := hown.keysOf
  obtain rfl : es = es' := by rw [hD] at hD'; simpa using hD'
  subst hD
  have hk : ∀ p ∈ es, ∃ x, p.1 = .string x := fun p hp => by obtain ⟨v, hv⟩ := hko p hp; obtain ⟨x, _, hx, _⟩ := Maps.keyOf_str Tryz.underlying9 hv; exact ⟨x, hx⟩
  constructor
  · show (es.map fun p => strOf p.1).Nodup
    refine List.pairwise_map.2 (hpw.imp_of_mem fun {p q} hp' hq' hne e => hne ?_)
    obtain ⟨a, ha⟩ := hk p hp'
    obtain ⟨b, hb⟩ := hk q hq'
    rw [ha, hb] at e ⊢
    exact congrArg _ e
  · intro x
    rw [has_eq, List.any_eq_true]
    show x ∈ es.map (fun p => strOf p.1) ↔ _
    rw [List.mem_map]
    constructor
    · rintro ⟨p, hp', rfl⟩
      obtain ⟨a, ha⟩ := hk p hp'
      exact ⟨p, hp', by rw [ha]; simp [Lit.sameKey, strOf]⟩
    · rintro ⟨p, hp', hs⟩
      obtain ⟨a, ha⟩ := hk p hp'
      rw [ha] at hs
      exact ⟨p, hp', by rw [ha]; simpa [Lit.sameKey, strOf] using hs⟩
theorem sorted_facts {ss ks : List (List UInt8)} (hp : ss.Perm ks) (hn : ks.Nodup) : (ss.mergeSort (fun x y => decide (x ≤ y))).Pairwise (· < ·) ∧ (∀ x, x ∈ ss.mergeSort (fun x y => decide (x ≤ y)) ↔ x ∈ ks) := by
  have tr : ∀ a b c : List UInt8, leB a b = true → leB b c = true → leB a c = true := fun a b c h1 h2 => by simp only [leB, decide_eq_true_eq] at *; exact List.le_trans h1 h2
  have to : ∀ a b : List UInt8, (leB a b || leB b a) = true := fun a b => by simp only [leB, Bool.or_eq_true, decide_eq_true_eq]; exact List.le_total a b
  have h1 := List.pairwise_mergeSort tr to ss
  have hpm := (List.mergeSort_perm ss leB).trans hp
  have h2 : (ss.mergeSort leB).Nodup := hpm.nodup_iff.2 hn
  refine ⟨?_, fun x => hpm.mem_iff⟩
  refine (List.pairwise_and_iff.2 ⟨h1, h2⟩).imp ?_
  rintro a b ⟨h3, h4⟩
  simp only [leB, decide_eq_true_eq] at h3
  exact List.not_le.1 fun h5 => h4 (List.le_antisymm h3 h5)
/-- slices.Sort's two contracts at this dump, at the fence that asks nothing. -/
theorem sortsA (m : Nat) : AnyZ.SortsIn Tryz.prog Tryz.sortedA_ren Fence.wide m :=
  ⟨fun blk off cap ss W hH hblk hsz => callsIn_wide.2 (AnyM.slices_Sort_string Tryz.sortA blk off cap ss W hH hblk hsz),
   fun p cap W => callsIn_wide.2 (AnyM.slices_Sort_string_none Tryz.sortA p cap W)⟩
theorem keys_any (mb : Option Nat) (W : World) : Calls Tryz.prog 44 #[.map mb] W fun e w' => e = .returned (.func (.func 56) #[] #[.pointer (some ⟨W.heap.size, 0, none⟩)]) ∧ w' = W.alloc (.cells #[.map mb] 76) := by
  have h := AnyZ.keys_in Tryz.keysA Fence.wide 5 trivial rfl mb W
  exact (callsIn_wide (n := 5)).1 h
theorem sorted_any {b nn : Nat} {xs : List (List UInt8)} {w : World} (hs : SetAt w b nn xs) (hn : nn ≤ 1000000) (ty : TypeId) :
    Calls Tryz.prog 43 #[.func (.func 56) #[] #[.pointer (some ⟨w.heap.size, 0, none⟩)]] (w.alloc (.cells #[.map (some b)] ty)) fun e w' => ∃ (v : Value) (ns : List (List UInt8)), e = .returned v ∧ ns.Pairwise (· < ·) ∧ (∀ x, x ∈ ns ↔ x ∈ xs) ∧ ns.length ≤ nn ∧
      w'.ownsRow w.heap.size 9 1 v ns.length (ns.map encStr) ∧ Below w.heap.size w w' := by
  obtain ⟨D0, hown, hmem⟩ := hs
  have hbl := hown.lt
  have hsz := hown.size_le
  have hseq : SeqGives Fence.wide 2 Tryz.prog 56 #[.pointer (some ⟨w.heap.size, 0, none⟩)] encStr (fun ss => ss.Perm (strKeys D0)) (Maps.size D0) (w.alloc (.cells #[.map (some b)] ty)) :=
    AnyZ.keys_gives (ρ := Tryz.keysA_ren) { Tryz.keysA with } Fence.wide _ trivial rfl (by omega) w.heap.size b nn D0 _ (by simp) (by simp) (by
      obtain ⟨es, clock, hb, Ft, hs, hD⟩ := hown
      exact ⟨es, clock, (Below.heap_alloc _ _ b hbl).trans hb, Ft, hs, hD⟩)
  have cS := AnyZ.sorted_in Tryz.sortedA Fence.wide 5 trivial trivial trivial trivial rfl (by omega) (sortsA _) (enters_of Tryz.func55 (by kernel_rfl) rfl) 56 #[.pointer (some ⟨w.heap.size, 0, none⟩)] trivial (enters_of Tryz.func56 (by kernel_rfl) rfl) _ (Maps.size D0) (by unfold maxLen; omega) (by omega) _ hseq
  refine ((callsIn_wide (n := 5)).1 cS).mono ?_
  rintro e w' ⟨v, ss, rfl, hP, hrow, hnil, hb⟩
  obtain ⟨f1, f2⟩ := strKeys_facts hown
  obtain ⟨s1, s2⟩ := sorted_facts hP f1
  have hlen : (ss.mergeSort (fun x y => decide (x ≤ y))).length = ss.length := List.length_mergeSort ss
  refine ⟨v, _, rfl, s1, fun x => (s2 x).trans ((f2 x).trans (hmem x)), ?_, ?_, ((Below.refl _ w).alloc (Nat.le_refl _) _).trans (hb.mono (by simp))⟩
  · rw [hlen, hP.length_eq]
    refine Nat.le_trans ?_ hsz
    unfold strKeys Maps.size
    split <;> simp
  · rw [hlen]
    exact ownsRow_base_a hrow (by simp)
end Go.Proofs.YtfligfompdcddaaGreatDoor
