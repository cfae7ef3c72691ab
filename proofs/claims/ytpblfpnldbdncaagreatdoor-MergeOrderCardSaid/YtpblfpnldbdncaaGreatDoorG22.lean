/- The five tables, out of what a row lists; an argument that is a slice of sales by numbers. -/
import Derived.Test.YtpblfpnldbdncaaGreatDoorRows
import Derived.Test.YtpblfpnldbdncaaGreatDoorG21
import Derived.Deep.DeepHandedRow
import Derived.Lib.LaidTab
import Derived.Laws.Rows
import Derived.ChangeSlices
import Derived.OpenShut
import Derived.SizedLaws
import Derived.Carry
namespace Go.Proofs.YtpblfpnldbdncaaGreatDoor
open Go.ChangeShapes Go.WideShapes Go.ChangeAt Go.RowKit
open Mg (Sale)
set_option linter.unusedVariables false
/-- a table that stands anywhere on the list -/
theorem tabIs_of_mem {P : Program} {W : World} {name : String} {k : IntKind} {zs : List Int} {g : Nat} {t e : TypeId} {n : Nat}
    (hg : P.globalNamed name = some g) (hty : (P.globals[g]?).map (·.type) = some t) (ht : P.underlying t = some (.array n e)) (he : P.underlying e = some (.int k)) (hce : P.cellsOf e = 1) (hct : P.cellsOf t = n) :
    ∀ {L : List (String × DataW Unit)} {ps : List MemPlace}, (name, Lib.tabData k zs) ∈ L → DataW.LaidVars P W L ps → Lib.TabIs P W name k zs := by
  intro L
  induction L with
  | nil => intro ps hm _; cases hm
  | cons x L ih =>
    intro ps hm h
    obtain ⟨nm, d⟩ := x
    obtain ⟨g', t', cs, fuel, p, q, hg', ht', hvar, hd, hr, _⟩ := h
    cases List.mem_cons.1 hm with
    | inl e2 =>
      injection e2 with e3 e4
      subst e3 e4
      obtain rfl := Option.some.inj (hg.symm.trans hg')
      obtain rfl := Option.some.inj (hty.symm.trans ht')
      unfold Lib.TabIs
      rw [hvar, ← Lib.cells_of_tab ht he hce hct hd]
    | inr e2 => exact ih e2 hr
theorem own : ownKnob Tryz.prog.godebug = none := by kernel_rfl
theorem gFirst : Tryz.prog.globalNamed "sortes/digest.first" = some 0 := by kernel_rfl
theorem gFirstType : (Tryz.prog.globals[0]?).map (·.type) = some 122 := by kernel_rfl
theorem gConst : Tryz.prog.globalNamed "sortes/digest.constants" = some 1 := by kernel_rfl
theorem gConstType : (Tryz.prog.globals[1]?).map (·.type) = some 155 := by kernel_rfl
theorem cells8 : Tryz.prog.cellsOf 122 = 8 := by kernel_rfl
theorem cells64 : Tryz.prog.cellsOf 155 = 64 := by kernel_rfl
theorem cellsU : Tryz.prog.cellsOf 70 = 1 := by kernel_rfl
theorem gPow : Tryz.prog.globalNamed "internal/strconv.uint64pow10" = some 3 := by kernel_rfl
theorem gPowType : (Tryz.prog.globals[3]?).map (·.type) = some 216 := by kernel_rfl
theorem cells20 : Tryz.prog.cellsOf 216 = 20 := by kernel_rfl
theorem cellsU64 : Tryz.prog.cellsOf 154 = 1 := by kernel_rfl
theorem pow_data {H : Type} : (Rows.laid_internal_strconv_uint64pow10 : DataW H) = Lib.tabData .u64 Lib.pow10Tab := rfl
def firstZ : List Int := (Sha.stList Sha.iv).map fun (n : Nat) => (n : Int)
def constZ : List Int := Sha.ks.map fun (n : Nat) => (n : Int)
theorem first_data {H : Type} : (Rows.laid_sortes_digest_first : DataW H) = Lib.tabData .u32 firstZ := rfl
theorem const_data {H : Type} : (Rows.laid_sortes_digest_constants : DataW H) = Lib.tabData .u32 constZ := rfl
theorem getD_cast (l : List Nat) (i : Nat) : (l.map fun (n : Nat) => (n : Int)).getD i 0 = ((l.getD i 0 : Nat) : Int) := by
  rw [List.getD_eq_getElem?_getD, List.getD_eq_getElem?_getD, List.getElem?_map]
  cases l[i]? <;> rfl
/-- what a row's list gives -/
theorem env_of {W : World} {L : List (String × DataW Unit)} (h0 : ("internal/strconv.uint64pow10", Rows.laid_internal_strconv_uint64pow10) ∈ L) (h1 : ("sortes/digest.first", Rows.laid_sortes_digest_first) ∈ L) (h2 : ("sortes/digest.constants", Rows.laid_sortes_digest_constants) ∈ L) (h : laidMet Tryz.prog L W) : Env W := by
  obtain ⟨ps, hv, _⟩ := h
  have t0 := tabIs_of_mem gPow gPowType Tryz.underlying216 Tryz.underlying154 cellsU64 cells20 (by rw [pow_data] at h0; exact h0) hv
  have t1 := tabIs_of_mem gFirst gFirstType Tryz.underlying122 Tryz.underlying70 cellsU cells8 (by rw [first_data] at h1; exact h1) hv
  have t2 := tabIs_of_mem gConst gConstType Tryz.underlying155 Tryz.underlying70 cellsU cells64 (by rw [const_data] at h2; exact h2) hv
  have c1 : ∀ i, i < 8 → W.cell? ⟨0, i, none⟩ = some (.int .u32 ((Sha.stList Sha.iv).getD i 0 : Nat)) := fun i hi => by
    rw [← getD_cast]; exact t1.cell gFirst i hi
  have c2 : ∀ i, i < 64 → W.cell? ⟨1, i, none⟩ = some (.int .u32 (Sha.ks.getD i 0 : Nat)) := fun i hi => by
    rw [← getD_cast]; exact t2.cell gConst i hi
  exact ⟨t0, c1, c2, block_lt_of_cell (c1 0 (by omega)), block_lt_of_cell (c2 0 (by omega))⟩
/-- A world for the witnesses: the settled one, the five tables holding what their initialisers lay. -/
def setObj (c : Array Value) : Obj → Obj
  | .cells _ t frozen => .cells c t frozen
  | o => o
def litCell : DataW Unit → Value
  | .lit (.int k z) => .int k z
  | _ => undef
def tabCells : DataW Unit → Array Value
  | .agg xs => (xs.map litCell).toArray
  | _ => #[]
noncomputable def laidWorld (os : Os) : World :=
  { World.holding Tryz.prog os ⟨#[], #[], []⟩ with heap := ((World.holding Tryz.prog os ⟨#[], #[], []⟩).heap.modify 0 (setObj (firstZ.map fun z => Value.int .u32 z).toArray)).modify 1 (setObj (constZ.map fun z => Value.int .u32 z).toArray) }
noncomputable def laidWorld5 (os : Os) : World :=
  { laidWorld os with heap := (((laidWorld os).heap.modify 4 (setObj (tabCells Rows.laid_math_bits_deBruijn32tab))).modify 5 (setObj (tabCells Rows.laid_math_bits_deBruijn64tab))).modify 3 (setObj (tabCells Rows.laid_internal_strconv_uint64pow10)) }
/-! arguments -/
theorem nat_u8 {a : Int} (h : (Lit.int .u8 a).wf = true) : ∃ u : Nat, a = (u : Int) ∧ u ≤ 255 := by
  have hz : 0 ≤ a ∧ a ≤ 255 := by simpa [Lit.wf, IntKind.min, IntKind.max, IntKind.signed, IntKind.bits] using h
  exact ⟨a.toNat, by omega, by omega⟩
section
variable {H : Type} {enc : TypeId × Value → H} {P : Program}
theorem trodAll_below (hl : laidOutB P = true) {W W' : World} (hb : Below W.heap.size W W') : ∀ (ts : List TypeId) (vs : List Value) (ds : List (DataW H)) (ps : List MemPlace),
    (∀ t ∈ ts, P.readableRec t = true ∧ t < P.types.size) → (∀ x ∈ ps, x.block < W.heap.size) → DataW.TrodAll enc P W 0 (fun _ => true) true ts vs ds ps →
    DataW.TrodAll enc P W' 0 (fun b => decide (b < W.heap.size)) true ts vs ds ps
  | [], vs, ds, ps, _, _, h => by
    obtain ⟨rfl, rfl, rfl⟩ := trodAll_nil h
    exact trodAll_mk0
  | t :: ts, vs, ds, ps, ht, hp, h => by
    obtain ⟨v0, vs0, d0, ds0, p0, q0, rfl, rfl, rfl, h0, r0⟩ := trodAll_cons h
    exact trodAll_cons_mk (Below.trod hl (ht t (by simp)).1 (ht t (by simp)).2 h0 hb (fun x hx => hp x (by simp [hx]))) (trodAll_below hl hb ts vs0 ds0 q0 (fun t' h' => ht t' (by simp [h'])) (fun x hx => hp x (by simp [hx])) r0)
theorem post_kept {f : Func} {s : ChangeSpec} {fresh handsOn : Bool} {W W' : World} {args : Array Value} {v : Value} {ds : List (DataW H)} {before : List MemPlace}
    (hl : laidOutB P = true) (hr : ∀ t ∈ f.params.toList, P.readableRec t = true ∧ t < P.types.size)
    (hW : DataW.Whole enc P f.params.toList s.vars false W args.toList ds [] before) (hA : DataW.TrodAll enc P W 0 (fun _ => true) true f.params.toList args.toList ds before)
    (hres : ∀ (b : Nat) (sp : Nat → Bool) (hd : Bool), DataW.TrodAll enc P W' b sp hd f.resultTypes.toList (v.resultList f.resultTypes.size) (s.fn H (ds ++ [])).results [])
    (hargs : (s.fn H (ds ++ [])).args = ds)
    (hvars : ∀ sp : Nat → Bool, DataW.TrodVars enc P W' sp s.vars (s.fn H (ds ++ [])).vars [])
    (hb : Below W.heap.size W W') :
    s.post enc P f false fresh handsOn false W args v W' := by
  have hlt : ∀ p ∈ before, p.block < W.heap.size := fun p hp => hW.lt p hp
  refine ⟨ds, [], before, [], before, [], hW, hres _ _ _, ?_, hvars _, World.keptBut_mono (fun p hp => ⟨hp, .inr (.inl hp)⟩) (hb.frame (· ∈ before)), fun h => by cases h⟩
  rw [hargs]
  exact trodAll_below hl hb _ _ _ _ hr hlt hA
theorem cellsS : Tryz.prog.cellsOf 91 = 5 := by kernel_rfl
theorem bytesS : Tryz.prog.bytesOf 91 = 5 := by kernel_rfl
theorem cellsY : Tryz.prog.cellsOf 5 = 1 := by kernel_rfl
set_option maxRecDepth 100000 in
theorem open_sale {w : World} {base fuel : Nat} {spare : Nat → Bool} {held : Bool} {cs : List Value} {x : DataW H × List MemPlace} (h : DataW.trod enc Tryz.prog w base spare held fuel 91 cs = some x) : ∃ a : Sale, SaleOk a ∧ cs = saleList a := by
  obtain ⟨xs, m, _, hx, hl, hxl, hi⟩ := DataW.trod_struct Tryz.underlying91 h
  rw [cellsS] at hl
  have key : ∀ (i : Nat) (f : Field), (#[] : Array Field).size ≤ i → i < 5 → f.offset = i → f.type = 5 → (∃ y, DataW.trod enc Tryz.prog w base spare held m f.type ((cs.drop f.offset).take (Tryz.prog.cellsOf f.type)) = some y) → ∃ z : Nat, z ≤ 255 ∧ cs[i]? = some (.int .u8 (z : Int)) := by
    intro i f _ hin h1 h2 ⟨y, hy⟩
    rw [h1, h2, cellsY] at hy
    obtain ⟨z, e1, e2, wz⟩ := DataW.trod_int Tryz.underlying5 hy
    rw [List.drop_eq_getElem_cons (show i < cs.length by omega), List.take_succ_cons, List.take_zero] at e1
    injection e1 with e1
    have hz : 0 ≤ z ∧ z ≤ 255 := by simpa [Lit.wf, IntKind.min, IntKind.max, IntKind.signed, IntKind.bits] using wz
    refine ⟨z.toNat, by omega, ?_⟩
    rw [List.getElem?_eq_getElem (by omega), e1]
    congr 2
    omega
  have hsz : xs.length = 5 := hxl
  have some_at : ∀ i, i < 5 → ∃ y, xs[i]? = some y := fun i hin => ⟨xs[i]'(by omega), List.getElem?_eq_getElem _⟩
  obtain ⟨z0, b0, k0⟩ := key 0 _ (by simp) (by omega) rfl rfl (by obtain ⟨y, hy⟩ := some_at 0 (by omega); exact ⟨y, (hi 0 _ rfl).trans hy⟩)
  obtain ⟨z1, b1, k1⟩ := key 1 _ (by simp) (by omega) rfl rfl (by obtain ⟨y, hy⟩ := some_at 1 (by omega); exact ⟨y, (hi 1 _ rfl).trans hy⟩)
  obtain ⟨z2, b2, k2⟩ := key 2 _ (by simp) (by omega) rfl rfl (by obtain ⟨y, hy⟩ := some_at 2 (by omega); exact ⟨y, (hi 2 _ rfl).trans hy⟩)
  obtain ⟨z3, b3, k3⟩ := key 3 _ (by simp) (by omega) rfl rfl (by obtain ⟨y, hy⟩ := some_at 3 (by omega); exact ⟨y, (hi 3 _ rfl).trans hy⟩)
  obtain ⟨z4, b4, k4⟩ := key 4 _ (by simp) (by omega) rfl rfl (by obtain ⟨y, hy⟩ := some_at 4 (by omega); exact ⟨y, (hi 4 _ rfl).trans hy⟩)
  refine ⟨⟨z0, z1, z2, z3, z4⟩, ⟨b0, b1, b2, b3, b4⟩, ?_⟩
  obtain ⟨a, b, c, d, e, rfl⟩ : ∃ a b c d e, cs = [a, b, c, d, e] := by
    match cs, hl with
    | [a, b, c, d, e], _ => exact ⟨a, b, c, d, e, rfl⟩
  simp at k0 k1 k2 k3 k4
  subst k0 k1 k2 k3 k4
  rfl
theorem add_plain (b o k : Nat) : (⟨b, o, none⟩ : Addr).add k = ⟨b, o + k, none⟩ := by
  by_cases e : k = 0
  · subst e; simp [Addr.add]
  · simp [Addr.add, e]
set_option maxRecDepth 100000 in
theorem open_sales {w : World} {r : Reach} {b0 : Nat} {v : Value} {d : DataW H} {p : List MemPlace}
    (hv : Value.okWide Tryz.prog w r b0 22 v) (h : DataW.Trod enc Tryz.prog w 0 (fun _ => true) true 22 v d p)
    {ts : List TypeId} {ds : List (DataW H)} (hsz : (DataW.weightsEach Tryz.prog ts ds).all (· ≤ reachBytes) = true) {j : Nat} (hj : ts[j]? = some 22) (hd : ds[j]? = some d) :
    ∃ l, LiesR saleK w v l ∧ l.length * 5 ≤ 140737488351232 := by
  obtain ⟨ao, n, c, rfl⟩ := okWide_slice Tryz.underlying22 hv
  obtain ⟨fuel, hf'⟩ := h
  rcases DataW.trod_slice Tryz.underlying22 hf' with ⟨hcs, hx⟩ | ⟨a, len, cap, elems, rest, m, _, hcs, hx, _, hl, hm, hlen, hel, _, _⟩
  · simp [Value.cells] at hcs
    obtain ⟨rfl, rfl, rfl⟩ := hcs
    exact ⟨[], LiesR.nil _ _, by simp⟩
  · simp [Value.cells] at hcs
    obtain ⟨rfl, rfl, rfl⟩ := hcs
    have hsz2 : n * 5 ≤ 140737488351232 := by
      simp only [Prod.mk.injEq] at hx
      rw [hx.1] at hd
      have := sized_slice hsz hj hd Tryz.underlying22
      rw [bytesS] at this
      simp only [List.length_map, reachBytes, hlen] at this
      omega
    have key : ∀ i, i < n → ∃ l : Sale, SaleOk l ∧ ∀ j u, (saleList l)[j]? = some u → w.cell? (a.add (i * 5 + j)) = some u := by
      intro i hi
      have h1 := hel i hi
      rw [cellsS, List.getElem?_eq_getElem (by omega), Option.bind_eq_some_iff] at h1
      obtain ⟨cs', hc1, hc2⟩ := h1
      obtain ⟨l, hok, rfl⟩ := open_sale hc2
      refine ⟨l, hok, fun j u hj => ?_⟩
      obtain ⟨_, _, h3⟩ := World.cells?_some hc1
      have hj5 : j < 5 := (List.getElem?_eq_some_iff.1 hj).1
      have := h3 j hj5
      rw [← hj, ← this]
      rw [Addr.add_add]
    have key2 : ∀ k, k ≤ n → ∃ ns : List Sale, ns.length = k ∧ (∀ x ∈ ns, SaleOk x) ∧ ∀ i q, ns[i]? = some q → ∀ j u, (saleList q)[j]? = some u → w.cell? (a.add (i * 5 + j)) = some u := by
      intro k
      induction k with
      | zero => intro _; exact ⟨[], rfl, (fun x hx => by cases hx), fun i q hi => by simp at hi⟩
      | succ k ih =>
        intro hk
        obtain ⟨ns, hl1, ho1, hc1⟩ := ih (by omega)
        obtain ⟨l, ho2, hc2⟩ := key k (by omega)
        refine ⟨ns ++ [l], by simp [hl1], ?_, ?_⟩
        · intro x hx
          rcases List.mem_append.1 hx with hx | hx
          · exact ho1 x hx
          · rw [List.mem_singleton.1 hx]; exact ho2
        · intro i q hq j u hj
          by_cases hik : i < k
          · rw [List.getElem?_append_left (by omega)] at hq
            exact hc1 i q hq j u hj
          · have hi2 : i < (ns ++ [l]).length := (List.getElem?_eq_some_iff.1 hq).1
            rw [List.length_append, List.length_singleton] at hi2
            obtain rfl : i = k := by omega
            rw [List.getElem?_append_right (by omega), hl1, Nat.sub_self] at hq
            simp at hq
            subst hq
            exact hc2 j u hj
    obtain ⟨ns, hl1, ho1, hc1⟩ := key2 n (Nat.le_refl _)
    refine ⟨ns, ⟨ho1, ?_⟩, by rw [hl1]; exact hsz2⟩
    by_cases hz : n = 0
    · have : ns = [] := List.length_eq_zero_iff.1 (by omega)
      refine .inl ⟨this, some a, c, by rw [hz]⟩
    · obtain ⟨b, off, spot⟩ := a
      have h00 := hc1 0 (ns[0]'(by omega)) (List.getElem?_eq_getElem _) 0 _ rfl
      have hspot : spot = none := by simpa [Addr.add] using World.cell?_spot h00
      subst hspot
      have hlt : b < w.heap.size := by
        rw [add_plain] at h00
        exact block_lt_of_cell h00
      refine .inr ⟨b, off, c, by rw [hl1], by rw [hl1]; exact hl, hlt, ?_⟩
      intro q u hq
      -- which element
      have hlen5 : (saleK.cells ns).length = ns.length * 5 := saleK.cells_length ho1
      have hqn : q < ns.length * 5 := by rw [← hlen5]; exact (List.getElem?_eq_some_iff.1 hq).1
      obtain ⟨i, jj, hjj, rfl⟩ : ∃ i jj, jj < 5 ∧ q = i * 5 + jj := ⟨q / 5, q % 5, by omega, by omega⟩
      have hin : i < ns.length := by omega
      have hx : ns[i]? = some (ns[i]'hin) := List.getElem?_eq_getElem _
      have hu : ∃ u', (saleList (ns[i]'hin))[jj]? = some u' := ⟨(saleList (ns[i]'hin))[jj]'(by show jj < 5; exact hjj), List.getElem?_eq_getElem _⟩
      obtain ⟨u', hu'⟩ := hu
      have e1 := saleK.cells_get ho1 hx jj u' hu'
      have e2 : (saleK.cells ns)[i * 5 + jj]? = some u' := e1
      rw [e2] at hq
      injection hq with hq
      subst hq
      have := hc1 i _ hx jj u' hu'
      rw [add_plain] at this
      exact this
end
end Go.Proofs.YtpblfpnldbdncaaGreatDoor
