/- The contract of the law's honest: receipts by numbers of which nothing is wrong. Plain: receipts that differ in their seals alone have different texts. No program in sight. Plain: honest receipts, states in which rounds are known, counts over draws. Plain: what the laws of broken chains and of clones ask of Take, Receipts and Evidence. For the walks of the laws of merges: a merge that is made, the count over draws, an append of a part of a list. -/
import Derived.Test.YtpblfpnldbdncaaGreatDoorG20
import Derived.Test.YtpblfpnldbdncaaGreatDoorG15
import Derived.Test.YtpblfpnldbdncaaGreatDoorG18
import Derived.Test.YtpblfpnldbdncaaGreatDoorG21
namespace Go.Proofs.YtpblfpnldbdncaaGreatDoor
open Go.RowKit Go.Sort Go.Maps
open Sg (Rc)
open Mg (H Sale Pos zeroH)
set_option linter.unusedVariables false
set_option maxRecDepth 100000
section
variable {α : Type} {P : Program} {ops : Array Oper} {rest : List Oper} {o : Oper} {a : Act} {w : World} {Q : Exit → Act → World → Prop}
/-- one element more, where what is there fits into memory -/
theorem wpList_append_rb (R : Rk P α) (hgd : o.guard = none) (s x : Operand) (ho : o.op = Op.call { callee := Callee.builtin Builtin.append, args := #[s, x], argTypes := #[R.sl, R.sl] })
    (base : Nat) (v : Value) (xs : List α) (y : α) (B : Nat) (hsv : a.eval s = v) (hx : a.eval x = .slice (some ⟨B, 0, none⟩) 1 1) (hown : OwnsR R w base v xs) (hy : R.ok y) (hB : w.heap[B]? = some (.cells (R.enc y).toArray R.ty (0, 0))) (hl : xs.length + 1 ≤ maxLen) (hl2 : (xs.length + 1) * R.bytes ≤ 140737488355328) (hb : base ≤ w.heap.size)
    (h : ∀ v' w', OwnsR R w' base v' (xs ++ [y]) → w.grownBy w' v.ownBlock → wpList P ops Q rest (a.put o.dst v') w') :
    wpList P ops Q (o :: rest) a w := by
  obtain ⟨i0, hi, hz0, hz1, hz2⟩ := info_parts R.info
  refine wpList_append_own (P := P) w hgd s x R.sl ho base R.ty i0 _ R.size R.bytes R.und hi hz0 hz1 hz2 R.zsize R.pos v xs.length (R.cells xs) hsv hown.2 ⟨B, 0, none⟩ 1 1 (R.enc y) hx (by rw [R.len hy, Nat.one_mul]) (World.news_of_block hB)
    (fun u hu => R.one u hu) hl hl2 hb (fun v' w' h1 h2 _ => h v' w' ⟨?_, ?_⟩ h2)
  · intro z hz
    rcases List.mem_append.1 hz with hz | hz
    · exact hown.1 z hz
    · simp only [List.mem_cons, List.not_mem_nil, or_false] at hz
      subst hz
      exact hy
  · rw [R.cells_append, List.length_append]
    have e : R.cells [y] = R.enc y := by simp [Rk.cells]
    rw [e]
    exact h1
end
def clean (x : Sale) : Sale := { x with wrong := 0 }
def cleanAll (l : List Sale) : List Sale := l.map clean
theorem cleanAll_snoc (l : List Sale) (x : Sale) : cleanAll (l ++ [x]) = cleanAll l ++ [clean x] := by simp [cleanAll]
/-- the receipts that honest kiosks print -/
def honL (l : List Sale) : List Rc := Mg.sales X0 pos0 ((cleanAll l).take 24)
theorem honL_gall (l : List Sale) : gall (cleanAll l) = honL l := by
  refine gsales_honest _ _ fun x hx => ?_
  have := List.mem_of_mem_take hx
  obtain ⟨y, _, rfl⟩ := List.mem_map.1 this
  rfl
theorem sale_info (x : Sale) : (Tryz.prog.info? 91).map (·.size) = some (saleList x).toArray.size := by kernel_rfl
theorem sale_one (x : Sale) : (saleList x).toArray.all (·.oneCell') = true := by
  rw [Array.all_eq_true_iff_forall_mem]
  exact fun u hu => saleK.one (x := x) u (List.mem_toArray.1 hu)
set_option maxHeartbeats 4000000 in
theorem honest_any {w : World} {v : Value} {l : List Sale} (hA : LiesR saleK w v l) (hreach : l.length * 5 ≤ 140737488351232) :
    Calls Tryz.prog 11 #[v] w (GivesRows rcK w (honL l)) := by
  obtain ⟨L, hL⟩ : ∃ L, l.length = L := ⟨_, rfl⟩
  obtain ⟨ao, cap, hv⟩ : ∃ ao cap, v = .slice ao L cap := by
    obtain ⟨ao, cap, h | h⟩ := hA.slice hL
    · exact ⟨ao, cap, h.1⟩
    · exact ⟨ao, cap, h.1⟩
  subst hv
  have HA := Lib.hid hA
  have HL := Lib.hid hL
  have L3 : L ≤ 28147497670246 := by omega
  clear hA hL hreach
  go_enter Tryz.func11, Tryz.ntmps11
  go_wp2_with fail
  go_loopw [3, 8] (fun v3 v8 wx => ∃ i : Nat, i ≤ L ∧ v8 = .int .i64 i ∧ OwnsR saleK wx w.heap.size v3 (cleanAll (l.take i)) ∧ (cleanAll (l.take i)).length = i ∧ Below w.heap.size w wx) (fun _ v8 _ => L - (intOf v8).toNat)
  case atStart => exact ⟨0, Nat.zero_le _, rfl, by rw [List.take_zero]; exact OwnsR.nil _ _ _, by rw [List.take_zero]; rfl, Below.refl _ _⟩
  case round =>
    obtain ⟨i, hi, rfl, ho, hlen, hb⟩ := hrel
    have HO := Lib.hid ho
    have HN := Lib.hid hlen
    have HB := Lib.hid hb
    clear ho hlen hb
    by_cases hlt : i < L
    · have d1 : decide ((i : Int) < (L : Int)) = true := decide_eq_true (by omega)
      have d2 : decide (i < L) = true := decide_eq_true hlt
      obtain ⟨x, hx⟩ : ∃ x, l[i]? = some x := ⟨l[i]'(by rw [HL.out]; exact hlt), List.getElem?_eq_getElem _⟩
      obtain ⟨g, o, cap', e, _, glt, rg, xok⟩ := HA.out.at hx
      injection e with e e2 e3
      clear e2
      subst e e3
      have HX := Lib.hid hx
      have OK : Hid (SaleOk (clean x)) := ⟨xok.kiosk, xok.draw, xok.seen, xok.stamp, by show 0 ≤ 255; omega⟩
      have RG : Hid (wr.rangeAt g (o + i * 5) (saleList x)) := fun j v hv => (HB.out.cell (p := ⟨g, o + i * 5 + j, none⟩) glt).trans (rg j v hv)
      have SI : Hid ((Tryz.prog.info? 91).map (·.size) = some (saleList x).length) := by show _ = _; kernel_rfl
      have SI2 := Lib.hid (sale_info x)
      have SO := Lib.hid (sale_one x)
      have E3 := Lib.hid (World.setRow_alloc_new wr sale0 (saleList x).toArray 91)
      have F3 := Lib.hid (heap_alloc_new wr (.cells sale0 91))
      have F4 := Lib.hid (heap_alloc_new wr (.cells (saleList x).toArray 91))
      have BZ : Hid (Below wr.heap.size wr (wr.alloc (.cells (saleList x).toArray 91))) := (Below.refl _ _).alloc (Nat.le_refl _) _
      clear hx rg xok
      go_upto_region 5 with (first
        | (refine wpList_load_mid rfl 91 (.tmp 10) rfl g (o + i * 5) rfl (saleList x) _ RG.out Tryz.underlying91 rfl SI.out ?_)
        | (refine wpList_store_row rfl 91 (.tmp 5) (.tmp 11) rfl wr.heap.size (saleList x).toArray rfl rfl 91 _ F3.out SI2.out rfl SO.out ?_; rw [E3.out]; simp only [Act.put]))
      obtain ⟨q, hq⟩ : ∃ q, wr.heap.size = q := ⟨_, rfl⟩
      have HO2 := Lib.hid (HO.out.below BZ.out)
      have HB2 := Lib.hid (HB.out.trans (BZ.out.mono HB.out.size))
      have WQ : Hid (w.heap.size ≤ q) := by rw [← hq]; exact HB.out.size
      have NQ : Hid (∀ b, u3.ownBlock = some b → b ≠ q) := fun b hb => by
        have := (HO.out.base_le b hb).2
        omega
      rw [hq] at F4 ⊢
      generalize wr.alloc (.cells (saleList x).toArray 91) = W2 at *
      clear hq E3 F3 SI SI2 SO RG BZ HO HB
      have k4 : W2.cell? ⟨q, 4, none⟩ = some (.int .u8 (x.wrong : Int)) := (cell_of_row _ _ 4 _ _ _ F4.out).trans rfl
      have f4 : W2.frozen? ⟨q, 4, none⟩ = false := frozen_of_row _ _ _ _ _ F4.out
      go_upto_region 6 with fail
      have X4 := heap_setCell_at (o := 4) F4.out (.int .u8 0)
      have e4 : (saleList x).toArray.setIfInBounds 4 (.int .u8 0) = (saleList (clean x)).toArray := rfl
      rw [e4] at X4
      have X4 := Lib.hid X4
      have HO3 : Hid (OwnsR saleK (W2.setCell ⟨q, 4, none⟩ (.int .u8 0)) w.heap.size u3 (cleanAll (l.take i))) := by
        refine HO2.out.grown (row := some q) (grownBy_setCellP W2 q 4 _) (fun b hb e => ?_)
        injection e with e
        exact NQ.out b hb e.symm
      have HB3 := Lib.hid (HB2.out.setCell (by show w.heap.size ≤ q; exact WQ.out) (.int .u8 0) (p := ⟨q, 4, none⟩))
      clear k4 f4 F4 HO2 HB2
      generalize W2.setCell ⟨q, 4, none⟩ (.int .u8 0) = W3 at *
      have SI2 := Lib.hid (sale_info (clean x))
      have bz : Below W3.heap.size W3 (W3.alloc (.cells (saleK.enc (clean x)).toArray saleK.ty)) := (Below.refl _ _).alloc (Nat.le_refl _) _
      have OZ := Lib.hid (HO3.out.below bz)
      have BZ := Lib.hid (HB3.out.trans (bz.mono HB3.out.size))
      have NZ := Lib.hid (heap_alloc_new W3 (.cells (saleK.enc (clean x)).toArray saleK.ty))
      have LZ : Hid ((cleanAll (l.take i)).length + 1 ≤ maxLen) := by show _ ≤ _; rw [HN.out]; unfold maxLen; omega
      have LY : Hid (((cleanAll (l.take i)).length + 1) * saleK.bytes ≤ 140737488355328) := by show _ ≤ _; rw [HN.out]; show (i + 1) * 5 ≤ _; omega
      have KS : Hid (cleanAll (l.take (i + 1)) = cleanAll (l.take i) ++ [clean x]) := by show _ = _; rw [take_succ_get HX.out, cleanAll_snoc]
      clear bz
      go_wp2_with (first
        | (refine wpList_load_row rfl 91 (.tmp 5) rfl q rfl 91 (saleList (clean x)).toArray (0, 0) _ X4.out Tryz.underlying91 rfl SI2.out ?_)
        | (refine wpList_build_r saleK rfl (.tmp 14) rfl OK.out (.agg (saleList (clean x)).toArray) rfl rfl ?_)
        | (at_builtin; refine wpList_append_rb saleK rfl (.tmp 13) (.tmp 15) rfl w.heap.size u3 (cleanAll (l.take i)) (clean x) W3.heap.size rfl rfl OZ.out OK.out NZ.out LZ.out LY.out BZ.out.size ?_; intro v5' w8 hown8 hg8))
      refine ⟨⟨i + 1, hlt, rfl, by rw [KS.out]; exact hown8, by rw [KS.out, List.length_append, HN.out]; rfl, BZ.out.grown hg8 BZ.out.size (fun b e => (OZ.out.base_le b e).1)⟩, by simp [intOf]; omega⟩
    · have ei : i = L := by omega
      have d1 : decide ((i : Int) < (L : Int)) = false := decide_eq_false (by omega)
      have d2 : decide (i < L) = false := decide_eq_false hlt
      have ET := Lib.hid (show l.take i = l by rw [ei, ← HL.out]; exact List.take_length)
      have CS := Lib.hid (sales_any HO.out.lies (by rw [HN.out]; omega))
      rw [ET.out, honL_gall] at CS
      clear ei
      go_wp2_with fail
      refine CS.out.mono ?_
      rintro e w' ⟨v', rfl, h1, h2⟩
      go_wp2_with fail
      go_ret
      exact ⟨_, rfl, h1.mono HB.out.size, HB.out.trans (h2.mono HB.out.size)⟩
end Go.Proofs.YtpblfpnldbdncaaGreatDoor
namespace Go.Proofs.YtpblfpnldbdncaaGreatDoor
open Sg (Rc)
set_option linter.unusedVariables false
theorem digits_no (n : Nat) : ∀ x ∈ Lib.decDigits n, x ≠ 32 := by
  induction n using Nat.strongRecOn with
  | ind n ih =>
    intro x hx
    have key : ∀ k, k < 10 → UInt8.ofNat (48 + k) ≠ 32 := by decide
    by_cases h : n < 10
    · rw [digits_small h, List.mem_singleton] at hx
      rw [hx]
      exact key n h
    · rw [digits_big h, List.mem_append, List.mem_singleton] at hx
      rcases hx with hx | hx
      · exact ih (n / 10) (by omega) x hx
      · rw [hx]
        exact key _ (Nat.mod_lt _ (by omega))
theorem itoa_no (z : Int) : ∀ x ∈ Lib.itoa z, x ≠ 32 := by
  intro x hx
  unfold Lib.itoa at hx
  split at hx
  · rcases List.mem_cons.1 hx with rfl | hx
    · decide
    · exact digits_no _ x hx
  · exact digits_no _ x hx
theorem split32 : ∀ (a b x y : List UInt8), (∀ c ∈ a, c ≠ 32) → (∀ c ∈ b, c ≠ 32) → a ++ 32 :: x = b ++ 32 :: y → x = y
  | [], [], x, y, _, _, h => by injection h
  | [], c :: b, x, y, _, hb, h => by
    injection h with h1 h2
    exact absurd h1.symm (hb c (by simp))
  | c :: a, [], x, y, ha, _, h => by
    injection h with h1 h2
    exact absurd h1 (ha c (by simp))
  | c :: a, d :: b, x, y, ha, hb, h => by
    injection h with h1 h2
    exact split32 a b x y (fun z hz => ha z (by simp [hz])) (fun z hz => hb z (by simp [hz])) h2
theorem hexDigit_inj : ∀ i, i < 16 → ∀ j, j < 16 → Sg.hexDigit i = Sg.hexDigit j → i = j := by decide
theorem hex_inj : ∀ (a b : List UInt8), Sg.hex a = Sg.hex b → a = b
  | [], [], _ => rfl
  | [], c :: b, h => by simp [Sg.hex] at h
  | c :: a, [], h => by simp [Sg.hex] at h
  | c :: a, d :: b, h => by
    have e : ∀ (x : UInt8) (l : List UInt8), Sg.hex (x :: l) = Sg.hexDigit (x.toNat / 16) :: Sg.hexDigit (x.toNat % 16) :: Sg.hex l := fun x l => rfl
    rw [e, e] at h
    injection h with h1 h2
    injection h2 with h2 h3
    have hc := c.toNat_lt
    have hd := d.toNat_lt
    have e1 := hexDigit_inj _ (by omega) _ (by omega) h1
    have e2 := hexDigit_inj _ (by omega) _ (by omega) h2
    have e3 : c = d := UInt8.toNat_inj.1 (by omega)
    rw [e3, hex_inj a b h3]
theorem text_body {c d : Rc} (h : c.text = d.text) : c.body = d.body := by
  unfold Rc.text at h
  have e : ∀ (a b t : List UInt8), a ++ [46] ++ b ++ [32] ++ t = (a ++ 46 :: b) ++ 32 :: t := fun a b t => by simp
  rw [e, e] at h
  have no : ∀ (y z : Int), ∀ x ∈ Lib.itoa y ++ 46 :: Lib.itoa z, x ≠ 32 := by
    intro y z x hx
    rcases List.mem_append.1 hx with hx | hx
    · exact itoa_no y x hx
    · rcases List.mem_cons.1 hx with rfl | hx
      · decide
      · exact itoa_no z x hx
  exact split32 _ _ _ _ (no _ _) (no _ _) h
theorem body_seal {c d : Rc} (h1 : c.kiosk = d.kiosk) (h2 : c.serial = d.serial) (h3 : c.seen = d.seen) (h4 : c.output = d.output) (h5 : c.hash.length = d.hash.length) (h : c.body = d.body) : c.hash = d.hash := by
  unfold Rc.body at h
  rw [h1, h2, h3, h4] at h
  simp only [List.append_assoc] at h
  simp only [List.append_cancel_left_eq] at h
  have hl : (Sg.hex c.hash).length = (Sg.hex d.hash).length := by rw [hex_length, hex_length, h5]
  exact hex_inj _ _ (List.append_inj_left h hl)
theorem text_ne {c d : Rc} (h1 : c.kiosk = d.kiosk) (h2 : c.serial = d.serial) (h3 : c.seen = d.seen) (h4 : c.output = d.output) (h5 : c.hash.length = d.hash.length) (h6 : c.hash ≠ d.hash) : c.text ≠ d.text :=
  fun h => h6 (body_seal h1 h2 h3 h4 h5 (text_body h))
theorem flip_ne {h : List UInt8} {i : Nat} (hi : i < h.length) : flip h i ≠ h := by
  intro e
  have e1 : (flip h i)[i]? = h[i]? := by rw [e]
  unfold flip at e1
  rw [List.getElem?_set_self hi, List.getElem?_eq_getElem hi, List.getD_eq_getElem?_getD, List.getElem?_eq_getElem hi] at e1
  simp only [Option.getD_some, Option.some.injEq] at e1
  have key : ∀ x : UInt8, x ^^^ 1 ≠ x := fun x hx => by
    have h2 : x ^^^ (x ^^^ 1) = x ^^^ x := by rw [hx]
    rw [← UInt8.xor_assoc, UInt8.xor_self, UInt8.zero_xor] at h2
    exact absurd h2 (by decide)
  exact key _ e1
end Go.Proofs.YtpblfpnldbdncaaGreatDoor
namespace Go.Proofs.YtpblfpnldbdncaaGreatDoor
open Go.RowKit Go.Sort Go.Maps
open Sg (Rc)
open Mg (Mst Jd H Pap Sale Pos zeroH)
set_option linter.unusedVariables false
set_option maxRecDepth 100000
def names3 : List (List UInt8) := [may, june, [97, 32, 98]]
theorem drawName_mem (n : Nat) : drawName n ∈ names3 := by
  unfold drawName names3 may june
  split
  · simp
  · split <;> simp
structure HonRc (r : Rc) : Prop where
  kio : ∃ n < 4, r.kiosk = ((n : Nat) : Int) ∧ rver ((pubK n : Nat) : Int) r = true
  ser : 1 ≤ r.serial
  out : r.output = if r.seen = 0 then zeroH else outHash r.seen
  seen : 0 ≤ r.seen ∧ r.seen ≤ 48
  draw : r.draw ∈ names3
  sm : RcSm r
theorem gfin_hon {x : Sale} {p : Pos} (h : x.wrong % 24 = 0) : gfin x p = sgn (5000 + 3 * (x.kiosk % 4)) (gbase x p) := by
  unfold gfin
  rw [h]
  rfl
theorem hon_mem (l : List Sale) : ∀ st k, PosOk st k → k + l.length ≤ 24 → (∀ x ∈ l, x.wrong % 24 = 0) → ∀ r ∈ gsales st l, HonRc r := by
  induction l with
  | nil => intro st k _ _ _ r hr; cases hr
  | cons x l ih =>
    intro st k hp hk hw r hr
    have hx := hw x (by simp)
    rw [List.length_cons] at hk
    have e1 : gextra x (st (x.kiosk % 4)) = [] := by unfold gextra; rw [if_neg (by omega)]
    rw [gsales, e1, List.nil_append] at hr
    rcases List.mem_cons.1 hr with rfl | hr
    · obtain ⟨a1, a2⟩ := hp.ser (x.kiosk % 4)
      obtain ⟨b1, b2⟩ := hp.seen (x.kiosk % 4)
      have hx3 : x.seen % 3 ≤ 2 := by omega
      rw [gfin_hon hx]
      refine ⟨⟨x.kiosk % 4, Nat.mod_lt _ (by omega), rfl, rver_k _ _⟩, ?_, rfl, ?_, drawName_mem _, signed_sm 1152921504606845789 2305843009213691579 _ rfl rfl (gbase_sm hp (by omega))⟩
      · show 1 ≤ (st (x.kiosk % 4)).serial + 1
        omega
      · show 0 ≤ (st (x.kiosk % 4)).seen + ((x.seen % 3 : Nat) : Int) ∧ (st (x.kiosk % 4)).seen + ((x.seen % 3 : Nat) : Int) ≤ 48
        omega
    · exact ih _ _ (hp.step x) (by omega) (fun y hy => hw y (by simp [hy])) r hr
theorem honL_hon (l : List Sale) : ∀ r ∈ honL l, HonRc r := by
  rw [← honL_gall]
  refine hon_mem _ _ 0 pos0_ok (by rw [List.length_take]; omega) fun x hx => ?_
  obtain ⟨y, _, rfl⟩ := List.mem_map.1 (List.mem_of_mem_take hx)
  rfl
theorem sales_length (l : List Sale) : ∀ st, (Mg.sales X0 st l).length = l.length := by
  induction l with
  | nil => intro st; rfl
  | cons x l ih => intro st; simp only [Mg.sales, List.length_cons, ih]
theorem honL_len (l : List Sale) : (honL l).length ≤ 24 := by
  unfold honL
  rw [sales_length, List.length_take]
  omega
/-- the receipts of one kiosk -/
structure OwnL (n : Nat) (L : List Rc) : Prop where
  link : Mg.Linked rch 1 zeroH 0 L
  all : ∀ r ∈ L, r.kiosk = (n : Int) ∧ 1 ≤ r.serial ∧ rver ((pubK n : Nat) : Int) r = true
  hon : ∀ r ∈ L, HonRc r
  len : L.length ≤ 24
theorem ownL (n : Nat) (l : List Sale) : OwnL n (Mg.own n (honL l)) := by
  have hm : ∀ r ∈ Mg.own n (honL l), r ∈ honL l ∧ r.kiosk = (n : Int) := fun r hr => by
    obtain ⟨h1, h2⟩ := List.mem_filter.1 hr
    exact ⟨h1, by simpa using h2⟩
  refine ⟨Mg.sales_linked X0 n _ pos0, fun r hr => ?_, fun r hr => honL_hon l r (hm r hr).1, Nat.le_trans (List.length_filter_le _ _) (honL_len l)⟩
  obtain ⟨h1, h2⟩ := hm r hr
  have hh := honL_hon l r h1
  obtain ⟨k, hk, e, v⟩ := hh.kio
  have : k = n := by omega
  subst this
  exact ⟨h2, hh.ser, v⟩
theorem OwnL.sorted {n : Nat} {L : List Rc} (h : OwnL n L) : L.Pairwise fun a b => a.serial < b.serial := (Mg.linked_sorted rch L 1 zeroH 0 h.link).2
theorem OwnL.sole {n : Nat} {L : List Rc} (h : OwnL n L) : Mg.Sole fun x => x ∈ L := sole_list (h.sorted.imp fun hab => by omega)
/-! states in which the rounds are known -/
structure Base (st : Mst) : Prop where
  pub : st.pub = pubOf (kiosksL 3)
  outs : ∃ K : Int → Prop, st.OutsAre outHash K ∧ ∀ s, 1 ≤ s → s ≤ 48 → K s
theorem Base.fits {st : Mst} (h : Base st) {r : Rc} (ho : r.output = if r.seen = 0 then zeroH else outHash r.seen) (hs : 0 ≤ r.seen ∧ r.seen ≤ 48) : st.fits r = true := by
  obtain ⟨K, h1, h2⟩ := h.outs
  refine Mg.fits_ok h1 r ho ?_
  by_cases e : r.seen = 0
  · exact .inl e
  · exact .inr (h2 _ (by omega) hs.2)
theorem Base.hon {st : Mst} (h : Base st) {r : Rc} (hr : HonRc r) : st.fits r = true := h.fits hr.out hr.seen
theorem Base.same {st st' : Mst} (h : Base st) (h1 : st'.pub = st.pub) (h2 : st'.outs = st.outs) : Base st' := by
  obtain ⟨K, h3, h4⟩ := h.outs
  exact ⟨h1.trans h.pub, K, fun k x => by rw [h2]; exact h3 k x, h4⟩
theorem Base.few {st : Mst} (h : Base st) : Few st := few3 h.pub
theorem Base.keys {st : Mst} (h : Base st) : KeysIs (pubF st) [1, 2, 3] := keys3 h.pub
theorem Base.pk {st : Mst} (h : Base st) (k : Nat) (h1 : 1 ≤ k) (h2 : k ≤ 3) : st.pub (k : Int) = some ((pubK k : Nat) : Int) := by rw [h.pub]; exact pub3_k k h1 h2
theorem learns_snoc (f : Int → H) (k : Int) (l : List Int) : ∀ m : Mst, m.learns f (l ++ [k]) = ((m.learns f l).learn k (f k)).1 := by
  induction l with
  | nil => intro m; rfl
  | cons x l ih => intro m; exact ih _
/-- after so many rounds of learning, upwards and downwards -/
def upTo (i : Nat) : List Int := (List.range i).map fun (j : Nat) => (j : Int) + 1
def downFrom (n i : Nat) : List Int := (List.range i).map fun (j : Nat) => (n : Int) - (j : Int)
theorem upTo_succ (i : Nat) : upTo (i + 1) = upTo i ++ [(i : Int) + 1] := by unfold upTo; rw [List.range_succ, List.map_append]; rfl
theorem downFrom_succ (n i : Nat) : downFrom n (i + 1) = downFrom n i ++ [(n : Int) - (i : Int)] := by unfold downFrom; rw [List.range_succ, List.map_append]; rfl
def stUp (i : Nat) : Mst := (newSt (kiosksL 3)).learns outHash (upTo i)
def stDown (n i : Nat) : Mst → Mst := fun m => m.learns outHash (downFrom n i)
theorem stUp_succ (i : Nat) : stUp (i + 1) = ((stUp i).learn ((i : Int) + 1) (outHash ((i : Int) + 1))).1 := by unfold stUp; rw [upTo_succ, learns_snoc]
theorem stDown_succ (n i : Nat) (m : Mst) : stDown n (i + 1) m = ((stDown n i m).learn ((n : Int) - (i : Int)) (outHash ((n : Int) - (i : Int)))).1 := by unfold stDown; rw [downFrom_succ, learns_snoc]
theorem new_outs (l : List Mb) : (newSt l).OutsAre outHash fun _ => False := fun k x => ⟨fun h => (by cases h), fun h => h.1.elim⟩
theorem new_keeps (l : List Mb) : Keeps (newSt l) [] := fun k s r => ⟨fun h => (by cases h), fun h => (by cases h.1)⟩
theorem stUp_base (i : Nat) (hi : 48 ≤ i) : Base (stUp i) ∧ Keeps (stUp i) [] ∧ (stUp i).clones = fun _ => none := by
  obtain ⟨h1, h2, h3, h4⟩ := Mg.learns_ok outHash (upTo i) (newSt (kiosksL 3)) _ (new_outs _)
  refine ⟨⟨h2, _, h1, fun s a b => .inr ⟨?_, a⟩⟩, fun k s r => ?_, h4⟩
  · unfold upTo
    rw [List.mem_map]
    exact ⟨(s - 1).toNat, by rw [List.mem_range]; omega, by omega⟩
  · show ((newSt (kiosksL 3)).learns outHash (upTo i)).kept k s = some r ↔ _
    rw [h3]
    exact new_keeps _ k s r
/-! counts -/
noncomputable def cnt (st : Mst) (i : Nat) : Nat := ((List.range i).map fun j => (picks st [1, 2, 3] (soon (drawName j) 1000)).length).sum
theorem cnt_succ (st : Mst) (i : Nat) : cnt st (i + 1) = cnt st i + (picks st [1, 2, 3] (soon (drawName i) 1000)).length := by
  unfold cnt
  rw [List.range_succ, List.map_append, List.sum_append]
  rfl
theorem cnt_mono (st : Mst) {i j : Nat} (h : i ≤ j) : cnt st i ≤ cnt st j := by
  induction j with
  | zero => rw [show i = 0 by omega]; exact Nat.le_refl _
  | succ j ih =>
    by_cases e : i = j + 1
    · rw [e]; exact Nat.le_refl _
    · rw [cnt_succ]
      have := ih (by omega)
      omega
theorem soon_sum (A : List Rc) (hd : ∀ r ∈ A, r.draw ∈ names3 ∧ r.seen < 1000) : (A.filter (soon may 1000)).length + (A.filter (soon june 1000)).length + (A.filter (soon [97, 32, 98] 1000)).length = A.length := by
  induction A with
  | nil => rfl
  | cons r A ih =>
    have h1 := ih fun x hx => hd x (by simp [hx])
    obtain ⟨h2, h3⟩ := hd r (by simp)
    simp only [List.filter_cons, List.length_cons]
    have h2 : r.draw = may ∨ r.draw = june ∨ r.draw = [97, 32, 98] := by simpa [names3] using h2
    rcases h2 with h | h | h
    · have e1 : soon may 1000 r = true := by unfold soon; simp [h, h3]
      have e2 : soon june 1000 r = false := by unfold soon; simp [h, may, june]
      have e3 : soon [97, 32, 98] 1000 r = false := by unfold soon; simp [h, may]
      rw [e1, e2, e3]
      simp only [if_true, Bool.false_eq_true, if_false, List.length_cons]
      omega
    · have e1 : soon may 1000 r = false := by unfold soon; simp [h, may, june]
      have e2 : soon june 1000 r = true := by unfold soon; simp [h, h3]
      have e3 : soon [97, 32, 98] 1000 r = false := by unfold soon; simp [h, june]
      rw [e1, e2, e3]
      simp only [if_true, Bool.false_eq_true, if_false, List.length_cons]
      omega
    · have e1 : soon may 1000 r = false := by unfold soon; simp [h, may]
      have e2 : soon june 1000 r = false := by unfold soon; simp [h, june]
      have e3 : soon [97, 32, 98] 1000 r = true := by unfold soon; simp [h, h3]
      rw [e1, e2, e3]
      simp only [if_true, Bool.false_eq_true, if_false, List.length_cons]
      omega
theorem cnt_of {st : Mst} {A : List Rc} (h : ∀ test, picks st [1, 2, 3] test = A.filter test) (hd : ∀ r ∈ A, HonRc r) : cnt st 3 = A.length := by
  rw [← soon_sum A fun r hr => ⟨(hd r hr).draw, by have := (hd r hr).seen; omega⟩]
  have e : cnt st 3 = 0 + (picks st [1, 2, 3] (soon (drawName 0) 1000)).length + (picks st [1, 2, 3] (soon (drawName 1) 1000)).length + (picks st [1, 2, 3] (soon (drawName 2) 1000)).length := by
    rw [cnt_succ, cnt_succ, cnt_succ]
    rfl
  rw [e, h, h, h, show drawName 0 = may from rfl, show drawName 1 = june from rfl, show drawName 2 = [97, 32, 98] from rfl, Nat.zero_add]
/-- one kiosk alone has receipts -/
theorem picks_own {st : Mst} {L : List Rc} {n : Nat} (h : Keeps st L) (hk : ∀ r ∈ L, r.kiosk = (n : Int)) (hn : n = 1 ∨ n = 2 ∨ n = 3) (test : Rc → Bool) : picks st [1, 2, 3] test = st.pick rch test (n : Int) := by
  have z : ∀ k : Int, k ≠ (n : Int) → st.pick rch test k = [] := fun k hne => pick_none (h.own_none k fun r hr => by rw [hk r hr]; exact Ne.symm hne) test
  rcases hn with rfl | rfl | rfl
  · simp [picks, z 2 (by decide), z 3 (by decide)]
  · simp [picks, z 1 (by decide), z 3 (by decide)]
  · simp [picks, z 1 (by decide), z 2 (by decide)]
theorem evids_own {st : Mst} {L : List Rc} {n : Nat} (h : Keeps st L) (hk : ∀ r ∈ L, r.kiosk = (n : Int)) (hn : n = 1 ∨ n = 2 ∨ n = 3) (hc : ∀ k : Int, k ≠ (n : Int) → st.clones k = none) : evids st [1, 2, 3] = evid1 st (n : Int) := by
  have z : ∀ k : Int, k ≠ (n : Int) → evid1 st k = [] := fun k hne => by
    have e1 := judged_none (h.own_none k fun r hr => by rw [hk r hr]; exact Ne.symm hne)
    unfold evid1
    rw [evClone_none (hc k hne), e1]
    rfl
  rcases hn with rfl | rfl | rfl
  · simp [evids, z 2 (by decide), z 3 (by decide)]
  · simp [evids, z 1 (by decide), z 3 (by decide)]
  · simp [evids, z 1 (by decide), z 2 (by decide)]
theorem later_none {J : List Jd} {k : Int} (h : ∀ j ∈ J, j.back = false) : evLater J k = [] :=
  evLater_none (List.find?_eq_none.2 fun j hj => by rw [h j hj]; decide)
end Go.Proofs.YtpblfpnldbdncaaGreatDoor
namespace Go.Proofs.YtpblfpnldbdncaaGreatDoor
open Go.RowKit Go.Sort Go.Maps
open Sg (Rc)
open Mg (Mst Jd H Pap Sale Pos zeroH)
set_option linter.unusedVariables false
set_option maxRecDepth 100000
theorem split_get {α : Type} {L : List α} {k : Nat} {a : α} (h : L[k]? = some a) : L = L.take k ++ a :: L.drop (k + 1) := by
  obtain ⟨hk, e⟩ := List.getElem?_eq_some_iff.1 h
  conv => lhs; rw [← List.take_append_drop k L]
  rw [List.drop_eq_getElem_cons hk, e]
theorem swap_map {α β : Type} {L : List α} {k : Nat} {a b : α} (h : L[k]? = some a) (f : α → β) (e : f b = f a) : (L.take k ++ b :: L.drop (k + 1)).map f = L.map f := by
  conv => rhs; rw [split_get h]
  simp [e]
theorem swap_serial {L : List Rc} {k : Nat} {a b : Rc} (h : L[k]? = some a) (e : b.serial = a.serial) (hs : L.Pairwise fun a b => a.serial < b.serial) : (L.take k ++ b :: L.drop (k + 1)).Pairwise fun a b => a.serial < b.serial := by
  have h1 : (L.map (·.serial)).Pairwise (· < ·) := List.pairwise_map.2 hs
  rw [← swap_map h (·.serial) e] at h1
  exact List.pairwise_map.1 h1
theorem swap_seen {L : List Rc} {k : Nat} {a b : Rc} (h : L[k]? = some a) (e : b.seen = a.seen) (hs : L.Pairwise fun a b => a.seen ≤ b.seen) : (L.take k ++ b :: L.drop (k + 1)).Pairwise fun a b => a.seen ≤ b.seen := by
  have h1 : (L.map (·.seen)).Pairwise (· ≤ ·) := List.pairwise_map.2 hs
  rw [← swap_map h (·.seen) e] at h1
  exact List.pairwise_map.1 h1
theorem rest_sorted {L : List Rc} (k : Nat) (hs : L.Pairwise fun a b => a.serial < b.serial) : (L.take k ++ L.drop (k + 1)).Pairwise fun a b => a.serial < b.serial := by
  rw [← List.eraseIdx_eq_take_drop_succ]
  exact hs.sublist (List.eraseIdx_sublist _ _)
theorem rest_sub {α : Type} {L : List α} {k : Nat} {x : α} (h : x ∈ L.take k ++ L.drop (k + 1)) : x ∈ L := by
  rcases List.mem_append.1 h with h | h
  · exact List.mem_of_mem_take h
  · exact List.mem_of_mem_drop h
theorem rest_mem {α : Type} {L : List α} {k : Nat} {a : α} (h : L[k]? = some a) (x : α) : x ∈ L ↔ x ∈ L.take k ++ L.drop (k + 1) ∨ x ∈ [a] := by
  conv => lhs; rw [split_get h]
  simp only [List.mem_append, List.mem_cons, List.not_mem_nil, or_false]
  constructor
  · rintro (h | h | h) <;> simp [h]
  · rintro ((h | h) | h) <;> simp [h]
theorem swap_mem {α : Type} (L : List α) (k : Nat) (b x : α) : x ∈ L.take k ++ b :: L.drop (k + 1) ↔ x ∈ L.take k ++ L.drop (k + 1) ∨ x ∈ [b] := by
  simp only [List.mem_append, List.mem_cons, List.not_mem_nil, or_false]
  constructor
  · rintro (h | h | h) <;> simp [h]
  · rintro ((h | h) | h) <;> simp [h]
theorem noback_of {st : Mst} {k : Int} {L : List Rc} (h : Mg.Own st k L) (hs : L.Pairwise fun a b => a.seen ≤ b.seen) : ∀ j ∈ st.judged rch k, j.back = false := by
  unfold Mst.judged
  rw [Mg.own_eq h]
  refine Mg.judge_noback _ _ none 0 (fun p hp h => by cases h) ?_
  unfold Mg.paps
  exact List.pairwise_map.2 hs
/-! a chain of which one is missing, or names another before it -/
structure BrokenA (L : List Rc) (k : Nat) (a b : Rc) (st0 st1 st2 st3 : Mst) : Prop where
  t1 : st0.take rver rch 2 (L.take k ++ L.drop (k + 1)) = (st1, if k + 1 < L.length then 36 else 0)
  c1 : cnt st1 3 = k
  t2 : st1.take rver rch 2 [a] = (st2, 0)
  c2 : cnt st2 3 = L.length
  t3 : st0.take rver rch 2 ((L.take k ++ L.drop (k + 1)) ++ [b]) = (st3, 36)
  c3 : cnt st3 3 = k
  ev : evids st3 [1, 2, 3] = []
  b1 : Base st1
  b2 : Base st2
  b3 : Base st3
theorem broken_plain {L : List Rc} (hL : OwnL 2 L) {k : Nat} {a b : Rc} (ha : L[k]? = some a) (hb1 : b.kiosk = 2) (hb2 : b.serial = a.serial) (hb3 : b.seen = a.seen) (hb4 : b.prev ≠ a.prev) (hb5 : rver ((pubK 2 : Nat) : Int) b = true) {st0 : Mst} (h0 : Base st0) (hk : Keeps st0 []) (hc : st0.clones = fun _ => none) :
    ∃ st1 st2 st3, BrokenA L k a b st0 st1 st2 st3 := by
  have hall : ∀ r ∈ L, r.kiosk = 2 ∧ 1 ≤ r.serial ∧ rver ((pubK 2 : Nat) : Int) r = true := hL.all
  have hkl : k < L.length := (List.getElem?_eq_some_iff.1 ha).1
  have hp0 : st0.pub 2 = some ((pubK 2 : Nat) : Int) := h0.pk 2 (by omega) (by omega)
  have haL : a ∈ L := List.mem_of_getElem? ha
  -- the others
  obtain ⟨st1, t1, k1, p1, o1, n1⟩ := take_plain (l := L.take k ++ L.drop (k + 1)) (L' := L.take k ++ L.drop (k + 1)) hk hp0 (fun r hr => hall r (rest_sub hr)) (hL.sole.sub fun x hx => by
    rcases hx with hx | hx
    · cases hx
    · exact rest_sub hx) (fun x => by simp)
  have w1 : Mg.Own st1 2 (L.take k ++ L.drop (k + 1)) := k1.own 2 (rest_sorted k hL.sorted) fun r hr => (hall r (rest_sub hr)).1
  have B1 := h0.same p1 o1
  have hfit : ∀ {st : Mst}, Base st → ∀ r ∈ L, st.fits r = true := fun hb r hr => hb.hon (hL.hon r hr)
  have hx1 : (st1.judged rch 2).any (fun j => !j.sound) = decide (k + 1 < L.length) ∧ ∀ test, st1.pick rch test 2 = (L.take k).filter test := by
    by_cases hlt : k + 1 < L.length
    · obtain ⟨T, j1, j2, j3⟩ := Mg.judged_missing hL.link hlt w1
      exact ⟨by rw [Mg.cut_unsound j1 j3 j2, decide_eq_true hlt], fun test => Mg.pick_cut j1 j3 (fun r hr => hfit B1 r (List.mem_of_mem_take hr)) test⟩
    · rw [List.drop_of_length_le (by omega), List.append_nil] at w1
      have hl := Mg.linked_take rch L k 1 zeroH 0 hL.link
      exact ⟨by rw [Mg.chain_sound w1 hl, decide_eq_false hlt], fun test => Mg.pick_chain w1 hl (fun r hr => hfit B1 r (List.mem_of_mem_take hr)) test⟩
  have e1 : (if (st1.judged rch 2).any (fun j => !j.sound) then (36 : Int) else 0) = if k + 1 < L.length then 36 else 0 := by
    rw [hx1.1]
    by_cases hlt : k + 1 < L.length
    · rw [decide_eq_true hlt, if_pos rfl, if_pos hlt]
    · rw [decide_eq_false hlt, if_neg (by decide), if_neg hlt]
  rw [e1] at t1
  have hkr : ∀ r ∈ L.take k ++ L.drop (k + 1), r.kiosk = ((2 : Nat) : Int) := fun r hr => (hall r (rest_sub hr)).1
  have c1 : cnt st1 3 = k := by
    rw [cnt_of (A := L.take k) (fun test => (picks_own k1 hkr (.inr (.inl rfl)) test).trans (hx1.2 test)) fun r hr => hL.hon r (List.mem_of_mem_take hr), List.length_take]
    omega
  -- the missing one
  obtain ⟨st2, t2, k2, p2, o2, n2⟩ := take_plain (l := [a]) (L' := L) k1 (by rw [p1]; exact hp0) (fun r hr => hall r (by
    have : r = a := by simpa using hr
    rw [this]; exact haL)) (hL.sole.sub fun x hx => (rest_mem ha x).2 hx) (rest_mem ha)
  have w2 : Mg.Own st2 2 L := k2.own 2 hL.sorted fun r hr => (hall r hr).1
  have B2 := B1.same p2 o2
  rw [Mg.chain_sound w2 hL.link, if_neg (by decide)] at t2
  have c2 : cnt st2 3 = L.length := cnt_of (fun test => (picks_own k2 (fun r hr => (hall r hr).1) (.inr (.inl rfl)) test).trans (Mg.pick_chain w2 hL.link (hfit B2) test)) hL.hon
  -- another in its place
  have hall3 : ∀ r ∈ L.take k ++ b :: L.drop (k + 1), r.kiosk = 2 ∧ 1 ≤ r.serial ∧ rver ((pubK 2 : Nat) : Int) r = true := fun r hr => by
    rcases (swap_mem L k b r).1 hr with h | h
    · exact hall r (rest_sub h)
    · have : r = b := by simpa using h
      subst this
      exact ⟨hb1, by rw [hb2]; exact (hall a haL).2.1, hb5⟩
  have s3 := swap_serial ha hb2 hL.sorted
  obtain ⟨st3, t3, k3, p3, o3, n3⟩ := take_plain (l := (L.take k ++ L.drop (k + 1)) ++ [b]) (L' := L.take k ++ b :: L.drop (k + 1)) hk hp0 (fun r hr => hall3 r ((swap_mem L k b r).2 (List.mem_append.1 hr))) ((sole_list (s3.imp fun hab => by omega)).sub fun x hx => by
    rcases hx with hx | hx
    · cases hx
    · exact (swap_mem L k b x).2 (List.mem_append.1 hx)) (fun x => by
    rw [swap_mem L k b x, List.mem_append]
    simp [or_assoc])
  have w3 : Mg.Own st3 2 (L.take k ++ b :: L.drop (k + 1)) := k3.own 2 s3 fun r hr => (hall3 r hr).1
  have B3 := h0.same p3 o3
  obtain ⟨T, j1, j2, j3⟩ := Mg.judged_wrong hL.link ha hb2 hb4 w3
  rw [Mg.cut_unsound j1 j3 j2, if_pos rfl] at t3
  have c3 : cnt st3 3 = k := by
    rw [cnt_of (A := L.take k) (fun test => (picks_own k3 (fun r hr => (hall3 r hr).1) (.inr (.inl rfl)) test).trans (Mg.pick_cut j1 j3 (fun r hr => hfit B3 r (List.mem_of_mem_take hr)) test)) fun r hr => hL.hon r (List.mem_of_mem_take hr), List.length_take]
    omega
  have ev : evids st3 [1, 2, 3] = [] := by
    rw [evids_own k3 (n := 2) (fun r hr => (hall3 r hr).1) (.inr (.inl rfl)) (fun k _ => by rw [n3, hc])]
    unfold evid1
    rw [evClone_none (by rw [n3, hc]), later_none (noback_of (k := ((2 : Nat) : Int)) w3 (swap_seen ha hb3 (Mg.linked_seen rch L 1 zeroH 0 hL.link).2))]
    rfl
  exact ⟨st1, st2, st3, t1, c1, t2, c2, t3, c3, ev, B1, B2, B3⟩
/-! clones -/
theorem keeps_append : ∀ (l1 l2 : List Rc) (m : Mst), m.keeps (l1 ++ l2) = (((m.keeps l1).1.keeps l2).1, (m.keeps l1).2 || ((m.keeps l1).1.keeps l2).2)
  | [], l2, m => by simp [Mst.keeps]
  | r :: l1, l2, m => by
    simp only [List.cons_append, Mst.keeps, keeps_append l1 l2]
    simp [Bool.or_assoc]
theorem pick_le (st : Mst) (test : Rc → Bool) (k : Int) : (st.pick rch test k).length ≤ (st.judged rch k).length := by
  unfold Mst.pick
  rw [List.length_map]
  exact List.length_filter_le _ _
theorem judged_len {st : Mst} {k : Int} {L : List Rc} (h : Mg.Own st k L) : (st.judged rch k).length = L.length := by
  unfold Mst.judged
  rw [Mg.own_eq h, Mg.judge_length]
  unfold Mg.paps
  rw [List.length_map]
structure ClonesA (L : List Rc) (a c : Rc) (st0 st1 st2 : Mst) : Prop where
  t1 : st0.take rver rch 1 L = (st1, 0)
  t2 : st1.take rver rch 1 [c] = (st2, 51)
  ev : evids st2 [1, 2, 3] = [evOf 7 1 a c]
  c2 : cnt st2 3 = L.length
  b1 : Base st1
  b2 : Base st2
structure ClonesB (L : List Rc) (k : Nat) (a c : Rc) (st0 st1 st2 st3 : Mst) (e f : Int) : Prop where
  t0 : st0.take rver rch 1 [c] = (st1, e)
  t1 : st1.take rver rch 1 L = (st2, 51)
  t2 : st2.take rver rch 1 [c] = (st3, f)
  ev : evids st3 [1, 2, 3] = [evOf 7 1 c a]
  ok : rch c ≠ rch a → (f = 0 ↔ k + 1 = L.length) ∧ cnt st3 3 = k + 1
  le : cnt st3 3 ≤ 72
  b1 : Base st1
  b2 : Base st2
  b3 : Base st3
theorem clonesA_plain {L : List Rc} (hL : OwnL 1 L) {k : Nat} {a c : Rc} (ha : L[k]? = some a) (hb1 : c.kiosk = 1) (hb2 : c.serial = a.serial) (hb3 : c.seen = a.seen) (hb4 : a ≠ c) (hb5 : rver ((pubK 1 : Nat) : Int) c = true) {st0 : Mst} (h0 : Base st0) (hk : Keeps st0 []) (hc : st0.clones = fun _ => none) :
    ∃ st1 st2, ClonesA L a c st0 st1 st2 := by
  have hall : ∀ r ∈ L, r.kiosk = 1 ∧ 1 ≤ r.serial ∧ rver ((pubK 1 : Nat) : Int) r = true := hL.all
  have hp0 : st0.pub 1 = some ((pubK 1 : Nat) : Int) := h0.pk 1 (by omega) (by omega)
  have haL : a ∈ L := List.mem_of_getElem? ha
  have hfit : ∀ {st : Mst}, Base st → ∀ r ∈ L, st.fits r = true := fun hb r hr => hb.hon (hL.hon r hr)
  obtain ⟨st1, t1, k1, p1, o1, n1⟩ := take_plain (l := L) (L' := L) hk hp0 hall (hL.sole.sub fun x hx => by
    rcases hx with hx | hx
    · cases hx
    · exact hx) (fun x => by simp)
  have w1 : Mg.Own st1 1 L := k1.own 1 hL.sorted fun r hr => (hall r hr).1
  have B1 := h0.same p1 o1
  rw [Mg.chain_sound w1 hL.link, if_neg (by decide)] at t1
  have hkept : st1.kept 1 a.serial = some a := (k1 1 a.serial a).2 ⟨haL, (hall a haL).1, rfl⟩
  have hc1 : st1.clones = fun _ => none := by rw [n1]; exact hc
  have hpp : st1.pub 1 = some ((pubK 1 : Nat) : Int) := by rw [p1]; exact hp0
  have ek : st1.keeps [c] = ({ st1 with clones := fun k => if k = 1 then some (a, c) else st1.clones k }, true) := by
    have : st1.keep c = ({ st1 with clones := fun k => if k = 1 then some (a, c) else st1.clones k }, false) := by
      unfold Mst.keep
      rw [hb1, hb2, hkept]
      simp only
      rw [if_neg hb4, hc1]
    simp [Mst.keeps, this]
  have hs1 : ¬ c.serial < 1 := by
    have := (hall a haL).2.1
    omega
  have t2 : st1.take rver rch 1 [c] = ({ st1 with clones := fun k => if k = 1 then some (a, c) else st1.clones k }, 51) := by
    unfold Mst.take
    rw [hpp]
    simp [hb1, hs1, hb5, ek]
  obtain ⟨st2, hst2⟩ : ∃ st2, ({ st1 with clones := fun k => if k = 1 then some (a, c) else st1.clones k } : Mst) = st2 := ⟨_, rfl⟩
  rw [hst2] at t2
  have k2 : Keeps st2 L := by rw [← hst2]; exact k1
  have B2 : Base st2 := B1.same (by rw [← hst2]) (by rw [← hst2])
  have w2 : Mg.Own st2 1 L := k2.own 1 hL.sorted fun r hr => (hall r hr).1
  have n2 : st2.clones 1 = some (a, c) ∧ ∀ k, k ≠ 1 → st2.clones k = none := by
    rw [← hst2]
    refine ⟨by simp, fun k hk => ?_⟩
    show (if k = 1 then some (a, c) else st1.clones k) = none
    rw [if_neg hk, hc1]
  have c2 : cnt st2 3 = L.length := cnt_of (fun test => (picks_own k2 (n := 1) (fun r hr => (hall r hr).1) (.inl rfl) test).trans (Mg.pick_chain w2 hL.link (hfit B2) test)) hL.hon
  have ev : evids st2 [1, 2, 3] = [evOf 7 1 a c] := by
    rw [evids_own k2 (n := 1) (fun r hr => (hall r hr).1) (.inl rfl) (fun k hk => n2.2 k hk)]
    unfold evid1
    rw [show (((1 : Nat) : Int)) = 1 from rfl, evClone_some n2.1, later_none (Mg.chain_noback w2 hL.link)]
    rfl
  exact ⟨st1, st2, t1, t2, ev, c2, B1, B2⟩
theorem clonesB_plain {L : List Rc} (hL : OwnL 1 L) {k : Nat} {a c : Rc} (ha : L[k]? = some a) (hb1 : c.kiosk = 1) (hb2 : c.serial = a.serial) (hb3 : c.seen = a.seen) (hb6 : c.prev = a.prev) (hb7 : HonRc c) (hb4 : c ≠ a) (hb5 : rver ((pubK 1 : Nat) : Int) c = true) {st0 : Mst} (h0 : Base st0) (hk : Keeps st0 []) (hc : st0.clones = fun _ => none) :
    ∃ st1 st2 st3 e f, ClonesB L k a c st0 st1 st2 st3 e f := by
  have hall : ∀ r ∈ L, r.kiosk = 1 ∧ 1 ≤ r.serial ∧ rver ((pubK 1 : Nat) : Int) r = true := hL.all
  have hkl : k < L.length := (List.getElem?_eq_some_iff.1 ha).1
  have hp0 : st0.pub 1 = some ((pubK 1 : Nat) : Int) := h0.pk 1 (by omega) (by omega)
  have haL : a ∈ L := List.mem_of_getElem? ha
  have hfit : ∀ {st : Mst}, Base st → ∀ r ∈ L, st.fits r = true := fun hb r hr => hb.hon (hL.hon r hr)
  have hcs : 1 ≤ c.serial := by rw [hb2]; exact (hall a haL).2.1
  have s3 := swap_serial ha hb2 hL.sorted
  have sole3 : Mg.Sole fun x => x ∈ L.take k ++ c :: L.drop (k + 1) := sole_list (s3.imp fun hab => by omega)
  have hall3 : ∀ r ∈ L.take k ++ c :: L.drop (k + 1), r.kiosk = 1 ∧ 1 ≤ r.serial ∧ rver ((pubK 1 : Nat) : Int) r = true := fun r hr => by
    rcases (swap_mem L k c r).1 hr with h | h
    · exact hall r (rest_sub h)
    · have : r = c := by simpa using h
      subst this
      exact ⟨hb1, hcs, hb5⟩
  have hon3 : ∀ r ∈ L.take k ++ c :: L.drop (k + 1), HonRc r := fun r hr => by
    rcases (swap_mem L k c r).1 hr with h | h
    · exact hL.hon r (rest_sub h)
    · have : r = c := by simpa using h
      subst this
      exact hb7
  -- the clone first
  obtain ⟨st1, t1, k1, p1, o1, n1⟩ := take_plain (l := [c]) (L' := [c]) hk hp0 (fun r hr => hall3 r ((swap_mem L k c r).2 (.inr hr))) (sole3.sub fun x hx => by
    rcases hx with hx | hx
    · cases hx
    · exact (swap_mem L k c x).2 (.inr hx)) (fun x => by simp)
  have B1 := h0.same p1 o1
  have hpp : st1.pub 1 = some ((pubK 1 : Nat) : Int) := by rw [p1]; exact hp0
  -- then all
  obtain ⟨g1, g2, g3, g4, g5⟩ := Mg.keeps_ok (L.take k) st1 (fun x => x ∈ [c]) k1 (sole3.sub fun x hx => by
    rcases hx with hx | hx
    · exact (swap_mem L k c x).2 (.inr hx)
    · exact (swap_mem L k c x).2 (.inl (List.mem_append_left _ hx)))
  obtain ⟨m1, hm1⟩ : ∃ m, (st1.keeps (L.take k)).1 = m := ⟨_, rfl⟩
  rw [hm1] at g1 g3 g4 g5
  have hkept : m1.kept 1 a.serial = some c := (g1 1 a.serial c).2 ⟨.inl (by simp), hb1, hb2⟩
  have hcm : m1.clones = fun _ => none := by rw [g5, n1]; exact hc
  have ek : m1.keep a = ({ m1 with clones := fun k => if k = 1 then some (c, a) else m1.clones k }, false) := by
    unfold Mst.keep
    rw [(hall a haL).1, hkept]
    simp only
    rw [if_neg hb4, hcm]
  obtain ⟨m2, hm2⟩ : ∃ m, ({ m1 with clones := fun k => if k = 1 then some (c, a) else m1.clones k } : Mst) = m := ⟨_, rfl⟩
  rw [hm2] at ek
  have q2 : m2.KeptIs fun x => x ∈ [c] ∨ x ∈ L.take k := by rw [← hm2]; exact g1
  obtain ⟨f1, f2, f3, f4, f5⟩ := Mg.keeps_ok (L.drop (k + 1)) m2 (fun x => x ∈ [c] ∨ x ∈ L.take k) q2 (sole3.sub fun x hx => by
    rcases hx with (hx | hx) | hx
    · exact (swap_mem L k c x).2 (.inr hx)
    · exact (swap_mem L k c x).2 (.inl (List.mem_append_left _ hx))
    · exact (swap_mem L k c x).2 (.inl (List.mem_append_right _ hx)))
  obtain ⟨st2, hst2⟩ : ∃ m, (m2.keeps (L.drop (k + 1))).1 = m := ⟨_, rfl⟩
  rw [hst2] at f1 f3 f4 f5
  have eK : st1.keeps L = (st2, true) := by
    conv => lhs; rw [split_get ha]
    rw [keeps_append, hm1, Mst.keeps, ek]
    simp [hst2]
  have t2 : st1.take rver rch 1 L = (st2, 51) := by
    have h1 : L.any (fun r => decide (r.kiosk ≠ 1) || decide (r.serial < 1)) = false := by
      rw [List.any_eq_false]
      intro r hr
      obtain ⟨x, y, _⟩ := hall r hr
      simp [x]
      omega
    have h2 : L.any (fun r => !rver ((pubK 1 : Nat) : Int) r) = false := by
      rw [List.any_eq_false]
      intro r hr
      simp [(hall r hr).2.2]
    unfold Mst.take
    rw [hpp]
    simp only [h1, h2, Bool.false_eq_true, if_false, eK, if_true]
  have k2 : Keeps st2 (L.take k ++ c :: L.drop (k + 1)) := Mg.KeptIs.congr f1 fun x => by
    rw [swap_mem L k c x, List.mem_append]
    constructor
    · rintro ((h | h) | h) <;> simp [h]
    · rintro ((h | h) | h)
      · exact .inl (.inr h)
      · exact .inr h
      · exact .inl (.inl h)
  have p2 : st2.pub = st1.pub := by rw [f3, ← hm2]; exact g3
  have o2 : st2.outs = st1.outs := by rw [f4, ← hm2]; exact g4
  have n2 : st2.clones 1 = some (c, a) ∧ ∀ k, k ≠ 1 → st2.clones k = none := by
    rw [f5, ← hm2]
    refine ⟨by simp, fun k hk => ?_⟩
    show (if k = 1 then some (c, a) else m1.clones k) = none
    rw [if_neg hk, hcm]
  have B2 := B1.same p2 o2
  -- the clone again
  obtain ⟨st3, t3, k3, p3, o3, n3⟩ := take_plain (l := [c]) (L' := L.take k ++ c :: L.drop (k + 1)) k2 (by rw [p2]; exact hpp) (fun r hr => hall3 r ((swap_mem L k c r).2 (.inr hr))) (sole3.sub fun x hx => by
    rcases hx with hx | hx
    · exact hx
    · exact (swap_mem L k c x).2 (.inr hx)) (fun x => by
    constructor
    · exact .inl
    · rintro (h | h)
      · exact h
      · exact (swap_mem L k c x).2 (.inr h))
  have B3 := B2.same p3 o3
  have w3 : Mg.Own st3 1 (L.take k ++ c :: L.drop (k + 1)) := k3.own 1 s3 fun r hr => (hall3 r hr).1
  have hk3 : ∀ r ∈ L.take k ++ c :: L.drop (k + 1), r.kiosk = ((1 : Nat) : Int) := fun r hr => (hall3 r hr).1
  have l3 : (L.take k ++ c :: L.drop (k + 1)).length = L.length := by
    have := congrArg List.length (swap_map (b := c) ha (fun _ => ()) rfl)
    rwa [List.length_map, List.length_map] at this
  have ev : evids st3 [1, 2, 3] = [evOf 7 1 c a] := by
    rw [evids_own k3 (n := 1) hk3 (.inl rfl) (fun k hk => by rw [n3]; exact n2.2 k hk)]
    unfold evid1
    rw [show (((1 : Nat) : Int)) = 1 from rfl, evClone_some (by rw [n3]; exact n2.1), later_none (noback_of w3 (swap_seen ha hb3 (Mg.linked_seen rch L 1 zeroH 0 hL.link).2))]
    rfl
  have hle : cnt st3 3 ≤ 72 := by
    have hp : ∀ test, (picks st3 [1, 2, 3] test).length ≤ 24 := fun test => by
      rw [picks_own k3 (n := 1) hk3 (.inl rfl) test]
      refine Nat.le_trans (pick_le st3 test _) ?_
      rw [judged_len (k := ((1 : Nat) : Int)) w3, l3]
      exact hL.len
    have h1 := hp (soon (drawName 0) 1000)
    have h2 := hp (soon (drawName 1) 1000)
    have h3 := hp (soon (drawName 2) 1000)
    rw [cnt_succ, cnt_succ, cnt_succ]
    have : cnt st3 0 = 0 := rfl
    omega
  refine ⟨st1, st2, st3, _, _, t1, t2, t3, ev, fun hne => ?_, hle, B1, B2, B3⟩
  obtain ⟨T, j1, j2, j3⟩ := Mg.judged_clone hL.link ha hb2 hb6 hb3 hne w3
  constructor
  · by_cases hlt : k + 1 < L.length
    · rw [Mg.cut_unsound j1 j3 (by omega), if_pos rfl]
      constructor
      · intro h; exact absurd h (by decide)
      · intro h; omega
    · have hT : T = [] := by
        cases T with
        | nil => rfl
        | cons x T => rw [List.length_cons] at j2; omega
      have hu : (st3.judged rch 1).any (fun j => !j.sound) = false := by
        rw [j1, hT, List.append_nil, List.any_eq_false]
        intro j hj
        obtain ⟨r, _, rfl⟩ := List.mem_map.1 hj
        simp [Mg.good]
      rw [hu, if_neg (by decide)]
      exact ⟨fun _ => by omega, fun _ => rfl⟩
  · have hA : ∀ r ∈ L.take k ++ [c], r ∈ L.take k ++ c :: L.drop (k + 1) := fun r hr => by
      rcases List.mem_append.1 hr with h | h
      · exact List.mem_append_left _ h
      · exact (swap_mem L k c r).2 (.inr h)
    rw [cnt_of (A := L.take k ++ [c]) (fun test => (picks_own k3 (n := 1) hk3 (.inl rfl) test).trans (Mg.pick_cut j1 j3 (fun r hr => B3.hon (hon3 r (hA r hr))) test)) fun r hr => hon3 r (hA r hr), List.length_append, List.length_take]
    simp
    omega
end Go.Proofs.YtpblfpnldbdncaaGreatDoor
namespace Go.Proofs.YtpblfpnldbdncaaGreatDoor
open Go.RowKit Go.Sort Go.Maps
open Sg (Rc)
open Mg (Mst Jd H Pap Sale Pos zeroH)
set_option linter.unusedVariables false
set_option maxRecDepth 100000
/-- the count over the draws -/
theorem cnt_has {p : Nat} {st : Mst} {n : Nat} {w0 w : World} (h : Has (MrgT p st n) w0 w) (hB : Base st) (hn : n ≤ 10000) (hc : cnt st 3 ≤ 1000) :
    Calls Tryz.prog 24 #[.pointer (some ⟨p, 0, none⟩)] w fun e w' => e = .returned (.int .i64 ((cnt st 3 : Nat) : Int)) ∧ Below w.heap.size w w' := by
  have HH := Lib.hid h
  have HB := Lib.hid hB
  have HC := Lib.hid hc
  have HN := Lib.hid hn
  clear h hB hc hn
  go_enter Tryz.func24, Tryz.ntmps24
  go_wp2_with fail
  go_loopw [3, 4, 5] (fun v3 v4 v5 wx => ∃ i : Nat, i ≤ 3 ∧ v5 = .int .i64 i ∧ v3 = .int .i64 ((cnt st i : Nat) : Int) ∧ Below w.heap.size w wx) (fun _ _ v5 _ => 3 - (intOf v5).toNat)
  case atStart => exact ⟨0, by omega, rfl, rfl, Below.refl _ _⟩
  case round =>
    obtain ⟨i, hi, rfl, rfl, hb⟩ := hrel
    have HW := Lib.hid hb
    clear hb
    by_cases hlt : i < 3
    · have d1 : decide ((i : Int) < 3) = true := decide_eq_true (by omega)
      have CD := Lib.hid (draw_any i wr (by omega))
      obtain ⟨c0, hc0⟩ : ∃ c, cnt st i = c := ⟨_, rfl⟩
      obtain ⟨c1, hc1⟩ : ∃ c, cnt st (i + 1) = c := ⟨_, rfl⟩
      obtain ⟨l, hl⟩ : ∃ l, (picks st [1, 2, 3] (soon (drawName i) 1000)).length = l := ⟨_, rfl⟩
      have hs := cnt_succ st i
      have hm : cnt st (i + 1) ≤ 1000 := Nat.le_trans (cnt_mono st (by omega)) HC.out
      rw [hc1] at hs hm
      rw [hc0, hl] at hs
      have c0x : c0 ≤ 1000 := by omega
      have lx : l ≤ 1000 := by omega
      have hs2 : (c0 : Int) + (l : Int) = (c1 : Int) := by omega
      have HL := Lib.hid hl
      have HC1 := Lib.hid hc1
      rw [hc0]
      clear hc0 hc1 hl hs
      go_wp2_with fail
      refine CD.out.mono ?_
      rintro e w1 ⟨rfl, b1⟩
      have HW1 := Lib.hid (HW.out.trans (b1.mono HW.out.size))
      have CR := Lib.hid (receipts_has (HH.out.below HW1.out) HN.out HB.out.few HB.out.keys (drawName i) 1000)
      obtain ⟨ds, hds⟩ : ∃ s, bstr (drawName i) = s := ⟨_, rfl⟩
      rw [hds] at CR
      rw [hds]
      clear b1 hds CD
      go_wp2_with fail
      refine CR.out.mono ?_
      rintro e w2 ⟨v, rfl, o2, b2⟩
      obtain ⟨ao, cap, hv⟩ : ∃ ao cap, v = .slice ao l cap := by
        obtain ⟨ao, cap, h | h⟩ := o2.lies.slice HL.out
        · exact ⟨ao, cap, h.1⟩
        · exact ⟨ao, cap, h.1⟩
      subst hv
      have HW2 := Lib.hid (HW1.out.trans (b2.mono HW1.out.size))
      clear o2 b2
      go_wp2_with fail
      refine ⟨⟨i + 1, hlt, rfl, ?_, HW2.out⟩, by simp [intOf]; omega⟩
      rw [HC1.out]
    · have ei : i = 3 := by omega
      have d1 : decide ((i : Int) < 3) = false := decide_eq_false (by omega)
      have EI := Lib.hid ei
      clear ei
      go_wp2_with fail
      go_ret
      exact ⟨by rw [EI.out]; rfl, HW.out⟩
theorem one_part {L : List Rc} {k : Nat} {a : Rc} (h : L[k]? = some a) : (L.take (k + 1)).drop k = [a] := by
  rw [take_succ_get h, List.drop_append_of_le_length (by rw [List.length_take]; have := (List.getElem?_eq_some_iff.1 h).1; omega), List.drop_of_length_le (by rw [List.length_take]; omega)]
  rfl
end Go.Proofs.YtpblfpnldbdncaaGreatDoor
