/- The walk of the law TreeBinds. -/
import Derived.Test.YtjedhmoehepbnaaDoorPathInside
import Derived.Test.YtjedhmoehepbnaaDoorExtendsWalk
namespace Go.Proofs.YtjedhmoehepbnaaDoor
open Go.RowKit Go.Sort
set_option linter.unusedVariables false
theorem fits_told (s : List ByteArray) (ms k : Nat) (r : Tree.H) (x : ByteArray) (a : Option Addr) (m c : Nat) (hs : List Tree.H) (w : World) (ls : s.length = ms) (hms : ms ≤ 20) (hk : k < ms) (hr : Tree.root 5 s = r) (hp : IsHs w (.slice a m c) hs) (hm : hs.length = m) (hT : Tabs w) (hsz : x.size ≤ 140737488351232) (hne : x ≠ s.getD k ByteArray.empty) :
    ∃ b, (∀ W, Below w.heap.size w W → Calls Tryd.prog 21 #[.agg (headArr (ms : Int) r), .int .i64 (k : Int), .string x, .slice a m c] W fun e w' => e = .returned (.bool b) ∧ Below W.heap.size W w') ∧
      (b = true → m = Tree.depth 5 k ms ∧ Tree.Clashes (Tree.insideL 5 s ++ Tree.pathIn 5 x k ms hs)) := by
  have lr : r.length = 32 := by rw [← hr]; exact Tree.root_length _ _
  have p5 : (2 : Nat) ^ 5 = 32 := rfl
  refine ⟨_, fun W g => fits_any ms k r x _ _ W lr (fun V g' => check_yes 5 ms k r (Tree.leaf x) x a m c hs V _ (hp.below (below_join g g')) hm (hT.below (below_join g g')) (by omega) lr rfl hk (by omega) (by omega) rfl), fun hb => ?_⟩
  unfold Tree.fits at hb
  simp only [Bool.and_eq_true, beq_iff_eq, decide_eq_true_eq] at hb
  obtain ⟨⟨_, h2⟩, h3⟩ := hb
  refine ⟨by omega, ?_⟩
  have := Tree.binds 5 s k x hs (by omega) (by omega) (by rw [ls]; exact h2) hp.1 (by rw [ls, hr]; exact h3) hne
  rw [ls] at this
  exact this
theorem inside_one_list (s : List ByteArray) : [s].flatMap (insideS 5) = (Tree.insideL 5 s).map bytesOf := by simp [insideS]
theorem lists_one {w : World} {v1 : Value} {s : List ByteArray} {p : Nat} {ty : TypeId} (hp : w.heap[p]? = some (.cells #[v1] ty (0, 0))) (h1 : IsStrs w v1 s) : ListsAt w p [s] := by
  intro i hi
  obtain rfl : i = 0 := by simpa using hi
  exact ⟨v1, (cell_of_row _ _ 0 _ _ _ hp).trans rfl, h1⟩
theorem pathIn_short (x : ByteArray) (k n : Nat) (hs : List Tree.H) (hk : k < n) (hn : n ≤ 2 ^ 5) (hd : hs.length = Tree.depth 5 k n) (he : Each hs) (hx : x.size ≤ 140737488351232) : ∀ y ∈ Tree.pathIn 5 x k n hs, y.length ≤ 140737488354000 := by
  intro y hy
  rw [Tree.pathIn_is 5 x k n hs hk hn hd] at hy
  rcases List.mem_cons.1 hy with rfl | hy
  · have : x.data.toList.length = x.size := by rw [Array.length_toList]; rfl
    rw [List.length_cons, this]; omega
  · obtain ⟨j, hj, rfl⟩ := List.mem_map.1 hy
    have hj' := List.mem_range.1 hj
    have a1 := Tree.belowV_len 5 (Tree.leaf x) k n hs (j + 1) (Tree.leaf_length x)
    have a2 := he.getD j hj'
    unfold Tree.joinV
    split <;> (rw [List.length_cons, List.length_append, a1, a2]; omega)
theorem pathIn_len (x : ByteArray) (k n : Nat) (hs : List Tree.H) (hk : k < n) (hn : n ≤ 2 ^ 5) (hd : hs.length = Tree.depth 5 k n) : (Tree.pathIn 5 x k n hs).length ≤ 100 := by
  rw [Tree.pathIn_is 5 x k n hs hk hn hd, List.length_cons, List.length_map, List.length_range]
  have := Tree.depth_le 5 k n; omega
theorem OwnsS.isW {W : World} {base : Nat} {v : Value} {ss : List ByteArray} (h : OwnsS W base v ss) (hsh : ShortW ss) : StrsW W v ss := by
  refine ⟨hsh, ?_⟩
  rcases h.2 with ⟨rfl, hn⟩ | ⟨g, cap, cur, rfl, hbg, hgg, hnc, hcm, hcs, ht⟩
  · exact .inl ⟨List.length_eq_zero_iff.1 hn, none, 0, rfl⟩
  · have hcm' : cap ≤ 9223372036854775807 := by unfold maxLen at hcm; omega
    by_cases h0 : ss.length = 0
    · exact .inl ⟨List.length_eq_zero_iff.1 h0, some ⟨g, 0, none⟩, cap, by rw [h0]⟩
    · refine .inr ⟨g, 0, cap, rfl, by omega, hnc, hcm', fun i hi => ?_⟩
      rw [Nat.zero_add, cell_of_row _ _ _ _ _ _ hgg]
      have e : (ss.map Value.string)[i]? = some (.string (ss.getD i ByteArray.empty)) := by
        rw [List.getElem?_map, List.getD_eq_getElem?_getD, List.getElem?_eq_getElem hi]; rfl
      rw [← ht, List.getElem?_take, if_pos (by omega)] at e
      simpa using e
theorem shortW_map (L : List Tree.S) (h : ∀ x ∈ L, x.length ≤ 140737488354000) : ShortW (L.map bytesOf) := by
  intro s hs
  obtain ⟨x, hx, rfl⟩ := List.mem_map.1 hs
  have := h x hx
  simpa [bytesOf, ByteArray.size] using this
set_option maxHeartbeats 8000000 in
set_option maxRecDepth 100000 in
theorem binds_at (ao : Option Addr) (na ca : Nat) (xs : List UInt8) (A : Nat) (T : ByteArray) (z0 z1 : Int) (w : World) (hx : BytesIn w ao na ca xs) (hA : A < 256) (hTz : T.size ≤ 140737488351232) (hT : Tabs w) :
    Calls Tryd.prog 4 #[.slice ao na ca, .int .u8 (A : Int), .agg #[.string T, .int .i64 z0, .int .i64 z1]] w fun e w' => e = .returned (.bool true) ∧ Below w.heap.size w w' := by
  obtain ⟨ms, ems⟩ : ∃ m, min na 20 = m := ⟨_, rfl⟩
  have hms : ms ≤ 20 := by omega
  obtain ⟨s, es⟩ : ∃ l, Tree.words xs ms = l := ⟨_, rfl⟩
  have lls : s.length = ms := by rw [← es]; exact words_length xs ms
  have SS : Hid (∀ x ∈ s, x.size ≤ 64) := by rw [← es]; exact words_size xs ms
  have shs : Short s := by rw [← es]; exact words_short xs ms
  have CSA := Lib.hid (fun (W : World) (g : Below w.heap.size w W) => rstrings_any ao na ca xs W (hx.below g))
  rw [ems, es] at CSA
  have wA : IntKind.i64.wrap (A : Int) = (A : Int) := IntWalk.i64_in _ (by omega)
  have HT := Lib.hid hT
  have LLS := Lib.hid lls
  have SHS := Lib.hid shs
  have TZ := Lib.hid hTz
  have b0 : Below w.heap.size w (w.alloc (.cells #[.string T, .int .i64 z0, .int .i64 z1] 32)) := (Below.refl _ _).alloc (Nat.le_refl _) _
  have Q0 := Lib.hid (heap_alloc_new w (.cells #[.string T, .int .i64 z0, .int .i64 z1] 32))
  have B0 := Lib.hid b0
  clear hx hT es lls ems shs b0 hTz
  go_enter Tryd.func4, Tryd.ntmps4
  go_wp2_with fail
  generalize w.alloc (.cells #[.string T, .int .i64 z0, .int .i64 z1] 32) = W0 at *
  refine (sanity12_any _ (HT.out.below B0.out)).mono ?_
  rintro e W1 ⟨rfl, hb1⟩
  have B1 := Lib.hid (below_join B0.out hb1)
  have Q1 := Lib.hid (heap_below Q0.out hb1)
  clear hb1 Q0 B0
  go_wp2_with fail
  refine (CSA.out _ B1.out).mono ?_
  rintro e W2 ⟨vs, rfl, howns, hb2⟩
  have B2 := Lib.hid (below_join B1.out hb2)
  have q2 := heap_below Q1.out hb2
  have Q2 := Lib.hid q2
  have hvs := howns.is SHS.out
  obtain ⟨ps, cs, evs, hcs⟩ := strs_sl hvs
  rw [LLS.out] at evs hcs
  subst evs
  have HVS := Lib.hid hvs
  obtain ⟨h1, eh1⟩ : ∃ h, Tree.root 5 s = h := ⟨_, rfl⟩
  have EH1 := Lib.hid eh1
  have lh1 : h1.length = 32 := by rw [← eh1]; exact Tree.root_length _ _
  have LH1 := Lib.hid lh1
  have s32 : s.length ≤ 2 ^ 5 := by rw [LLS.out]; show ms ≤ 32; omega
  have S32 := Lib.hid s32
  have CH1 := Lib.hid (fun (W : World) (g : Below W2.heap.size W2 W) => head_any 5 s ps ms cs h1 W LLS.out s32 (HVS.out.below g) eh1)
  clear hb2 Q1 B1 howns hvs hcs CSA eh1 lh1 s32
  by_cases hz : ms = 0
  · have d0 : ((ms : Int) == 0) = true := by simp; exact hz
    have CF := Lib.hid (fun W => fits_any ms A h1 T (.slice none 0 0) false W LH1.out (fun V g => check_no ms A h1 T none 0 0 V (.inr (by omega))))
    have cT : W2.cell? ⟨w.heap.size, 0, none⟩ = some (.string T) := (cell_of_row _ _ 0 _ _ _ q2).trans rfl
    have p0 : ∀ d os, (grow (redrawn W2 d) os).cell? ⟨w.heap.size, 0, none⟩ = some (.string T) := fun d os => ((below_regrown W2 d os).cell (p := ⟨w.heap.size, 0, none⟩) (block_lt_of_cell cT)).trans cT
    clear hz cT q2
    go_wp2_with fail
    refine wp_region_quiet_below (by kernel_rfl) (by kernel_rfl) ?_
    repeat (go_big_quiet_step ((first | with_reducible exact Calls.regrown_of (CH1.out _ (below_regrown _ _ _)) | with_reducible exact Calls.regrown_of (CF.out _))))
    refine wpQuiet_nil ?_
    intro _ hw'
    obtain ⟨⟨dq, osq⟩, hw''⟩ := hw'
    subst hw''
    have BQ := Lib.hid (below_join B2.out (below_regrown W2 dq osq))
    go_wp2_with fail
    go_ret
    exact ⟨rfl, BQ.out⟩
  · obtain ⟨k, ek⟩ : ∃ k, A % ms = k := ⟨_, rfl⟩
    have hk : k < ms := by rw [← ek]; exact Nat.mod_lt _ (by omega)
    have qA : Int.tmod (A : Int) (ms : Int) = (k : Int) := by rw [← ek, Int.natCast_emod]; exact Int.tmod_eq_emod_of_nonneg (by omega)
    obtain ⟨k2, ek2⟩ : ∃ k2, (k + 1) % ms = k2 := ⟨_, rfl⟩
    have hk2 : k2 < ms := by rw [← ek2]; exact Nat.mod_lt _ (by omega)
    have qB : Int.tmod ((k : Int) + 1) (ms : Int) = (k2 : Int) := by rw [← ek2, Int.natCast_emod, Int.natCast_add]; exact Int.tmod_eq_emod_of_nonneg (by omega)
    have z7 : ¬ (ms = 0) := by omega
    have zd : ((ms : Int) == 0) = false := by simp; omega
    have y1 : IntKind.i64.wrap (k : Int) = (k : Int) := IntWalk.i64_in _ (by omega)
    have y2 : IntKind.i64.wrap ((k : Int) + 1) = (k : Int) + 1 := IntWalk.i64_in _ (by omega)
    have y3 : IntKind.i64.wrap (k2 : Int) = (k2 : Int) := IntWalk.i64_in _ (by omega)
    have y6 : (0 : Int) ≤ (k : Int) := by omega
    have y7 : (k : Int) < (ms : Int) := by omega
    have y8 : (k : Int).toNat = k := by omega
    have v6 : (0 : Int) ≤ (k2 : Int) := by omega
    have v7 : (k2 : Int) < (ms : Int) := by omega
    have v8 : (k2 : Int).toNat = k2 := by omega
    clear ek ek2 q2
    have CP := Lib.hid (rpath_yes 5 s (.slice ps ms cs) k _ W2 S32.out (by omega) HVS.out (by rw [LLS.out]; exact hk) rfl)
    go_wp2_with fail
    refine CP.out.mono ?_
    rintro e W3 ⟨vp, rfl, own3, hb3⟩
    have hpl : (Tree.path 5 s k).length ≤ 1000 := by have := Tree.path_length 5 s k; omega
    generalize Tree.path 5 s k = qs at *
    obtain ⟨pa, pc, ev⟩ := hs_sl own3.is
    obtain ⟨pm, epm⟩ : ∃ x, qs.length = x := ⟨_, rfl⟩
    rw [epm] at ev hpl
    subst ev
    have EPM := Lib.hid epm
    have B3 := Lib.hid (below_join B2.out hb3)
    have q3 := heap_below Q2.out hb3
    have Q3 := Lib.hid q3
    have HPL := Lib.hid hpl
    have OWN3 := Lib.hid own3
    have S3 := Lib.hid (HVS.out.below hb3)
    have W23 := Lib.hid hb3
    have cc1 : W3.cell? ⟨w.heap.size, 1, none⟩ = some (.int .i64 z0) := (cell_of_row _ _ 1 _ _ _ q3).trans rfl
    have cc2 : W3.cell? ⟨w.heap.size, 2, none⟩ = some (.int .i64 z1) := (cell_of_row _ _ 2 _ _ _ q3).trans rfl
    clear own3 hb3 epm hpl CP q3 B2 Q2
    go_wp2_with fail
    clear cc1 cc2
    refine (bent_any (.slice pa pm pc) qs z0 z1 W2.heap.size W3 OWN3.out (by rw [EPM.out]; exact HPL.out)).mono ?_
    rintro e w2 ⟨v2, hs2, rfl, own2, hl2, hb2⟩
    obtain ⟨qa, qc, ev2⟩ := hs_sl own2.is
    obtain ⟨qm, eqm⟩ : ∃ x, hs2.length = x := ⟨_, rfl⟩
    rw [eqm] at ev2
    subst ev2
    have EQM := Lib.hid eqm
    have bz : Below w2.heap.size w2 (w2.alloc (.cells #[.slice pa pm pc, .slice qa qm qc] 38)) := (Below.refl _ _).alloc (Nat.le_refl _) _
    have hbz := below_join hb2 bz
    have B8 := Lib.hid (below_join B3.out hbz)
    have Q8 := Lib.hid (heap_below Q3.out hbz)
    have S8 := Lib.hid (S3.out.below hbz)
    have W28 := Lib.hid (below_join W23.out hbz)
    have LB := Lib.hid (heap_alloc_new w2 (.cells #[.slice pa pm pc, .slice qa qm qc] 38))
    have I1 := Lib.hid (OWN3.out.is.below hbz)
    have I2 := Lib.hid (own2.is.below bz)
    clear bz own2 hl2 eqm hb2 hbz B3 Q3 S3 OWN3 W23 HVS
    go_wp2_with fail
    generalize w2.alloc (.cells #[.slice pa pm pc, .slice qa qm qc] 38) = W8 at *
    go_loopw [55] (fun v wr => ∃ a : Nat, a ≤ 2 ∧ v = .int .i64 a ∧ Below W8.heap.size W8 wr) (fun v _ => 2 - (intOf v).toNat)
    case atStart => exact ⟨0, by omega, rfl, Below.refl _ _⟩
    case round =>
      obtain ⟨a, ha, rfl, hbw⟩ := hrel
      have HBW := Lib.hid hbw
      clear hbw
      by_cases ha2 : a < 2
      · have hda : decide ((a : Int) < 2) = true := by simp; omega
        have r1 : (0 : Int) ≤ (a : Int) := by omega
        have r2 : (a : Int) < 2 := by omega
        have r3 : (a : Int).toNat = a := by omega
        obtain ⟨ra, rm, rc, rh, hcr, hir, hlr⟩ : ∃ (ra : Option Addr) (rm rc : Nat) (rh : List Tree.H), wr.cell? ⟨w2.heap.size, a, none⟩ = some (.slice ra rm rc) ∧ IsHs wr (.slice ra rm rc) rh ∧ rh.length = rm := by
          have : a = 0 ∨ a = 1 := by omega
          have hlb := heap_below LB.out HBW.out
          rcases this with rfl | rfl
          · exact ⟨pa, pm, pc, qs, (cell_of_row _ _ 0 _ _ _ hlb).trans rfl, I1.out.below HBW.out, EPM.out⟩
          · exact ⟨qa, qm, qc, hs2, (cell_of_row _ _ 1 _ _ _ hlb).trans rfl, I2.out.below HBW.out, EQM.out⟩
        have IR := Lib.hid hir
        have HLR := Lib.hid hlr
        clear hir hlr
        obtain ⟨b1, o1, rfl, c1⟩ := strs_get (S8.out.below HBW.out) LLS.out hk
        obtain ⟨b1', o1', e1', c2⟩ := strs_get (S8.out.below HBW.out) LLS.out hk2
        injection e1' with e1'
        injection e1' with e1' e1'' _
        subst e1' e1''
        have cT : wr.cell? ⟨w.heap.size, 0, none⟩ = some (.string T) := (cell_of_row _ _ 0 _ _ _ (heap_below Q8.out HBW.out)).trans rfl
        have bd : Below wr.heap.size wr wr.drew := (Below.refl _ _).drew
        have k1 := (bd.cell (p := ⟨b1, o1 + k, none⟩) (block_lt_of_cell c1)).trans c1
        have k2' := (bd.cell (p := ⟨b1, o1 + k2, none⟩) (block_lt_of_cell c2)).trans c2
        have k3 := (bd.cell (p := ⟨w.heap.size, 0, none⟩) (block_lt_of_cell cT)).trans cT
        obtain ⟨sk, esk⟩ : ∃ x, s.getD k ByteArray.empty = x := ⟨_, rfl⟩
        obtain ⟨sn, esn⟩ : ∃ x, s.getD k2 ByteArray.empty = x := ⟨_, rfl⟩
        have zk : sk.size ≤ 140737488351232 := by rw [← esk]; exact SHS.out.getD k
        have zn : sn.size ≤ 140737488351232 := by rw [← esn]; exact SHS.out.getD k2
        rw [esk] at k1
        rw [esn] at k2'
        have ESK := Lib.hid esk
        have ZK := Lib.hid zk
        have ZN := Lib.hid zn
        clear c1 c2 cT bd esk esn zk zn
        go_wp2_with fail
        go_region
        have bw9 : Below wr.heap.size wr (wr.alloc (.cells #[.string T, .string sk, .string sn] 9)).drew := ((Below.refl _ _).alloc (Nat.le_refl _) _).drew
        have X9 : Hid ((wr.alloc (.cells #[.string T, .string sk, .string sn] 9)).drew.heap[wr.heap.size]? = some (.cells #[.string T, .string sk, .string sn] 9 (0, 0))) := heap_alloc_new wr _
        have B9 := Lib.hid (below_join HBW.out bw9)
        have IR9 := Lib.hid (IR.out.below bw9)
        clear bw9 IR k1 k2' k3 hcr HBW
        generalize (wr.alloc (.cells #[.string T, .string sk, .string sn] 9)).drew = W9 at *
        obtain ⟨gX, egX⟩ : ∃ g, wr.heap.size = g := ⟨_, rfl⟩
        rw [egX] at X9
        rw [egX]
        clear egX
        go_wp2_with fail
        go_loopw [75] (fun v wq => ∃ c2 : Nat, c2 ≤ 3 ∧ v = .int .i64 c2 ∧ Below W9.heap.size W9 wq) (fun v _ => 3 - (intOf v).toNat)
        case atStart => exact ⟨0, by omega, rfl, Below.refl _ _⟩
        case round =>
          obtain ⟨c2, hc2, rfl, hbq⟩ := hrel
          have HBQ := Lib.hid hbq
          clear hbq
          by_cases hc3 : c2 < 3
          · have hdc : decide ((c2 : Int) < 3) = true := by simp; omega
            have t1 : (0 : Int) ≤ (c2 : Int) := by omega
            have t2 : (c2 : Int) < 3 := by omega
            have t3 : (c2 : Int).toNat = c2 := by omega
            obtain ⟨x, hcx, hxz⟩ : ∃ x, wr.cell? ⟨gX, c2, none⟩ = some (.string x) ∧ x.size ≤ 140737488351232 := by
              have hlb := heap_below X9.out HBQ.out
              have : c2 = 0 ∨ c2 = 1 ∨ c2 = 2 := by omega
              rcases this with rfl | rfl | rfl
              · exact ⟨T, (cell_of_row _ _ 0 _ _ _ hlb).trans rfl, TZ.out⟩
              · exact ⟨sk, (cell_of_row _ _ 1 _ _ _ hlb).trans rfl, ZK.out⟩
              · exact ⟨sn, (cell_of_row _ _ 2 _ _ _ hlb).trans rfl, ZN.out⟩
            have csk : wr.cell? ⟨b1, o1 + k, none⟩ = some (.string sk) := by
              obtain ⟨b', o', e', c'⟩ := strs_get (S8.out.below (below_join B9.out HBQ.out)) LLS.out hk
              injection e' with e'
              injection e' with e' e'' _
              subst e' e''
              rw [ESK.out] at c'
              exact c'
            have HXZ := Lib.hid hxz
            clear hxz
            by_cases he : x = sk
            · subst he
              have eq : (x.toList == x.toList) = true := by simp
              go_wp2_with fail
              go_roundw
              case rel => exact ⟨c2 + 1, by omega, by go_num, HBQ.out⟩
              case measure => simp [intOf]; omega
            · have hq := list_neq x sk he
              obtain ⟨bf, cf, hbf⟩ := fits_told s ms k h1 x ra rm rc rh wr LLS.out hms hk EH1.out (IR9.out.below HBQ.out) HLR.out (HT.out.below (below_join B8.out (below_join B9.out HBQ.out))) HXZ.out (by rw [ESK.out]; exact he)
              have CF := Lib.hid cf
              have HBF := Lib.hid hbf
              clear cf hbf he
              go_wp2_with fail
              refine (CH1.out _ (below_join W28.out (below_join B9.out HBQ.out))).mono ?_
              rintro e W10 ⟨rfl, hb10⟩
              have HB10 := Lib.hid hb10
              clear hb10 hcx csk
              go_wp2_with fail
              refine (CF.out _ HB10.out).mono ?_
              rintro e W11 ⟨rfl, hb11⟩
              have B11r := Lib.hid (below_join HB10.out hb11)
              have B11 := Lib.hid (below_join HBQ.out B11r.out)
              clear hb11 CF HB10
              cases bf with
              | false =>
                go_wp2_with fail
                go_roundw
                case rel => exact ⟨c2 + 1, by omega, by go_num, B11.out⟩
                case measure => simp [intOf]; omega
              | true =>
                obtain ⟨hdep, hcl⟩ := HBF.out (by first | rfl | trivial)
                have bz : Below W11.heap.size W11 (W11.alloc (.cells #[.slice (some ⟨b1, o1, none⟩) ms cs] 22)) := (Below.refl _ _).alloc (Nat.le_refl _) _
                have b12 := below_join B11.out bz
                have CI := Lib.hid (Inside_any 5 [s] W11.heap.size 1 1 (W11.alloc (.cells #[.slice (some ⟨b1, o1, none⟩) ms cs] 22)) rfl (by omega) (lists_one (heap_alloc_new _ _) (S8.out.below (below_join B9.out b12))) (by
                  intro l hl
                  obtain rfl : l = s := by simpa using hl
                  exact S32.out) (by rw [inside_one_list, List.length_map]; have := Tree.insideL_length 5 s; omega))
                rw [inside_one_list] at CI
                have HDEP := Lib.hid hdep
                have HCL := Lib.hid hcl
                have B12 := Lib.hid b12
                have IR12 := Lib.hid (IR9.out.below b12)
                clear bz b12 hdep hcl HBF B11 B11r
                go_wp2_with fail
                generalize W11.alloc (.cells #[.slice (some ⟨b1, o1, none⟩) ms cs] 22) = W12 at *
                refine CI.out.mono ?_
                rintro e W13 ⟨vi, rfl, own13, hb13⟩
                have B13 := Lib.hid (below_join B12.out hb13)
                have OWN13 := Lib.hid own13
                have SZ12 := Lib.hid B12.out.size
                have SZ13 := Lib.hid hb13.size
                have IR13 := Lib.hid (IR12.out.below hb13)
                have CPI := Lib.hid (rpathin_any 5 k ms rm rc ra rh x W13 hk (by show ms ≤ 32; omega) (by omega) (by omega) IR13.out HLR.out HDEP.out (by have := HXZ.out; omega))
                clear own13 hb13 CI IR12
                go_wp2_with fail
                refine CPI.out.mono ?_
                rintro e W14 ⟨vg, rfl, ownG, hbG⟩
                have B14 := Lib.hid (below_join B13.out hbG)
                have OWN14 := Lib.hid (OWN13.out.below hbG)
                have SRC := Lib.hid ownG.srcS
                have hdl : rh.length = Tree.depth 5 k ms := HLR.out.trans HDEP.out
                have LEN : Hid (((Tree.insideL 5 s).map bytesOf).length + ((Tree.pathIn 5 x k ms rh).map bytesOf).length ≤ 100000) := by
                  show _ ≤ _
                  have a1 := Tree.insideL_length 5 s
                  have a2 := pathIn_len x k ms rh hk (by show ms ≤ 32; omega) hdl
                  have e : (2 : Nat) ^ (5 + 1) = 64 := rfl
                  rw [List.length_map, List.length_map]; omega
                have BASE : Hid (W12.heap.size ≤ W14.heap.size) := Nat.le_trans SZ13.out hbG.size
                have SHG : Hid (∀ y ∈ Tree.insideL 5 s ++ Tree.pathIn 5 x k ms rh, y.length ≤ 140737488354000) := by
                  intro y hy
                  rcases List.mem_append.1 hy with hy | hy
                  · have := Tree.insideL_short 5 s 64 (by omega) SS.out y hy; omega
                  · exact pathIn_short x k ms rh hk (by show ms ≤ 32; omega) hdl IR13.out.1 HXZ.out y hy
                clear ownG hbG CPI hdl
                go_wp2_with (first
                  | ((with_reducible refine op_is ⟨some 103, .call { callee := .builtin .append, args := #[.tmp 96, .tmp 102], argTypes := #[22, 22] }, _, _, _, _⟩ ?_); refine wpList_append_strs rfl (.tmp 96) (.tmp 102) rfl W12.heap.size _ _ _ _ rfl rfl OWN14.out SRC.out LEN.out BASE.out ?_; intro v' w' hown' hgrow))
                have B15 := Lib.hid (grown_ownS B14.out OWN14.out SZ12.out hgrow)
                have EQ : Hid ((Tree.insideL 5 s).map bytesOf ++ (Tree.pathIn 5 x k ms rh).map bytesOf = (Tree.insideL 5 s ++ Tree.pathIn 5 x k ms rh).map bytesOf) := by
                  show _ = _
                  rw [← List.map_append]
                have CC : Hid (Calls Tryd.prog 27 #[v'] w' fun e w'' => ∃ b, e = .returned (.bool b) ∧ (NoClash ((Tree.insideL 5 s ++ Tree.pathIn 5 x k ms rh).map bytesOf) ∨ b = true) ∧ Below w'.heap.size w' w'') :=
                  clash_wide _ v' w' ((EQ.out ▸ hown').isW (shortW_map _ SHG.out)) (by rw [← EQ.out, List.length_append]; exact LEN.out)
                have HNO := Lib.hid (clashes_found _ HCL.out)
                refine CC.out.mono ?_
                rintro e W16 ⟨bc, rfl, hno, hb16⟩
                have B16 := Lib.hid (below_join B15.out hb16)
                obtain rfl : bc = true := by
                  rcases hno with h | h
                  · exact absurd h HNO.out
                  · exact h
                clear hno hb16 hown' hgrow CC
                go_wp2_with fail
                go_roundw
                case rel => exact ⟨c2 + 1, by omega, by go_num, B16.out⟩
                case measure => simp [intOf]; omega
          · obtain rfl : c2 = 3 := by omega
            have BE := Lib.hid (below_join B9.out HBQ.out)
            go_wp2_with fail
            go_roundw
            case rel => exact ⟨a + 1, by omega, by go_num, BE.out⟩
            case measure => simp [intOf]; omega
      · obtain rfl : a = 2 := by omega
        have BE := Lib.hid (below_join B8.out HBW.out)
        go_wp2_with fail
        go_ret
        exact ⟨rfl, BE.out⟩
theorem walk_TreeBinds {w : World} (ao : Option Addr) (n0 c : Nat) (xs : List UInt8) (hx : BytesIn w ao n0 c xs) (x : Int) (wx : (Lit.int .u8 x).wf = true) (T : ByteArray) (z0 z1 : Int) (hTz : T.size ≤ 140737488351232) (hT : Tabs w) :
    Calls Tryd.prog 4 #[.slice ao n0 c, .int .u8 x, .agg #[.string T, .int .i64 z0, .int .i64 z1]] w fun e w' => e = .returned (.bool true) ∧ Below w.heap.size w w' := by
  have h1 : 0 ≤ x ∧ x ≤ 255 := by simpa [Lit.wf, IntKind.min, IntKind.max, IntKind.signed, IntKind.bits] using wx
  obtain ⟨A, rfl⟩ : ∃ A : Nat, x = (A : Int) := ⟨x.toNat, by omega⟩
  exact binds_at ao n0 c xs A T z0 z1 w hx (by omega) hTz hT
end Go.Proofs.YtjedhmoehepbnaaDoor
