/- The walk of the law LedgerPlays. -/
import Derived.Test.YtfligfompdcddaaGreatDoorAgainWalk
import Derived.Deep.RegionHeld3
namespace Go.Proofs.YtfligfompdcddaaGreatDoor
open Go.RowKit Go.Sort Go.Maps
set_option linter.unusedVariables false
/-- a ledger and a model of it say the same -/
theorem both_same {p m c : Nat} {L : List Pst} {w0 w : World} (h : Has ((LedT p L c).both (RefT m L)) w0 w) (hl : L.length ≤ 1000) (ht : Pow10 w) :
    Calls Tryz.prog 17 #[.pointer (some ⟨p, 0, none⟩), .pointer (some ⟨m, 0, none⟩)] w fun e w' => e = .returned (.bool true) ∧ Below w.heap.size w w' := by
  have H := Lib.hid h
  have HT := Lib.hid ht
  have HL := Lib.hid hl
  have NL := Lib.hid (show (Led.names L).length ≤ 100000 by have := Led.names_length L; omega)
  obtain ⟨eb, heb⟩ : ∃ eb, bstr (Led.enc L) = eb := ⟨_, rfl⟩
  have HE := Lib.hid heb
  clear h ht hl heb
  go_enter Tryz.func17, Tryz.ntmps17
  go_wp2_with fail
  refine (encode_on H.out.left HL.out HT.out).mono ?_
  rintro e w1 ⟨rfl, b1⟩
  have O1 := Lib.hid (H.out.below b1)
  have B1 := Lib.hid b1
  rw [HE.out]
  clear b1
  go_wp2_with fail
  refine (refEncode_on O1.out.right HL.out).mono ?_
  rintro e w2 ⟨rfl, b2⟩
  have O2 := Lib.hid (O1.out.below b2)
  have B2 := Lib.hid (below_join B1.out b2)
  rw [HE.out]
  clear b2 O1 B1
  go_wp2_with fail
  refine (list_on O2.out.left).mono ?_
  rintro e w3 ⟨v3, rfl, r3, b3⟩
  have O3 := Lib.hid (O2.out.below b3)
  have B3 := Lib.hid (below_join B2.out b3)
  have R3 := Lib.hid r3
  clear b3 r3 O2 B2
  go_wp2_with fail
  refine (refPostings_on O3.out.right).mono ?_
  rintro e w4 ⟨v4, rfl, r4, b4⟩
  have O4 := Lib.hid (O3.out.below b4)
  have B4 := Lib.hid (below_join B3.out b4)
  have CS := Lib.hid (same_any (rows_below R3.out b4) r4 (by have := HL.out; omega))
  clear b4 r4 R3 O3 B3
  go_wp2_with fail
  refine CS.out.mono ?_
  rintro e w5 ⟨rfl, b5⟩
  have O5 := Lib.hid (O4.out.below b5)
  have B5 := Lib.hid (below_join B4.out b5)
  clear b5 CS O4 B4
  go_wp2_with fail
  refine (accounts_on O5.out.left HL.out).mono ?_
  rintro e w6 ⟨v6, rfl, r6, b6⟩
  have O6 := Lib.hid (O5.out.below b6)
  have B6 := Lib.hid (below_join B5.out b6)
  have R6 := Lib.hid r6
  clear b6 r6 O5 B5
  go_wp2_with fail
  refine (refAccounts_on O6.out.right HL.out).mono ?_
  rintro e w7 ⟨v7, rfl, r7, b7⟩
  have B7 := Lib.hid (below_join B6.out b7)
  have CS := Lib.hid (strings_any (rows_below R6.out b7) r7 NL.out)
  clear b7 r7 R6 O6 B6
  go_wp2_with fail
  refine CS.out.mono ?_
  rintro e w8 ⟨rfl, b8⟩
  have B8 := Lib.hid (below_join B7.out b8)
  clear b8
  go_wp2_with fail
  go_ret
  exact ⟨rfl, B8.out⟩
theorem refPost_trip {m : Nat} {L L' : List Pst} {n : Int} (q : Pst) (hp : Led.post L q = (n, L')) (hz : q.key.size ≤ maxLen ∧ q.src.size ≤ maxLen ∧ q.dst.size ≤ maxLen) :
    Trip Tryz.prog (RefT m L) 12 #[.pointer (some ⟨m, 0, none⟩), ArrQ q] fun e T => e = .returned (.int .i64 n) ∧ T = RefT m L' := by
  intro w F h
  refine (refPost_on h q hz).mono ?_
  intro e w' h'
  rw [hp] at h'
  exact h'
/-- the walk's state: a ledger, its model, a list -/
abbrev St3 (p m c : Nat) (L L' : List Pst) (ao : Option Addr) (k cap : Nat) (ps : List Pst) : Thing := ((LedT p L c).both (RefT m L')).both (RowT 24 4 (.slice ao k cap) k (rowP ps))
theorem st3_post {p m c : Nat} {L L' L2 ps : List Pst} {ao : Option Addr} {k cap : Nat} {code : Int} {w0 w : World} (h : Has (St3 p m c L L' ao k cap ps) w0 w) (q : Pst) (hp : Led.post L q = (code, L2)) (hc : c ≤ 1000000000) (hz : q.key.size ≤ maxLen ∧ q.src.size ≤ maxLen ∧ q.dst.size ≤ maxLen) :
    Calls Tryz.prog 11 #[.pointer (some ⟨p, 0, none⟩), ArrQ q] w fun e w' => e = .returned (.int .i64 code) ∧ Has (St3 p m (c + 2) L2 L' ao k cap ps) w0 w' := by
  refine ((Trip.left (Trip.left (post_trip q hp hc hz))).call h).mono ?_
  rintro e w' ⟨_, ⟨_, ⟨_, ⟨rfl, rfl⟩, rfl⟩, rfl⟩, h2⟩
  exact ⟨rfl, h2⟩
theorem st3_ref {p m c : Nat} {L L' L2 ps : List Pst} {ao : Option Addr} {k cap : Nat} {code : Int} {w0 w : World} (h : Has (St3 p m c L L' ao k cap ps) w0 w) (q : Pst) (hp : Led.post L' q = (code, L2)) (hz : q.key.size ≤ maxLen ∧ q.src.size ≤ maxLen ∧ q.dst.size ≤ maxLen) :
    Calls Tryz.prog 12 #[.pointer (some ⟨m, 0, none⟩), ArrQ q] w fun e w' => e = .returned (.int .i64 code) ∧ Has (St3 p m c L L2 ao k cap ps) w0 w' := by
  refine ((Trip.left (Trip.right (refPost_trip q hp hz))).call h).mono ?_
  rintro e w' ⟨_, ⟨_, ⟨_, ⟨rfl, rfl⟩, rfl⟩, rfl⟩, h2⟩
  exact ⟨rfl, h2⟩
/-- a round's four cells -/
def Four (g j : Nat) (q : Pst) (w : World) : Prop := w.cell? ⟨g, j * 4, none⟩ = some (.string q.key) ∧ w.cell? ⟨g, j * 4 + 1, none⟩ = some (.string q.src) ∧ w.cell? ⟨g, j * 4 + 2, none⟩ = some (.string q.dst) ∧ w.cell? ⟨g, j * 4 + 3, none⟩ = some (.int .i64 q.amt)
theorem st3_four {P : Thing} {g k cap j : Nat} {ps : List Pst} {q : Pst} {w0 w : World} (hk : ps.length = k) (hq : ps[j]? = some q) (h : Has (P.both (RowT 24 4 (.slice (some ⟨g, 0, none⟩) k cap) k (rowP ps))) w0 w) : Four g j q w := by
  obtain ⟨ao, cap2, e1, hc⟩ := Has.psts hk h.right
  injection e1 with e1 _ e3
  subst e1
  obtain ⟨g', e2, c⟩ := hc j q hq
  injection e2 with e2
  injection e2 with e2
  subst e2
  exact ⟨(c 0 (by omega)).trans rfl, (c 1 (by omega)).trans rfl, (c 2 (by omega)).trans rfl, (c 3 (by omega)).trans rfl⟩
/-- the first 102 bytes -/
def cut102 (s : ByteArray) : ByteArray := s.extract 0 (min s.size 102)
theorem cut102_size (s : ByteArray) : (cut102 s).size ≤ 102 := by
  unfold cut102
  rw [ByteArray.size_extract]
  omega
theorem step_append_two {ops : Array Oper} {o : Oper} {a : Act} {w : World} {K : Act → World → Prop} {Q : Exit → Act → World → Prop} {E : Prop} (hgd : o.guard = none) (s x : Operand)
    (ho : o.op = Op.call { callee := Callee.builtin Builtin.append, args := #[s, x], argTypes := #[30, 30] })
    (base : Nat) (v : Value) (L : List Pst) (q : Pst) (B : Nat) (hsv : a.eval s = v) (hx : a.eval x = .slice (some ⟨B, 0, none⟩) 2 2) (hown : w.ownsRow base 24 4 v L.length (rowP L)) (hB : w.heap[B]? = some (.cells #[.string q.key, .string q.src, .string q.dst, .int .i64 q.amt, .string q.key, .string q.src, .string q.dst, .int .i64 q.amt] 24 (0, 0))) (hl : L.length ≤ 100000) (hbase : base ≤ w.heap.size)
    (h : ∀ v' w', w'.ownsRow base 24 4 v' (L ++ [q, q]).length (rowP (L ++ [q, q])) → w.grownBy w' v.ownBlock → (v'.ownBlock = v.ownBlock ∨ ∃ k, v'.ownBlock = some k ∧ w.heap.size ≤ k) → (∃ g cap, v' = .slice (some ⟨g, 0, none⟩) (L ++ [q, q]).length cap) → K (a.put o.dst v') w') :
    if Region.wanted o (yielded ops a.tmps) = true then Oper.wp Tryz.prog o a w K Q else E := by
  obtain ⟨i0, hi, hz0, hz1, hz2⟩ := info_parts (show (Tryz.prog.info? 24).map (fun i => (i.zero, i.size, i.bytes)) = some (some (.agg #[.string ⟨#[]⟩, .string ⟨#[]⟩, .string ⟨#[]⟩, .int .i64 0]), 4, 56) by kernel_rfl)
  refine step_append_lies (P := Tryz.prog) w hgd s x 30 ho base 24 i0 _ 4 56 Tryz.underlying30 hi hz0 hz1 hz2 rfl (by omega) v L.length (rowP L) hsv hown ⟨B, 0, none⟩ 2 2 (rowP [q, q]) hx rfl (World.news_of_block hB)
    (rowP_one [q, q]) (by omega) (by unfold maxLen; omega) (by omega) hbase w.heap.size rfl ?_
  intro g cap w' hown' hgrow hat hlt
  have e : rowP (L ++ [q, q]) = rowP L ++ rowP [q, q] := by simp [rowP]
  refine h _ w' ?_ hgrow (hat.elim (fun e => .inl (by rw [e]; rfl)) (fun e => .inr ⟨g, rfl, by omega⟩)) ⟨g, cap, by rw [List.length_append]; rfl⟩
  rw [e, List.length_append]
  exact hown'
theorem Has.omit {P Q R : Thing} {w0 w : World} (h : Has (P.both (Q.both R)) w0 w) : Has (P.both R) w0 w := by
  obtain ⟨F, ⟨F1, G, h1, ⟨F2, F3, h2, h3, d23, e⟩, d, eF⟩, h5, h6⟩ := h
  exact ⟨fun k => F1 k ∨ F3 k, ⟨F1, F3, h1, h3, fun k a b => d k a ((e k).2 (.inr b)), fun k => Iff.rfl⟩, fun k hk => h5 k ((eF k).2 (hk.imp id (fun b => (e k).2 (.inr b)))), h6⟩
theorem Has.spin {P Q R : Thing} {w0 w : World} (h : Has ((P.both Q).both R) w0 w) : Has (Q.both (R.both P)) w0 w := h.assoc.swap.assoc
/-- a variable in a block of its own -/
def BoxT (B : Nat) (cs : Array Value) (ty : TypeId) : Thing where
  On w F := w.heap[B]? = some (.cells cs ty (0, 0)) ∧ ∀ k, F k ↔ k = B
  lt := by
    rintro w F ⟨h1, h2⟩ k hk
    obtain rfl := (h2 k).1 hk
    exact (Array.getElem?_eq_some_iff.1 h1).1
  kept := by
    rintro w w' F G ⟨h1, h2⟩ ht hd
    exact ⟨(ht.block B (Array.getElem?_eq_some_iff.1 h1).1 (hd B ((h2 B).2 rfl))).trans h1, h2⟩
theorem Has.box {B : Nat} {cs : Array Value} {ty : TypeId} {w0 w : World} (h : Has (BoxT B cs ty) w0 w) : w.heap[B]? = some (.cells cs ty (0, 0)) := let ⟨_, h, _⟩ := h; h.1
/-- a row that has grown -/
theorem Has.grow {P : Thing} {e : TypeId} {size : Nat} {v v' : Value} {n n' : Nat} {xs xs' : List Value} {w0 w w' : World} (h : Has (P.both (RowT e size v n xs)) w0 w) (hg : w.grownBy w' v.ownBlock) (hr : w'.ownsRow 0 e size v' n' xs')
    (hv : v'.ownBlock = v.ownBlock ∨ ∃ k, v'.ownBlock = some k ∧ w.heap.size ≤ k) : Has (P.both (RowT e size v' n' xs')) w0 w' := by
  obtain ⟨F, ⟨F1, F2, h1, h2, h3, h4⟩, h5, h6⟩ := h
  have ht : Turned F2 w w' := Turned.of_grown hg (fun k hk => (h2.2 k).2 hk)
  have hs : Stp (RowT e size v' n' xs') F2 w w' := by
    refine ⟨fun k => v'.ownBlock = some k, ⟨hr, fun k => Iff.rfl⟩, ht, fun k hk => ?_⟩
    rcases hv with e | ⟨j, e, hj⟩
    · exact .inl ((h2.2 k).2 (by rw [← e]; exact hk))
    · rw [e] at hk; injection hk with hk; exact .inr (by omega)
  exact Has.stp (P := P) h5 h6 (Stp.swap (Stp.left h1 (fun k a b => h3 k b a) (fun k => (h4 k).trans Or.comm) hs))
set_option maxHeartbeats 8000000 in
set_option maxRecDepth 100000 in
theorem walk_LedgerPlays (ao : Option Addr) (n c : Nat) (ns : List Num) (q0 : Pst) (W : World) (h : ArgNums W ao n c ns) (hz0 : q0.key.size ≤ maxLen ∧ q0.src.size ≤ maxLen ∧ q0.dst.size ≤ maxLen) (hT : Pow10 W) :
    Calls Tryz.prog 3 #[.slice ao n c, .agg q0.arr] W fun e w' => e = .returned (.bool true) ∧ Below W.heap.size W w' := by
  have HA := Lib.hid h
  have HT := Lib.hid hT
  obtain ⟨k0, s0, d0, a0⟩ := q0
  simp only [Pst.arr]
  simp only [maxLen] at hz0
  obtain ⟨zk, zs, zd⟩ := hz0
  obtain ⟨ps, hps⟩ : ∃ ps, (ns.take 30).map Led.pst = ps := ⟨_, rfl⟩
  have hlen : ps.length ≤ 30 := by rw [← hps, List.length_map, List.length_take]; omega
  have hz : ∀ q ∈ ps ++ [⟨cut102 k0, cut102 s0, cut102 d0, a0⟩, ⟨cut102 k0, cut102 s0, cut102 d0, a0⟩], q.key.size ≤ maxLen ∧ q.src.size ≤ maxLen ∧ q.dst.size ≤ maxLen := by
    intro q hq
    rcases List.mem_append.1 hq with hq | hq
    · rw [← hps] at hq
      obtain ⟨a, _, rfl⟩ := List.mem_map.1 hq
      exact num_sizes a
    · have e : q = ⟨cut102 k0, cut102 s0, cut102 d0, a0⟩ := by simpa using hq
      subst e
      have h1 := cut102_size k0
      have h2 := cut102_size s0
      have h3 := cut102_size d0
      unfold maxLen
      simp only
      omega
  have HZ := Lib.hid hz
  have HPS := Lib.hid hps
  have HLEN := Lib.hid hlen
  obtain ⟨nk, ek⟩ : ∃ nk : Nat, min k0.size 102 = nk := ⟨_, rfl⟩
  obtain ⟨nS, es⟩ : ∃ nS : Nat, min s0.size 102 = nS := ⟨_, rfl⟩
  obtain ⟨nd, ed⟩ : ∃ nd : Nat, min d0.size 102 = nd := ⟨_, rfl⟩
  have mk : min (k0.size : Int) 102 = (nk : Int) := by omega
  have ms : min (s0.size : Int) 102 = (nS : Int) := by omega
  have md : min (d0.size : Int) 102 = (nd : Int) := by omega
  have lk : nk ≤ k0.size := by omega
  have ls : nS ≤ s0.size := by omega
  have ld : nd ≤ d0.size := by omega
  have lk' : (nk : Int) ≤ (k0.size : Int) := by omega
  have ls' : (nS : Int) ≤ (s0.size : Int) := by omega
  have ld' : (nd : Int) ≤ (d0.size : Int) := by omega
  have pk' : (0 : Int) ≤ (nk : Int) := by omega
  have ps' : (0 : Int) ≤ (nS : Int) := by omega
  have pd' : (0 : Int) ≤ (nd : Int) := by omega
  have EK : Hid (k0.extract 0 nk = cut102 k0) := by show _ = _; rw [← ek]; rfl
  have ES : Hid (s0.extract 0 nS = cut102 s0) := by show _ = _; rw [← es]; rfl
  have ED : Hid (d0.extract 0 nd = cut102 d0) := by show _ = _; rw [← ed]; rfl
  have hq := heap_alloc_new W (.cells #[.string k0, .string s0, .string d0, .int .i64 a0] 24)
  have HQ := Lib.hid hq
  have BA := Lib.hid ((Below.refl W.heap.size W).alloc (Nat.le_refl _) (.cells #[.string k0, .string s0, .string d0, .int .i64 a0] 24))
  clear h hz hps hlen hT ek es ed hq
  go_enter Tryz.func3, Tryz.ntmps3
  go_wp2_with fail
  generalize hWA : W.alloc (.cells #[.string k0, .string s0, .string d0, .int .i64 a0] 24) = WA at *
  obtain ⟨B, hB⟩ : ∃ B, W.heap.size = B := ⟨_, rfl⟩
  rw [hB] at HQ ⊢
  have EB := Lib.hid hB
  clear hWA hB
  refine (sanity_any WA).mono ?_
  rintro e w1 ⟨rfl, hb⟩
  have B1 := Lib.hid (below_join BA.out hb)
  have H1 := Lib.hid (heap_below HQ.out hb)
  clear hb
  have x0 : w1.cell? ⟨B, 0, none⟩ = some (.string k0) := (cell_of_row _ _ 0 _ _ _ H1.out).trans rfl
  have x1 : w1.cell? ⟨B, 1, none⟩ = some (.string s0) := (cell_of_row _ _ 1 _ _ _ H1.out).trans rfl
  have x2 : w1.cell? ⟨B, 2, none⟩ = some (.string d0) := (cell_of_row _ _ 2 _ _ _ H1.out).trans rfl
  have f0 : ∀ o, w1.frozen? ⟨B, o, none⟩ = false := fun o => by simp only [World.frozen?, H1.out]; rfl
  have f00 := f0 0
  have f01 := f0 1
  have f02 := f0 2
  clear f0
  go_wp2_with fail
  have hset := heap_setCell_same _ B 2 _ _ (.string (d0.extract 0 nd)) (heap_setCell_same _ B 1 _ _ (.string (s0.extract 0 nS)) (heap_setCell_same w1 B 0 _ _ (.string (k0.extract 0 nk)) H1.out))
  have bset : Below W.heap.size W (((w1.setCell ⟨B, 0, none⟩ (.string (k0.extract 0 nk))).setCell ⟨B, 1, none⟩ (.string (s0.extract 0 nS))).setCell ⟨B, 2, none⟩ (.string (d0.extract 0 nd))) := by
    have hBW : W.heap.size ≤ B := by rw [EB.out]; exact Nat.le_refl _
    exact ((B1.out.setCell (p := ⟨B, 0, none⟩) hBW _).setCell (p := ⟨B, 1, none⟩) hBW _).setCell (p := ⟨B, 2, none⟩) hBW _
  rw [EK.out, ES.out, ED.out] at hset bset ⊢
  obtain ⟨q, hqq⟩ : ∃ q : Pst, q = ⟨cut102 k0, cut102 s0, cut102 d0, a0⟩ := ⟨_, rfl⟩
  rw [← hqq] at HZ
  obtain ⟨kk, hkk⟩ : ∃ kk, cut102 k0 = kk := ⟨_, rfl⟩
  obtain ⟨ss, hss⟩ : ∃ ss, cut102 s0 = ss := ⟨_, rfl⟩
  obtain ⟨dd, hdd⟩ : ∃ dd, cut102 d0 = dd := ⟨_, rfl⟩
  rw [hkk, hss, hdd] at hset bset hqq ⊢
  generalize ((w1.setCell ⟨B, 0, none⟩ (.string kk)).setCell ⟨B, 1, none⟩ (.string ss)).setCell ⟨B, 2, none⟩ (.string dd) = w2 at *
  have B2 := Lib.hid bset
  have H2 : Hid (w2.heap[B]? = some (.cells #[.string kk, .string ss, .string dd, .int .i64 a0] 24 (0, 0))) := hset
  have QQ := Lib.hid hqq
  clear hset bset hqq hkk hss hdd mk ms md lk ls ld lk' ls' ld' pk' ps' pd' x0 x1 x2 f00 f01 f02 zk zs zd
  have OB : Hid (Has (BoxT B #[.string kk, .string ss, .string dd, .int .i64 a0] 24) W w2) := ⟨fun k => k = B, ⟨H2.out, fun k => Iff.rfl⟩, fun k hk => by rw [hk, EB.out]; exact Nat.le_refl _, B2.out⟩
  clear B2 H2
  refine (new_trip W w2 _ OB.out).mono ?_
  rintro e w3 ⟨p, rfl, h3⟩
  have O3 := Lib.hid h3
  clear h3 OB
  go_wp2_with fail
  refine (refNew_any w3).mono ?_
  rintro e w4 ⟨m, rfl, h4⟩
  have O4 := Lib.hid (O3.out.fresh h4).spin.assoc'
  have A4 := Lib.hid (nums_below HA.out O4.out.base)
  clear h4 O3
  obtain ⟨K, hK⟩ : ∃ K, (ps ++ [q, q]).length = K := ⟨_, rfl⟩
  have HK := Lib.hid hK
  have kb : K ≤ 32 := by have := HLEN.out; rw [← hK, List.length_append]; simp; omega
  clear hK
  go_wp2_with fail
  have CP : Hid (∀ V : World, Below w4.heap.size w4 V → Calls Tryz.prog 10 #[.slice ao n c, .int .i64 30] V fun e w' => ∃ v, e = .returned v ∧ w'.ownsRow V.heap.size 24 4 v ps.length (rowP ps) ∧ Below V.heap.size V w') := fun V hb => by
    have h := postings_any (nums_below A4.out hb) 30 (by omega)
    rw [HPS.out] at h
    exact h
  have KB : Hid (∀ (P : Thing) (V : World), Has (P.both (BoxT B #[.string kk, .string ss, .string dd, .int .i64 a0] 24)) W V → V.cell? ⟨B, 0, none⟩ = some (.string kk) ∧ V.cell? ⟨B, 1, none⟩ = some (.string ss) ∧ V.cell? ⟨B, 2, none⟩ = some (.string dd) ∧ V.cell? ⟨B, 3, none⟩ = some (.int .i64 a0)) := fun P V h =>
    ⟨(cell_of_row _ _ 0 _ _ _ (Has.box h.right)).trans rfl, (cell_of_row _ _ 1 _ _ _ (Has.box h.right)).trans rfl, (cell_of_row _ _ 2 _ _ _ (Has.box h.right)).trans rfl, (cell_of_row _ _ 3 _ _ _ (Has.box h.right)).trans rfl⟩
  obtain ⟨y0, y1, y2, y3⟩ := KB.out _ _ O4.out
  go_upto_region 9 with fail
  go_cut [8] (fun v8 wx => ∃ ao8 cap8, v8 = .slice ao8 K cap8 ∧ Has (St3 p m 0 [] [] ao8 K cap8 (ps ++ [q, q])) W wx)
  case first =>
    have BAL : Hid (Below w4.heap.size w4 (w4.alloc (.cells #[.string kk, .string ss, .string dd, .int .i64 a0, .string kk, .string ss, .string dd, .int .i64 a0] 24)).drew) := ((Below.refl _ _).alloc (Nat.le_refl _) _).drew
    have NBA : Hid ((w4.alloc (.cells #[.string kk, .string ss, .string dd, .int .i64 a0, .string kk, .string ss, .string dd, .int .i64 a0] 24)).drew.heap[w4.heap.size]? = some (.cells #[.string kk, .string ss, .string dd, .int .i64 a0, .string kk, .string ss, .string dd, .int .i64 a0] 24 (0, 0))) := heap_alloc_new w4 _
    have OA4 := Lib.hid (O4.out.below BAL.out)
    have AFT7 : Hid (∀ (w7 : World) (v7 : Value), w7.ownsRow (w4.alloc (.cells #[.string kk, .string ss, .string dd, .int .i64 a0, .string kk, .string ss, .string dd, .int .i64 a0] 24)).drew.heap.size 24 4 v7 ps.length (rowP ps) → Below (w4.alloc (.cells #[.string kk, .string ss, .string dd, .int .i64 a0, .string kk, .string ss, .string dd, .int .i64 a0] 24)).drew.heap.size (w4.alloc (.cells #[.string kk, .string ss, .string dd, .int .i64 a0, .string kk, .string ss, .string dd, .int .i64 a0] 24)).drew w7 → Hid (Has ((((LedT p [] 0).both (RefT m [])).both (BoxT B #[.string kk, .string ss, .string dd, .int .i64 a0] 24)).both (RowT 24 4 v7 ps.length (rowP ps))) W w7) ∧ Hid (w7.heap[w4.heap.size]? = some (.cells #[.string kk, .string ss, .string dd, .int .i64 a0, .string kk, .string ss, .string dd, .int .i64 a0] 24 (0, 0)))) := fun w7 v7 r7 b7 => ⟨Lib.hid (OA4.out.row b7 r7), Lib.hid (heap_below NBA.out b7)⟩
    have LP : Hid (ps.length ≤ 100000) := by show _ ≤ _; have := HLEN.out; omega
    go_wp2_with fail
    go_region_held3 (fun w' => w'.cell? ⟨B, 0, none⟩ = some (.string kk) ∧ w'.cell? ⟨B, 1, none⟩ = some (.string ss) ∧ w'.cell? ⟨B, 2, none⟩ = some (.string dd) ∧ w'.cell? ⟨B, 3, none⟩ = some (.int .i64 a0)) (go_keep)
      (first
        | (refine step_append_two (by rfl) (.tmp 40) (.tmp 43) (by rfl) 0 v5 ps ⟨kk, ss, dd, a0⟩ w5.heap.size (by rfl) (by rfl) (Has.rowOf (O5.out.below ((Below.refl _ _).alloc (Nat.le_refl _) _)).right) (heap_alloc_new w5 _) LP.out (Nat.zero_le _) ?_; intro v6 w6 r6 g6 hv6 hf6; have O6 := Lib.hid ((O5.out.below ((Below.refl _ _).alloc (Nat.le_refl _) _)).grow g6 r6 hv6); obtain ⟨g8, cap8, rfl⟩ := hf6; obtain ⟨a0', a1', a2', a3'⟩ := KB.out _ _ O6.out.left; clear r6 g6 hv6)
        | (refine step_append_two (by rfl) (.tmp 40) (.tmp 43) (by rfl) 0 v7 ps ⟨kk, ss, dd, a0⟩ w4.heap.size (by rfl) (by rfl) (Has.rowOf O7.out.right) NB7.out LP.out (Nat.zero_le _) ?_; intro v6 w6 r6 g6 hv6 hf6; have O6 := Lib.hid (O7.out.grow g6 r6 hv6); obtain ⟨g8, cap8, rfl⟩ := hf6; obtain ⟨a0', a1', a2', a3'⟩ := KB.out _ _ O6.out.left; clear r6 g6 hv6)
        | ((with_reducible refine (CP.out _ ((Below.refl _ _).drew)).mono ?_); (rintro e w5 ⟨v5, rfl, r5, b5⟩); have O5 := Lib.hid ((O4.out.below ((Below.refl _ _).drew)).row b5 r5); (obtain ⟨z0, z1, z2, z3⟩ := KB.out _ _ O5.out.left); clear r5 b5)
        | ((with_reducible refine (CP.out _ BAL.out).mono ?_); (rintro e w7 ⟨v7, rfl, r7, b7⟩); (obtain ⟨O7, NB7⟩ := AFT7.out _ _ r7 b7); (obtain ⟨z0, z1, z2, z3⟩ := KB.out _ _ O7.out.left); clear r7 b7))
    all_goals
      have D : Hid (Has (St3 p m 0 [] [] (some ⟨g8, 0, none⟩) K cap8 (ps ++ [q, q])) W w6) := by
        have h := O6.out.assoc.omit
        rw [← QQ.out, HK.out] at h
        exact h
      rw [show (ps ++ [(⟨kk, ss, dd, a0⟩ : Pst), ⟨kk, ss, dd, a0⟩]).length = K by rw [← QQ.out]; exact HK.out]
      have e2 : Hid (ps.length + 2 = K) := by show _ = _; rw [← HK.out]; simp
      clear O6
      go_wp2_with fail
      go_meet
      exact ⟨_, _, by rw [e2.out], D.out⟩
  case rest =>
    obtain ⟨ao8, cap8, rfl, hO⟩ := hcut
    have O8 := Lib.hid hO
    obtain ⟨PS, hPS⟩ : ∃ PS, ps ++ [q, q] = PS := ⟨_, rfl⟩
    have HZ' : Hid (∀ x ∈ PS, x.key.size ≤ maxLen ∧ x.src.size ≤ maxLen ∧ x.dst.size ≤ maxLen) := by rw [← hPS]; exact HZ
    rw [hPS] at HK O8
    clear hO hPS KB CP O4 A4 y0 y1 y2 y3 QQ HZ HPS HLEN
    go_wp2_with fail
    go_loopw [9] (fun i wr => ∃ (j : Nat) (L : List Pst), j ≤ K ∧ i = .int .i64 j ∧ L.length ≤ j ∧ Has (St3 p m (2 * j) L L ao8 K cap8 PS) W wr) (fun i _ => K - (intOf i).toNat)
    case atStart => exact ⟨0, [], Nat.zero_le _, rfl, Nat.le_refl _, O8.out⟩
    case round =>
      obtain ⟨j, L, hj, rfl, hL, hO⟩ := hrel
      have HO := Lib.hid hO
      clear hO
      by_cases hlt : j < K
      · obtain ⟨x, hx⟩ : ∃ x, PS[j]? = some x := ⟨PS[j]'(by rw [HK.out]; exact hlt), List.getElem?_eq_getElem _⟩
        obtain ⟨hxk, hxs, hxd⟩ := HZ'.out x (List.mem_of_getElem? hx)
        obtain ⟨ao9, cap9, e1, hcq⟩ := Has.psts HK.out HO.out.right
        injection e1 with e1 _ e3
        subst e1 e3
        obtain ⟨g, rfl, _⟩ := hcq j x hx
        have hpl := Led.post_snd L x
        obtain ⟨code, L2, hpq⟩ : ∃ code L2, Led.post L x = (code, L2) := ⟨_, _, rfl⟩
        have hlen2 : L2.length ≤ j + 1 := by
          rw [hpq] at hpl
          rcases hpl with h | h <;> (simp only at h; subst h)
          · omega
          · rw [List.length_append, List.length_singleton]; omega
        obtain ⟨N1, hN1⟩ : ∃ N, Led.bal L2 x.src = N := ⟨_, rfl⟩
        obtain ⟨N2, hN2⟩ : ∃ N, Led.bal L2 x.dst = N := ⟨_, rfl⟩
        obtain ⟨fb, hfb⟩ : ∃ b, (Led.find L2 x.key).isSome = b := ⟨_, rfl⟩
        have C1 := Lib.hid (fun (V : World) (hb : Below wr.heap.size wr V) => st3_post (HO.out.below hb) x hpq (by omega) ⟨hxk, hxs, hxd⟩)
        have C2 := Lib.hid (fun (V : World) (h : Has (St3 p m (2 * j + 2) L2 L (some ⟨g, 0, none⟩) K cap8 PS) W V) => st3_ref h x hpq ⟨hxk, hxs, hxd⟩)
        have C3 := Lib.hid (fun (V : World) (h : Has (St3 p m (2 * j + 2) L2 L2 (some ⟨g, 0, none⟩) K cap8 PS) W V) => balance_on h.left.left x.src N1 hN1 hxs)
        have C4 := Lib.hid (fun (V : World) (h : Has (St3 p m (2 * j + 2) L2 L2 (some ⟨g, 0, none⟩) K cap8 PS) W V) => refBalance_on h.left.right x.src N1 hN1)
        have C5 := Lib.hid (fun (V : World) (h : Has (St3 p m (2 * j + 2) L2 L2 (some ⟨g, 0, none⟩) K cap8 PS) W V) => balance_on h.left.left x.dst N2 hN2 hxd)
        have C6 := Lib.hid (fun (V : World) (h : Has (St3 p m (2 * j + 2) L2 L2 (some ⟨g, 0, none⟩) K cap8 PS) W V) => refBalance_on h.left.right x.dst N2 hN2)
        have C7 := Lib.hid (fun (V : World) (h : Has (St3 p m (2 * j + 2) L2 L2 (some ⟨g, 0, none⟩) K cap8 PS) W V) => paid_on h.left.left x.key fb hfb hxk)
        have C8 := Lib.hid (fun (V : World) (h : Has (St3 p m (2 * j + 2) L2 L2 (some ⟨g, 0, none⟩) K cap8 PS) W V) => refPaid_on h.left.right x.key fb hfb)
        obtain ⟨xk, xs, xd, xn⟩ := x
        have KF : Hid (∀ (P : Thing) (V : World), Has (P.both (RowT 24 4 (.slice (some ⟨g, 0, none⟩) K cap8) K (rowP PS))) W V → V.cell? ⟨g, j * 4, none⟩ = some (.string xk) ∧ V.cell? ⟨g, j * 4 + 1, none⟩ = some (.string xs) ∧ V.cell? ⟨g, j * 4 + 2, none⟩ = some (.string xd) ∧ V.cell? ⟨g, j * 4 + 3, none⟩ = some (.int .i64 xn)) := fun P V h => st3_four HK.out hx h
        simp only [ArrQ] at C1 C2 C3 C4 C5 C6 C7 C8
        obtain ⟨g0, g1, g2, g3⟩ := KF.out _ _ HO.out
        have r1 : (0 : Int) ≤ (j : Int) := by omega
        have r2 : (j : Int) < (K : Int) := by omega
        have r3 : (j : Int).toNat = j := by omega
        have HL2 := Lib.hid hlen2
        clear hpl hlen2 hpq hN1 hN2 hfb hx hxk hxs hxd hcq
        go_wp2_with fail
        go_region_held3 (fun w' => w'.cell? ⟨g, j * 4, none⟩ = some (.string xk) ∧ w'.cell? ⟨g, j * 4 + 1, none⟩ = some (.string xs) ∧ w'.cell? ⟨g, j * 4 + 2, none⟩ = some (.string xd) ∧ w'.cell? ⟨g, j * 4 + 3, none⟩ = some (.int .i64 xn)) (first | exact ⟨c0, c1, c2, c3⟩ | exact ⟨b0, b1, b2, b3⟩ | exact ⟨g0, g1, g2, g3⟩)
          (first
            | ((with_reducible refine (C1.out _ ((Below.refl _ _).drew)).mono ?_); (rintro e w5 ⟨rfl, h5⟩); have H5 := Lib.hid h5; (obtain ⟨b0, b1, b2, b3⟩ := KF.out _ _ h5); clear h5)
            | ((with_reducible refine (C2.out _ H5.out).mono ?_); (rintro e w6 ⟨rfl, h6⟩); have H6 := Lib.hid h6; (obtain ⟨c0, c1, c2, c3⟩ := KF.out _ _ h6); clear h6)
            | ((with_reducible refine (C3.out _ H6.out).mono ?_); (rintro e w' ⟨rfl, rfl⟩))
            | ((with_reducible refine (C4.out _ H6.out).mono ?_); (rintro e w' ⟨rfl, rfl⟩))
            | ((with_reducible refine (C5.out _ H6.out).mono ?_); (rintro e w' ⟨rfl, rfl⟩))
            | ((with_reducible refine (C6.out _ H6.out).mono ?_); (rintro e w' ⟨rfl, rfl⟩))
            | ((with_reducible refine (C7.out _ H6.out).mono ?_); (rintro e w' ⟨rfl, rfl⟩))
            | ((with_reducible refine (C8.out _ H6.out).mono ?_); (rintro e w' ⟨rfl, rfl⟩)))
        have HF := Lib.hid H6.out
        clear C1 C2 C3 C4 C5 C6 C7 C8 KF b0 b1 b2 b3 c0 c1 c2 c3 g0 g1 g2 g3 H5 H6
        go_wp2_with fail
        refine ⟨⟨j + 1, L2, by omega, by go_num, HL2.out, by rw [show 2 * (j + 1) = 2 * j + 2 by omega]; exact HF.out⟩, by simp [intOf]; omega⟩
      · obtain rfl : j = K := by omega
        have CS := Lib.hid (both_same HO.out.left (by omega) (HT.out.below HO.out.base))
        go_wp2_with fail
        refine CS.out.mono ?_
        rintro e w9 ⟨rfl, b9⟩
        have B9 := Lib.hid (below_join HO.out.base b9)
        clear b9 CS
        go_wp2_with fail
        go_ret
        exact ⟨rfl, B9.out⟩
end Go.Proofs.YtfligfompdcddaaGreatDoor
