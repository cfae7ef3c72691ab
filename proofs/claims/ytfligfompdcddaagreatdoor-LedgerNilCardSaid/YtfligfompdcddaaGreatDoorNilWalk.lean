/- The walk of the law LedgerNil. -/
import Derived.Test.YtfligfompdcddaaGreatDoorPlaysWalk
import Derived.Test.YtfligfompdcddaaGreatDoorLedNil
namespace Go.Proofs.YtfligfompdcddaaGreatDoor
open Go.RowKit Go.Sort Go.Maps
set_option linter.unusedVariables false
theorem enc_empty : Led.enc [] = [] := rfl
/-- the walk's state: a model, a ledger, a variable -/
abbrev St4 (m z c : Nat) (L L' : List Pst) (B : Nat) (cs : Array Value) : Thing := (RefT m L').both ((LedT z L c).both (BoxT B cs 24))
theorem st4_post {m z c B : Nat} {L L' L2 : List Pst} {cs : Array Value} {code : Int} {w0 w : World} (h : Has (St4 m z c L L' B cs) w0 w) (q : Pst) (hp : Led.post L q = (code, L2)) (hc : c ≤ 1000000000) (hz : q.key.size ≤ maxLen ∧ q.src.size ≤ maxLen ∧ q.dst.size ≤ maxLen) :
    Calls Tryz.prog 11 #[.pointer (some ⟨z, 0, none⟩), ArrQ q] w fun e w' => e = .returned (.int .i64 code) ∧ Has (St4 m z (c + 2) L2 L' B cs) w0 w' := by
  refine ((Trip.right (Trip.left (post_trip q hp hc hz))).call h).mono ?_
  rintro e w' ⟨_, ⟨_, ⟨_, ⟨rfl, rfl⟩, rfl⟩, rfl⟩, h2⟩
  exact ⟨rfl, h2⟩
theorem st4_ref {m z c B : Nat} {L L' L2 : List Pst} {cs : Array Value} {code : Int} {w0 w : World} (h : Has (St4 m z c L L' B cs) w0 w) (q : Pst) (hp : Led.post L' q = (code, L2)) (hz : q.key.size ≤ maxLen ∧ q.src.size ≤ maxLen ∧ q.dst.size ≤ maxLen) :
    Calls Tryz.prog 12 #[.pointer (some ⟨m, 0, none⟩), ArrQ q] w fun e w' => e = .returned (.int .i64 code) ∧ Has (St4 m z c L L2 B cs) w0 w' := by
  refine ((Trip.left (refPost_trip q hp hz)).call h).mono ?_
  rintro e w' ⟨_, ⟨_, ⟨rfl, rfl⟩, rfl⟩, h2⟩
  exact ⟨rfl, h2⟩
theorem st4_copy {m z c B : Nat} {L L' : List Pst} {cs : Array Value} {w0 w : World} (h : Has (St4 m z c L L' B cs) w0 w) :
    Calls Tryz.prog 22 #[.pointer (some ⟨z, 0, none⟩)] w fun e w' => ∃ p, e = .returned (.pointer (some ⟨p, 0, none⟩)) ∧ Has (St4 m z c L L' B cs) w0 w' := by
  refine (copy_on h.right.left).mono ?_
  rintro e w' ⟨p, rfl, hf⟩
  exact ⟨p, rfl, h.below hf.1⟩
theorem st4_enc {m z c B : Nat} {L L' : List Pst} {cs : Array Value} {w0 w : World} (h : Has (St4 m z c L L' B cs) w0 w) (hl : L.length ≤ 1000) (ht : Pow10 w0) (t : ByteArray) (he : bstr (Led.enc L) = t) :
    Calls Tryz.prog 18 #[.pointer (some ⟨z, 0, none⟩)] w fun e w' => e = .returned (.string t) ∧ Has (St4 m z c L L' B cs) w0 w' := by
  refine (encode_on h.right.left hl (ht.below h.base)).mono ?_
  rintro e w' ⟨rfl, hb⟩
  exact ⟨by rw [he], h.below hb⟩
theorem st4_refEnc {m z c B : Nat} {L L' : List Pst} {cs : Array Value} {w0 w : World} (h : Has (St4 m z c L L' B cs) w0 w) (hl : L'.length ≤ 1000) (t : ByteArray) (he : bstr (Led.enc L') = t) :
    Calls Tryz.prog 25 #[.pointer (some ⟨m, 0, none⟩)] w fun e w' => e = .returned (.string t) ∧ Has (St4 m z c L L' B cs) w0 w' := by
  refine (refEncode_on h.left hl).mono ?_
  rintro e w' ⟨rfl, hb⟩
  exact ⟨by rw [he], h.below hb⟩
set_option maxHeartbeats 8000000 in
set_option maxRecDepth 100000 in
theorem walk_LedgerNil (a : Num) (W : World) (hT : Pow10 W) :
    Calls Tryz.prog 6 #[.agg a.arr] W fun e w' => e = .returned (.bool true) ∧ Below W.heap.size W w' := by
  have HT := Lib.hid hT
  obtain ⟨z0, z1, z2, z3⟩ := a
  have zq := num_sizes ⟨z0, z1, z2, z3⟩
  obtain ⟨q, hq⟩ : ∃ q, Led.pst ⟨z0, z1, z2, z3⟩ = q := ⟨_, rfl⟩
  rw [hq] at zq
  have CP0 := posting_any ⟨z0, z1, z2, z3⟩
  rw [hq] at CP0
  obtain ⟨code, L2, hpq⟩ : ∃ code L2, Led.post [] q = (code, L2) := ⟨_, _, rfl⟩
  have hl2 : L2.length ≤ 1 := by
    have hpl := Led.post_snd [] q
    rw [hpq] at hpl
    rcases hpl with h | h <;> (simp only at h; subst h; simp)
  have HZ := Lib.hid zq
  have HPQ := Lib.hid hpq
  have HL2 := Lib.hid hl2
  obtain ⟨k, s, d, n⟩ := q
  simp only [Num.arr]
  have CP : Hid (∀ w : World, Calls Tryz.prog 24 #[.agg #[.int .i64 z0, .int .i64 z1, .int .i64 z2, .int .i64 z3]] w fun e w' => e = .returned (.agg #[.string k, .string s, .string d, .int .i64 n]) ∧ Below w.heap.size w w') := CP0
  have hqa := heap_alloc_new W (.cells #[.int .i64 z0, .int .i64 z1, .int .i64 z2, .int .i64 z3] 48)
  have HQ := Lib.hid hqa
  have BA := Lib.hid ((Below.refl W.heap.size W).alloc (Nat.le_refl _) (.cells #[.int .i64 z0, .int .i64 z1, .int .i64 z2, .int .i64 z3] 48))
  clear zq CP0 hpq hl2 hq hqa hT
  go_enter Tryz.func6, Tryz.ntmps6
  go_wp2_with fail
  generalize hWA : W.alloc (.cells #[.int .i64 z0, .int .i64 z1, .int .i64 z2, .int .i64 z3] 48) = WA at *
  obtain ⟨B, hB⟩ : ∃ B, W.heap.size = B := ⟨_, rfl⟩
  rw [hB] at HQ ⊢
  have EB := Lib.hid hB
  clear hWA hB
  refine (sanity_any WA).mono ?_
  rintro e w1 ⟨rfl, hb⟩
  have B1 := Lib.hid (below_join BA.out hb)
  have H1 := Lib.hid (heap_below HQ.out hb)
  clear hb
  have hz1 := heap_alloc_new w1 (.cells #[.slice none 0 0, .map none, .map none] 51)
  have bz := (Below.refl w1.heap.size w1).alloc (Nat.le_refl _) (.cells #[.slice none 0 0, .map none, .map none] 51)
  have OZ : Hid (Has (LedT w1.heap.size [] 0) W (w1.alloc (.cells #[.slice none 0 0, .map none, .map none] 51))) := by
    refine Has.one B1.out bz (G := Foot w1.heap.size (.slice none 0 0) (.map none) (.map none)) ⟨_, _, _, ⟨hz1, ⟨rfl, .inl ⟨rfl, rfl⟩⟩, ⟨fun p hp => by simp at hp, by simp, List.Pairwise.nil⟩, .inl ⟨rfl, rfl, rfl⟩⟩, rfl⟩ ?_
    rintro k (rfl | hk | hk | hk)
    · exact Nat.le_refl _
    · cases hk
    · cases hk
    · cases hk
  have H2 := Lib.hid (heap_below H1.out bz)
  clear hz1 bz
  generalize hWZ : w1.alloc (.cells #[.slice none 0 0, .map none, .map none] 51) = w2 at *
  have x0 : w2.cell? ⟨B, 0, none⟩ = some (.int .i64 z0) := (cell_of_row _ _ 0 _ _ _ H2.out).trans rfl
  have x1 : w2.cell? ⟨B, 1, none⟩ = some (.int .i64 z1) := (cell_of_row _ _ 1 _ _ _ H2.out).trans rfl
  have x2 : w2.cell? ⟨B, 2, none⟩ = some (.int .i64 z2) := (cell_of_row _ _ 2 _ _ _ H2.out).trans rfl
  have x3 : w2.cell? ⟨B, 3, none⟩ = some (.int .i64 z3) := (cell_of_row _ _ 3 _ _ _ H2.out).trans rfl
  go_wp2_with fail
  refine (CP.out _).mono ?_
  rintro e w3 ⟨rfl, b3⟩
  have O3 := Lib.hid (OZ.out.below b3)
  clear x0 x1 x2 x3 b3 H2 H1 B1 hWZ OZ
  have hbx := heap_alloc_new w3 (.cells #[.string k, .string s, .string d, .int .i64 n] 24)
  have bbx := (Below.refl w3.heap.size w3).alloc (Nat.le_refl _) (.cells #[.string k, .string s, .string d, .int .i64 n] 24)
  have O4 : Hid (Has ((LedT w1.heap.size [] 0).both (BoxT w3.heap.size #[.string k, .string s, .string d, .int .i64 n] 24)) W (w3.alloc (.cells #[.string k, .string s, .string d, .int .i64 n] 24))) :=
    O3.out.new bbx (G := fun b => b = w3.heap.size) ⟨hbx, fun k => Iff.rfl⟩ (fun b hb => by omega)
  have KB : Hid (∀ (P : Thing) (V : World), Has (P.both (BoxT w3.heap.size #[.string k, .string s, .string d, .int .i64 n] 24)) W V → V.cell? ⟨w3.heap.size, 0, none⟩ = some (.string k) ∧ V.cell? ⟨w3.heap.size, 1, none⟩ = some (.string s) ∧ V.cell? ⟨w3.heap.size, 2, none⟩ = some (.string d) ∧ V.cell? ⟨w3.heap.size, 3, none⟩ = some (.int .i64 n)) := fun P V h =>
    ⟨(cell_of_row _ _ 0 _ _ _ (Has.box h.right)).trans rfl, (cell_of_row _ _ 1 _ _ _ (Has.box h.right)).trans rfl, (cell_of_row _ _ 2 _ _ _ (Has.box h.right)).trans rfl, (cell_of_row _ _ 3 _ _ _ (Has.box h.right)).trans rfl⟩
  obtain ⟨y0, y1, y2, y3⟩ := KB.out _ _ O4.out
  clear hbx bbx O3
  go_wp2_with fail
  refine (nilAll_any _ _).mono ?_
  rintro e w5 ⟨rfl, b5⟩
  have O5 := Lib.hid ((O4.out.below ((Below.refl _ _).alloc (Nat.le_refl _) _)).below b5)
  clear y0 y1 y2 y3 b5 O4
  go_wp2_with fail
  refine (refNew_any w5).mono ?_
  rintro e w6 ⟨m, rfl, h6⟩
  have O6 := Lib.hid (O5.out.fresh h6).spin.swap.assoc
  clear h6 O5
  obtain ⟨y0, y1, y2, y3⟩ := KB.out _ _ O6.out.assoc'
  go_wp2_with fail
  refine (nilPost_any ⟨k, s, d, n⟩ w6).mono ?_
  rintro e w7 ⟨rfl, b7⟩
  have O7 := Lib.hid (O6.out.below b7)
  clear y0 y1 y2 y3 b7 O6
  obtain ⟨y0, y1, y2, y3⟩ := KB.out _ _ O7.out.assoc'
  go_wp2_with fail
  refine (nilBalance_any _ w7).mono ?_
  rintro e w' ⟨rfl, rfl⟩
  go_wp2_with fail
  refine (nilAccounts_any w').mono ?_
  rintro e w'' ⟨rfl, rfl⟩
  go_wp2_with fail
  refine (nilPostings_any w'').mono ?_
  rintro e w7 ⟨rfl, rfl⟩
  go_wp2_with fail
  refine (nilPaid_any _ w7).mono ?_
  rintro e w' ⟨rfl, rfl⟩
  go_wp2_with fail
  refine (nilCopy_any w').mono ?_
  rintro e w'' ⟨rfl, rfl⟩
  go_wp2_with fail
  refine (nilEncode_any w'').mono ?_
  rintro e w8 ⟨rfl, b8⟩
  have O8 := Lib.hid (O7.out.below b8)
  clear y0 y1 y2 y3 b8 O7
  obtain ⟨y0, y1, y2, y3⟩ := KB.out _ _ O8.out.assoc'
  obtain ⟨z, hz⟩ : ∃ z, w1.heap.size = z := ⟨_, rfl⟩
  obtain ⟨BX, hBX⟩ : ∃ BX, w3.heap.size = BX := ⟨_, rfl⟩
  rw [hz, hBX] at O8 ⊢
  rw [hBX] at KB y0 y1 y2 y3
  clear hz hBX
  obtain ⟨eb, heb⟩ : ∃ eb, bstr (Led.enc L2) = eb := ⟨_, rfl⟩
  have D1 := Lib.hid (fun (V : World) (h : Has (St4 m z 0 [] [] BX #[.string k, .string s, .string d, .int .i64 n]) W V) => st4_enc h (by simp) HT.out ⟨#[]⟩ rfl)
  have D2 := Lib.hid (fun (V : World) (h : Has (St4 m z 0 [] [] BX #[.string k, .string s, .string d, .int .i64 n]) W V) => st4_copy h)
  have D3 := Lib.hid (fun (V : World) (h : Has (St4 m z 0 [] [] BX #[.string k, .string s, .string d, .int .i64 n]) W V) => st4_post h ⟨k, s, d, n⟩ HPQ.out (by omega) HZ.out)
  have D4 := Lib.hid (fun (V : World) (h : Has (St4 m z 2 L2 [] BX #[.string k, .string s, .string d, .int .i64 n]) W V) => st4_ref h ⟨k, s, d, n⟩ HPQ.out HZ.out)
  have D5 := Lib.hid (fun (V : World) (h : Has (St4 m z 2 L2 L2 BX #[.string k, .string s, .string d, .int .i64 n]) W V) => st4_enc h (by have := HL2.out; omega) HT.out eb heb)
  have D6 := Lib.hid (fun (V : World) (h : Has (St4 m z 2 L2 L2 BX #[.string k, .string s, .string d, .int .i64 n]) W V) => st4_refEnc h (by have := HL2.out; omega) eb heb)
  simp only [ArrQ, Nat.zero_add] at D1 D2 D3 D4 D5 D6
  clear heb CP
  go_wp2_with fail
  go_region_held3 (fun w' => w'.cell? ⟨BX, 0, none⟩ = some (.string k) ∧ w'.cell? ⟨BX, 1, none⟩ = some (.string s) ∧ w'.cell? ⟨BX, 2, none⟩ = some (.string d) ∧ w'.cell? ⟨BX, 3, none⟩ = some (.int .i64 n)) (first | exact ⟨y60, y61, y62, y63⟩ | exact ⟨y50, y51, y52, y53⟩ | exact ⟨y40, y41, y42, y43⟩ | exact ⟨y30, y31, y32, y33⟩ | exact ⟨y20, y21, y22, y23⟩ | exact ⟨y10, y11, y12, y13⟩ | exact ⟨y0, y1, y2, y3⟩)
    (first
      | ((with_reducible refine (D1.out _ (O8.out.below ((Below.refl _ _).drew))).mono ?_); (rintro e v1 ⟨rfl, h1⟩); have Q1 := Lib.hid h1; (obtain ⟨y10, y11, y12, y13⟩ := KB.out _ _ Q1.out.assoc'); clear h1)
      | ((with_reducible refine (D2.out _ Q1.out).mono ?_); (rintro e v2 ⟨pc, rfl, h2⟩); have Q2 := Lib.hid h2; (obtain ⟨y20, y21, y22, y23⟩ := KB.out _ _ Q2.out.assoc'); clear h2)
      | ((with_reducible refine (D3.out _ Q2.out).mono ?_); (rintro e v3 ⟨rfl, h3⟩); have Q3 := Lib.hid h3; (obtain ⟨y30, y31, y32, y33⟩ := KB.out _ _ Q3.out.assoc'); clear h3)
      | ((with_reducible refine (D4.out _ Q3.out).mono ?_); (rintro e v4 ⟨rfl, h4⟩); have Q4 := Lib.hid h4; (obtain ⟨y40, y41, y42, y43⟩ := KB.out _ _ Q4.out.assoc'); clear h4)
      | ((with_reducible refine (D5.out _ Q4.out).mono ?_); (rintro e v5 ⟨rfl, h5⟩); have Q5 := Lib.hid h5; (obtain ⟨y50, y51, y52, y53⟩ := KB.out _ _ Q5.out.assoc'); clear h5)
      | ((with_reducible refine (D6.out _ Q5.out).mono ?_); (rintro e v6 ⟨rfl, h6⟩); have Q6 := Lib.hid h6; (obtain ⟨y60, y61, y62, y63⟩ := KB.out _ _ Q6.out.assoc'); clear h6))
  have BE := Lib.hid Q6.out.base
  go_wp2_with fail
  go_ret
  exact ⟨rfl, BE.out⟩
end Go.Proofs.YtfligfompdcddaaGreatDoor
