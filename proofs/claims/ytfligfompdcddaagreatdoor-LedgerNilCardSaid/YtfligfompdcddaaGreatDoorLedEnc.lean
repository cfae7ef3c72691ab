/- The contract of Encode. -/
import Derived.Test.YtfligfompdcddaaGreatDoorLedThing
import Derived.Test.YtfligfompdcddaaGreatDoorBuilder
import Derived.Test.YtfligfompdcddaaGreatDoorNatC
import Derived.Lib.AppendIntMem
import Derived.Lib.ItoaLen
namespace Go.Proofs.YtfligfompdcddaaGreatDoor
open Go.RowKit Go.Sort Go.Maps
set_option linter.unusedVariables false
/-- the library's table of powers of ten lies in memory -/
def Pow10 (w : World) : Prop := Lib.TabIs Tryz.prog w "internal/strconv.uint64pow10" .u64 Lib.pow10Tab
theorem Pow10.below {w w' : World} (h : Pow10 w) (hb : Below w.heap.size w w') : Pow10 w' := Lib.tabBelow_of_tabIs h w' hb
theorem builder_below {T e : TypeId} {B b : Nat} {bs : List Value} {w w' : World} (h : Lib.IsBuilderF T e B b bs w) (hb : Below w.heap.size w w') : Lib.IsBuilderF T e B b bs w' := by
  have key : ∀ p, Lib.BuilderAtF T e B b p bs w → Lib.BuilderAtF T e B b p bs w' := by
    rintro p ⟨hB, v, h1, h2, h3⟩
    refine ⟨hB, v, heap_below h1 hb, ⟨h2.1, ?_⟩, h3⟩
    rcases h2.2 with g | ⟨g, cap, cur, fz, e1, e2, e3, e4⟩
    · exact .inl g
    · exact .inr ⟨g, cap, cur, fz, e1, e2, heap_below e3 hb, e4⟩
  exact h.elim (fun x => .inl (key _ x)) (fun x => .inr (key _ x))
/-- a row of strings stays beside a builder -/
theorem strs_others {w w' : World} {B b : Nat} {v : Value} {n : Nat} {xs : List Value} (h : w.ownsRow B 9 1 v n xs) (hb : b < B) (ho : Lib.OthersKept 5 (some b) w w') : w'.ownsRow B 9 1 v n xs := by
  refine ⟨h.1, ?_⟩
  rcases h.2 with h1 | ⟨g, cap, cur, rfl, h1, h2, h3⟩
  · exact .inl h1
  · exact .inr ⟨g, cap, cur, rfl, h1, ho g _ h2 (by intro e; injection e with e; omega) (by intro c fz e; injection e with _ e; exact absurd e (by decide)), h3⟩
theorem below_grown (w : World) (k : Nat) (os : Array Obj) : Below w.heap.size w (grow (w.drewN k) os) :=
  ⟨rfl, rfl, rfl, by simp [grow], fun j hj => by simp [grow, Array.getElem?_append, hj]⟩
theorem itoa_any (z : Int) (w : World) (h0 : -9223372036854775808 ≤ z) (h1 : z ≤ 9223372036854775807) (ht : Pow10 w) :
    Calls Tryz.prog 37 #[.int .i64 z] w fun e w' => e = .returned (.string (bstr (Lib.itoa z))) ∧ Below w.heap.size w w' := by
  refine (Tryz.strconv_Itoa z h0 h1 w ht).mono ?_
  rintro e w' ⟨rfl, k, os, rfl⟩
  exact ⟨rfl, below_grown w k os⟩
theorem line_cells (L : List Pst) (x : List UInt8) (n : Int) (h : Led.bal L (bstr x) = n) : Lib.strCells (bstr (Lib.itoa n) ++ ⟨#[32]⟩ ++ bstr x ++ ⟨#[10]⟩) = Lib.byteCells (Led.line L x) := by
  unfold Led.line
  rw [Lib.strCells_eq, ← h]
  simp [bstr, ByteArray.data_append]
theorem line_length (L : List Pst) (x : List UInt8) (hx : x.length ≤ 100) (hr : ∀ p ∈ L, Led.right p = true) (hl : L.length ≤ 1000) : (Led.line L x).length ≤ 130 := by
  have h1 := Led.bal_le hr ⟨x.toArray⟩
  have h2 := Lib.itoa_length_le (Led.bal L ⟨x.toArray⟩) (by omega) (by omega)
  simp only [Led.line, List.length_append, List.length_singleton]
  omega
theorem encs_length (L : List Pst) (hr : ∀ p ∈ L, Led.right p = true) (hl : L.length ≤ 1000) : ∀ ns : List (List UInt8), (∀ x ∈ ns, x.length ≤ 100) → (Led.encs L ns).length ≤ 130 * ns.length
  | [], _ => by simp [Led.encs]
  | x :: ns, h => by
    have h1 := encs_length L hr hl ns (fun y hy => h y (by simp [hy]))
    have h2 := line_length L x (h x (by simp)) hr hl
    have h3 : Led.encs L (x :: ns) = Led.line L x ++ Led.encs L ns := rfl
    rw [h3, List.length_append, List.length_cons]
    omega
def Encoded (L : List Pst) (w : World) (e : Ending) (w' : World) : Prop := e = .returned (.string (bstr (Led.enc L))) ∧ Below w.heap.size w w'
set_option maxHeartbeats 4000000 in
set_option maxRecDepth 100000 in
theorem encode_on {p : Nat} {L : List Pst} {c : Nat} {w0 w : World} (h : Has (LedT p L c) w0 w) (hl : L.length ≤ 1000) (ht : Pow10 w) :
    Calls Tryz.prog 18 #[.pointer (some ⟨p, 0, none⟩)] w (Encoded L w) := by
  have H := Lib.hid h
  have HT := Lib.hid ht
  have OK := Lib.hid (LedT.ok h)
  obtain ⟨W, hW⟩ : ∃ W, w.alloc (.cells #[.pointer none, .slice none 0 0] 68) = W := ⟨_, rfl⟩
  have b1 : Below w.heap.size w W := by rw [← hW]; exact (Below.refl _ _).alloc (Nat.le_refl _) _
  have i1 : Lib.IsBuilderF 68 5 w.heap.size w.heap.size [] W := by rw [← hW]; exact Lib.IsBuilderF.of (Lib.fresh_isBuilder _ _ w)
  have z1 : W.heap.size = w.heap.size + 1 := by rw [← hW]; simp
  have B1 := Lib.hid b1
  have I1 := Lib.hid i1
  have Z1 := Lib.hid z1
  have HL := Lib.hid hl
  have HW := Lib.hid hW
  clear h ht b1 i1 z1 hl hW
  go_enter Tryz.func18, Tryz.ntmps18
  go_wp2_with fail
  rw [HW.out]
  refine (accounts_on (H.out.below B1.out) HL.out).mono ?_
  rintro e W2 ⟨x, rfl, s1, s2⟩
  obtain ⟨ao, cap, rfl, hc⟩ := strs_row s1
  have B2 := Lib.hid (below_join B1.out s2)
  have I2 := Lib.hid (builder_below I1.out s2)
  have S2 := Lib.hid s1
  have NL := Lib.hid (show (Led.names L).length ≤ 2000 by have := Led.names_length L; have := HL.out; omega)
  have NM := Lib.hid (show ∀ x ∈ Led.names L, x.length ≤ 100 from fun x hx => named_size OK.out.1 (Led.mem_names.1 hx))
  obtain ⟨ns, hns⟩ : ∃ ns, Led.names L = ns := ⟨_, rfl⟩
  rw [hns] at NL NM S2 ⊢
  obtain ⟨n, hn⟩ : ∃ n, ns.length = n := ⟨_, rfl⟩
  rw [hn] at NL S2 ⊢
  have HN := Lib.hid hn
  have HNS := Lib.hid hns
  obtain ⟨B, hB⟩ : ∃ B, w.heap.size = B := ⟨_, rfl⟩
  rw [Z1.out, hB] at S2
  rw [hB] at I2 ⊢
  have HB := Lib.hid hB
  have nb : n ≤ 2000 := NL.out
  clear s1 s2 hc hn hns hB
  go_wp2_with fail
  go_loopw [9] (fun i wr => ∃ k : Nat, k ≤ n ∧ i = .int .i64 k ∧ Lib.IsBuilderF 68 5 B B (Lib.byteCells (Led.encs L (ns.take k))) wr ∧ wr.ownsRow (B + 1) 9 1 (.slice ao n cap) n (ns.map Go.Proofs.encStr) ∧ Below B w wr) (fun i _ => n - (intOf i).toNat)
  case atStart => exact ⟨0, Nat.zero_le _, rfl, by rw [List.take_zero]; exact I2.out, S2.out, by rw [← HB.out]; exact B2.out⟩
  case round =>
    obtain ⟨k, hk, rfl, hI, hS, hb⟩ := hrel
    have hbw : Below w.heap.size w wr := by rw [HB.out]; exact hb
    by_cases hlt : k < n
    · obtain ⟨x, hx⟩ : ∃ x, ns[k]? = some x := ⟨ns[k]'(by rw [HN.out]; exact hlt), List.getElem?_eq_getElem _⟩
      have hS' := hS
      rw [← HN.out] at hS'
      obtain ⟨ao', cap', e1, hc⟩ := strs_row hS'
      injection e1 with e1 _ e3
      subst e1 e3
      obtain ⟨g, rfl, cx⟩ := hc k x hx
      have xl := NM.out x (List.mem_of_getElem? hx)
      have htk : ns.take (k + 1) = ns.take k ++ [x] := by rw [List.take_add_one, hx]; rfl
      have hbal := Led.bal_le OK.out.1 (bstr x)
      have hl1 := HL.out
      obtain ⟨N, hN⟩ : ∃ N, Led.bal L (bstr x) = N := ⟨_, rfl⟩
      rw [hN] at hbal
      have n1 : -9223372036854775808 ≤ N := by omega
      have n2 : N ≤ 9223372036854775807 := by omega
      have il := Lib.itoa_length_le N n1 n2
      have el := encs_length L OK.out.1 hl1 (ns.take k) (fun y hy => NM.out y (List.mem_of_mem_take hy))
      have tl : (ns.take k).length ≤ 2000 := by rw [List.length_take]; have := NL.out; omega
      have CB := Lib.hid (balance_on (H.out.below hbw) (bstr x) N hN (by rw [bstr_size]; unfold maxLen; omega))
      have CI := Lib.hid (fun W (h : Below wr.heap.size wr W) => itoa_any N W n1 n2 (HT.out.below (below_join hbw h)))
      have LC := Lib.hid (line_cells L x N hN)
      have q1 : (bstr (Lib.itoa N)).size ≤ 21 := by rw [bstr_size]; exact il
      have q2 : (bstr x).size ≤ 100 := by rw [bstr_size]; exact xl
      have CX : wr.cell? ⟨g, k, none⟩ = some (.string (bstr x)) := cx
      have EL := Lib.hid (show (Led.encs L (ns.take k)).length ≤ 260000 by omega)
      have LL := Lib.hid (line_length L x xl OK.out.1 hl1)
      have ES := Lib.hid (show Led.encs L (ns.take (k + 1)) = Led.encs L (ns.take k) ++ Led.line L x by rw [htk, Led.encs_snoc])
      have HI := Lib.hid hI
      have HS := Lib.hid hS
      have BW := Lib.hid hb
      obtain ⟨tx, htx⟩ : ∃ tx, bstr (Lib.itoa N) = tx := ⟨_, rfl⟩
      obtain ⟨xb, hxb⟩ : ∃ xb, bstr x = xb := ⟨_, rfl⟩
      rw [htx] at q1 LC
      rw [hxb] at q2 LC CX CB
      have TX := Lib.hid htx
      clear hbw hS' hc cx xl htk hbal hl1 hN il el tl hI hS hb htx hxb hx
      go_wp2_with fail
      refine CB.out.mono ?_
      rintro e w' ⟨rfl, rfl⟩
      go_wp2_with fail
      refine (CI.out _ (Below.refl _ _)).mono ?_
      rintro e w3 ⟨rfl, b3⟩
      rw [TX.out]
      have I3 := Lib.hid (builder_below HI.out b3)
      have S3 := Lib.hid (rows_below HS.out b3)
      have B3 := Lib.hid (BW.out.trans (b3.mono (by rw [← HB.out]; exact BW.out.size)))
      go_wp2_with fail
      refine (writeString_any B B _ _ w3 I3.out (by rw [Lib.byteCells_length]; have := EL.out; simp only [ByteArray.size_append]; have e1 : (⟨#[32]⟩ : ByteArray).size = 1 := rfl; have e2 : (⟨#[10]⟩ : ByteArray).size = 1 := rfl; rw [e1, e2]; omega) (by rw [← HB.out]; exact B3.out.size)).mono ?_
      rintro e w4 ⟨rfl, i4, b4, o4⟩
      rw [LC.out, ← Lib.byteCells_append, ← ES.out] at i4
      have I4 := Lib.hid i4
      have S4 := Lib.hid (strs_others S3.out (Nat.lt_succ_self B) o4)
      have B4 := Lib.hid (B3.out.trans b4)
      clear i4 b4 o4
      go_wp2_with fail
      refine ⟨⟨k + 1, by omega, by go_num, I4.out, S4.out, B4.out⟩, by simp [intOf]; omega⟩
    · obtain rfl : k = n := by omega
      have HI := Lib.hid hI
      have BW := Lib.hid hb
      have ES := Lib.hid (show ns.take k = ns by rw [← HN.out]; exact List.take_length)
      clear hI hS hb hbw
      go_wp2_with fail
      refine (Tryz.Builder_String_any_k B B _ wr HI.out (by rw [← HB.out]; exact BW.out.size)).mono ?_
      rintro e w4 ⟨rfl, _, b4, _⟩
      have B4 := Lib.hid (BW.out.trans b4)
      rw [ES.out]
      clear b4
      go_wp2_with fail
      go_ret
      exact ⟨by rw [Led.enc, HNS.out]; rfl, by rw [HB.out]; exact B4.out⟩
end Go.Proofs.YtfligfompdcddaaGreatDoor
