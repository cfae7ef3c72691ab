/- Contracts of package sign. The contract of sign.Verify. Contracts of package entry. Stores into the middle of a block; stores into a receipt that lies in memory. -/
import Derived.Test.YtpblfpnldbdncaaGreatDoorG09
import Derived.Test.YtpblfpnldbdncaaGreatDoorG08
import Derived.Test.YtpblfpnldbdncaaGreatDoorShelf
import Derived.Test.YtpblfpnldbdncaaGreatDoorG02
import Derived.Lib.AppendIntMem
import Derived.Lib.ItoaLen
import Derived.Test.YtpblfpnldbdncaaGreatDoorG06
namespace Go.Proofs.YtpblfpnldbdncaaGreatDoor
open Go.RowKit Go.Sort
set_option linter.unusedVariables false
/-- the library's table of powers of ten lies in memory -/
def Pow10 (w : World) : Prop := Lib.TabIs Tryz.prog w "internal/strconv.uint64pow10" .u64 Lib.pow10Tab
theorem Pow10.below {w w' : World} (h : Pow10 w) (hb : Below w.heap.size w w') : Pow10 w' := Lib.tabBelow_of_tabIs h w' hb
theorem below_grown (w : World) (k : Nat) (os : Array Obj) : Below w.heap.size w (grow (w.drewN k) os) :=
  ⟨rfl, rfl, rfl, by simp [grow], fun j hj => by simp [grow, Array.getElem?_append, hj]⟩
theorem itoa_any (z : Int) (w : World) (h : I64 z) (ht : Pow10 w) :
    Calls Tryz.prog 61 #[.int .i64 z] w fun e w' => e = .returned (.string (bstr (Lib.itoa z))) ∧ Below w.heap.size w w' := by
  refine (Tryz.strconv_Itoa z h.1 h.2 w ht).mono ?_
  rintro e w' ⟨rfl, k, os, rfl⟩
  exact ⟨rfl, below_grown w k os⟩
theorem itoa_size {z : Int} (h : I64 z) : (Lib.itoa z).length ≤ 21 := Lib.itoa_length_le z h.1 h.2
/-- strings that lie in a block -/
def StrsAt (w : World) (g : Nat) (xs : List (List UInt8)) : Prop := g < w.heap.size ∧ ∀ (j : Nat) x, xs[j]? = some x → w.cell? ⟨g, j, none⟩ = some (.string (bstr x))
theorem bstr_back (x : List UInt8) : (bstr x).data.toList = x := rfl
theorem strs_bytes {w : World} {g : Nat} {xs : List (List UInt8)} (h : StrsAt w g xs) : ∀ (j : Nat) x, (xs.map bstr)[j]? = some x → w.cell? ⟨g, 0 + j, none⟩ = some (.string x) := by
  intro j x hx
  rw [List.getElem?_map] at hx
  cases hy : xs[j]? with
  | none => rw [hy] at hx; cases hx
  | some y =>
    rw [hy] at hx
    injection hx with hx
    subst hx
    rw [Nat.zero_add]
    exact h.2 j y hy
theorem map_back (xs : List (List UInt8)) : (xs.map bstr).map (·.data.toList) = xs := by
  rw [List.map_map]
  exact List.map_id'' (fun _ => rfl) xs
theorem join_on {w : World} {g n c : Nat} {xs : List (List UInt8)} (sep : ByteArray) (r : List UInt8) (h : StrsAt w g xs) (hn : xs.length = n) (hN : n ≤ 100) (hcap : n ≤ c) (hr : Lib.join xs sep.data.toList = r) (hlen : r.length ≤ 100000000000) :
    Calls Tryz.prog 58 #[.slice (some ⟨g, 0, none⟩) n c, .string sep] w fun e w' => e = .returned (.string (bstr r)) ∧ Below w.heap.size w w' := by
  have := Tryz.strings_Join g 0 c (xs.map bstr) sep w (strs_bytes h) h.1 (by rw [List.length_map]; omega) (by rw [List.length_map]; omega) (by rw [map_back, hr]; omega)
  rw [List.length_map, hn, map_back, hr] at this
  exact this
def sc (t : List UInt8) : Nat := scalarN (bstr t)
theorem scalarN_lt (s : ByteArray) : scalarN s < 1152921504606845789 := Nat.mod_lt _ (by omega)
theorem sc_lt (t : List UInt8) : sc t < 1152921504606845789 := scalarN_lt _
theorem join_flat (xs : List (List UInt8)) : Lib.join xs [] = xs.flatten := by
  unfold Lib.join
  induction xs with
  | nil => rfl
  | cons x xs ih =>
    cases xs with
    | nil => simp
    | cons y ys =>
      rw [List.intercalate_cons_cons, ih]
      simp
theorem strs4 (w : World) (a b c d : List UInt8) (T : TypeId) : StrsAt (w.alloc (.cells #[.string (bstr a), .string (bstr b), .string (bstr c), .string (bstr d)] T)) w.heap.size [a, b, c, d] :=
  ⟨by simp, fun j x hx => by
    have hr := heap_alloc_new w (.cells #[.string (bstr a), .string (bstr b), .string (bstr c), .string (bstr d)] T)
    rw [cell_of_row _ _ j _ _ _ hr]
    match j, hx with
    | 0, hx => injection hx with hx; subst hx; rfl
    | 1, hx => injection hx with hx; subst hx; rfl
    | 2, hx => injection hx with hx; subst hx; rfl
    | 3, hx => injection hx with hx; subst hx; rfl
    | j + 4, hx => simp at hx⟩
theorem strs2 (w : World) (a b : List UInt8) (T : TypeId) : StrsAt (w.alloc (.cells #[.string (bstr a), .string (bstr b)] T)) w.heap.size [a, b] :=
  ⟨by simp, fun j x hx => by
    have hr := heap_alloc_new w (.cells #[.string (bstr a), .string (bstr b)] T)
    rw [cell_of_row _ _ j _ _ _ hr]
    match j, hx with
    | 0, hx => injection hx with hx; subst hx; rfl
    | 1, hx => injection hx with hx; subst hx; rfl
    | j + 2, hx => simp at hx⟩
theorem StrsAt.below {w w' : World} {g : Nat} {xs : List (List UInt8)} (h : StrsAt w g xs) (hb : Below w.heap.size w w') : StrsAt w' g xs :=
  ⟨Nat.lt_of_lt_of_le h.1 hb.size, fun j x hx => (hb.cell (p := ⟨g, j, none⟩) h.1).trans (h.2 j x hx)⟩
set_option maxHeartbeats 1000000 in
theorem sscalar_any {w : World} {g n c : Nat} {xs : List (List UInt8)} (v : Nat) (h : StrsAt w g xs) (hn : xs.length = n) (hN : n ≤ 100) (hcap : n ≤ c) (hlen : xs.flatten.length ≤ 1000000) (hT : Tabs w) (hv : sc xs.flatten = v) :
    Calls Tryz.prog 131 #[.slice (some ⟨g, 0, none⟩) n c] w fun e w' => e = .returned (.int .i64 (v : Int)) ∧ Below w.heap.size w w' := by
  obtain ⟨r, hr⟩ : ∃ r, xs.flatten = r := ⟨_, rfl⟩
  have hj : Lib.join xs (⟨#[]⟩ : ByteArray).data.toList = r := by rw [← hr]; exact join_flat xs
  rw [hr] at hv hlen
  have CJ := Lib.hid (join_on (⟨#[]⟩ : ByteArray) r h hn hN hcap hj (by omega))
  have HT := Lib.hid hT
  have HV := Lib.hid hv
  have HL := Lib.hid hlen
  clear h hn hN hcap hlen hT hv hr hj
  go_enter Tryz.func131, Tryz.ntmps131
  go_wp2_with fail
  refine CJ.out.mono ?_
  rintro e w1 ⟨rfl, b1⟩
  have B1 := Lib.hid b1
  go_wp2_with fail
  refine (scalar_any (bstr r) v _ (by rw [bstr_size]; have := HL.out; omega) (HT.out.below B1.out) HV.out).mono ?_
  rintro e w2 ⟨rfl, b2⟩
  clear b1
  go_wp2_with fail
  go_ret
  exact ⟨rfl, below_join B1.out b2⟩
/-- the bytes behind k of 8 rounds -/
theorem b8_eq (n : Nat) : (List.range 8).map (fun i => UInt8.ofNat (lenAt n 8 i)) = Sg.b8 n := by
  rw [lenAt_end]
  unfold Sha.bytesOf Sg.b8
  apply List.map_congr_left
  intro i hi
  have hi : i < 8 := by simpa using hi
  congr 2
set_option maxHeartbeats 1000000 in
set_option maxRecDepth 100000 in
theorem sbytes_any (n : Nat) (w : World) (hn : n < 9223372036854775808) :
    Calls Tryz.prog 132 #[.int .i64 (n : Int)] w fun e w' => e = .returned (.string (bstr (Sg.b8 n))) ∧ Below w.heap.size w w' := by
  go_enter Tryz.func132, Tryz.ntmps132
  go_wp2_with fail
  have hr0 : (w.alloc (.cells #[.int .u8 0, .int .u8 0, .int .u8 0, .int .u8 0, .int .u8 0, .int .u8 0, .int .u8 0, .int .u8 0] 208)).rowIs w.heap.size 208 8 (fun j => .int .u8 (lenAt n 0 j : Nat)) :=
    World.rowIs_alloc w (Array.replicate 8 (.int .u8 0)) _ _ (fun i hi => by simp at hi; simp [lenAt, hi])
  have hb0 : Below w.heap.size w (w.alloc (.cells #[.int .u8 0, .int .u8 0, .int .u8 0, .int .u8 0, .int .u8 0, .int .u8 0, .int .u8 0, .int .u8 0] 208)) := (Below.refl _ _).alloc (Nat.le_refl _) _
  generalize w.alloc _ = W0 at *
  go_loopw [4, 5] (fun _ i wr => ∃ k : Nat, k ≤ 8 ∧ i = .int .i64 k ∧ wr.rowIs w.heap.size 208 8 (fun j => .int .u8 (lenAt n k j : Nat)) ∧ Below w.heap.size w wr) (fun _ i _ => 8 - (intOf i).toNat)
  case atStart => exact ⟨0, by omega, rfl, hr0, hb0⟩
  case round =>
    obtain ⟨k, hk, rfl, hr, hbw⟩ := hrel
    by_cases hlt : k < 8
    · have c0 := hr.cell (i := k) hlt
      have f0 := hr.frozen k
      have k0 : (0 : Int) ≤ 56 - 8 * (k : Int) := by omega
      have k1 : (56 : Int) - 8 * (k : Int) < 64 := by omega
      go_wp2_with fail
      go_roundw
      case rel =>
        refine ⟨k + 1, by omega, by go_num, (hr.set k _).congr fun j _ => ?_, hbw.setCell (by simp) _⟩
        rw [← lenAt_step]
        by_cases e : j = k
        · rw [if_pos e, if_pos e, shr_cast]; congr 1
        · rw [if_neg e, if_neg e]
      case measure => simp [intOf]; omega
    · have hdk : decide ((k : Int) < 8) = false := by simp; omega
      have hcv : Sem.run Tryz.prog (convert 67 9 (Value.slice (some ⟨w.heap.size, 0, none⟩) 8 8)) wr = Result.ok (.string (bstr (Sg.b8 n))) wr := by
        obtain rfl : k = 8 := by omega
        rw [← b8_eq]
        exact conv_row (P := Tryz.prog) (T := 208) (c := 8) Tryz.underlying67 Tryz.underlying5 Tryz.underlying9 (fun i hi => hr.cell (i := i) (n := 8) hi)
      go_wp2_with fail
      go_ret
      exact ⟨rfl, hbw⟩
theorem b8_length (n : Nat) : (Sg.b8 n).length = 8 := by simp [Sg.b8]
theorem chal_flat (r y : Nat) (t : List UInt8) : ([[99], Sg.b8 r, Sg.b8 y, t] : List (List UInt8)).flatten = 99 :: (Sg.b8 r ++ Sg.b8 y ++ t) := by simp
set_option maxHeartbeats 1000000 in
theorem challenge_any (r y v : Nat) (t : List UInt8) (w : World) (hr : r < 9223372036854775808) (hy : y < 9223372036854775808) (ht : t.length ≤ 100000) (hT : Tabs w) (hv : Sg.chal sc r y t = v) :
    Calls Tryz.prog 105 #[.int .i64 (r : Int), .int .i64 (y : Int), .string (bstr t)] w fun e w' => e = .returned (.int .i64 (v : Int)) ∧ Below w.heap.size w w' := by
  have hv' : sc ([[99], Sg.b8 r, Sg.b8 y, t] : List (List UInt8)).flatten = v := by rw [chal_flat]; exact hv
  have HV := Lib.hid hv'
  have HT := Lib.hid hT
  have HL : Hid (([[99], Sg.b8 r, Sg.b8 y, t] : List (List UInt8)).flatten.length ≤ 1000000) := by show _ ≤ _; rw [chal_flat]; simp [b8_length]; omega
  obtain ⟨tb, htb⟩ : ∃ tb, bstr t = tb := ⟨_, rfl⟩
  have TB := Lib.hid htb
  rw [htb]
  clear hv hv' hT htb
  go_enter Tryz.func105, Tryz.ntmps105
  go_wp2_with fail
  refine (sbytes_any r _ hr).mono ?_
  rintro e w1 ⟨rfl, b1⟩
  have B1 := Lib.hid b1
  clear b1
  go_wp2_with fail
  refine (sbytes_any y _ hy).mono ?_
  rintro e w2 ⟨rfl, b2⟩
  have B2 := Lib.hid (below_join B1.out b2)
  clear b2
  have S4 := strs4 w2 [99] (Sg.b8 r) (Sg.b8 y) t 9
  rw [TB.out] at S4
  have S4 := Lib.hid S4
  obtain ⟨x1, e1⟩ : ∃ x, bstr (Sg.b8 r) = x := ⟨_, rfl⟩
  obtain ⟨x2, e2⟩ : ∃ x, bstr (Sg.b8 y) = x := ⟨_, rfl⟩
  rw [e1, e2] at S4 ⊢
  have HB := Lib.hid ((Below.refl w2.heap.size w2).alloc (Nat.le_refl _) (.cells #[.string (bstr [99]), .string x1, .string x2, .string tb] 9))
  have e3 : bstr [99] = ⟨#[99]⟩ := rfl
  rw [e3] at S4 HB
  clear e1 e2 e3
  go_wp2_with fail
  refine (sscalar_any (n := 4) v S4.out rfl (by omega) (by omega) HL.out (HT.out.below (below_join B2.out HB.out)) HV.out).mono ?_
  rintro e w3 ⟨rfl, b3⟩
  go_wp2_with fail
  go_ret
  exact ⟨rfl, below_join (below_join B2.out HB.out) b3⟩
theorem powZ_nat' (a n m : Nat) (x y z : Int) (hx : x = a) (hy : y = n) (hz : z = m) (hm : 1 ≤ m) : Num.powZ x y z = ((a ^ n % m : Nat) : Int) := by
  rw [hx, hy, hz]; exact powZ_nat a n m hm
set_option maxHeartbeats 1000000 in
theorem power_any (n v p : Nat) (w : World) (hp : p = 2305843009213691579) (hn : n < 9223372036854775808) (hv : 4 ^ n % p = v) :
    Calls Tryz.prog 106 #[.int .i64 (n : Int)] w fun e w' => e = .returned (.int .i64 (v : Int)) ∧ Below w.heap.size w w' := by
  have e1 : Num.powZ 4 (n : Int) 2305843009213691579 = (v : Int) := by
    rw [powZ_nat' 4 n p 4 n 2305843009213691579 rfl rfl (by omega) (by omega), hv]
  have E1 := Lib.hid e1
  clear e1 hv hp
  go_enter Tryz.func106, Tryz.ntmps106
  go_wp2_with fail
  refine (pow_any _ _ _ _ (by omega) (by omega) (by omega) (by omega)).mono ?_
  rintro e w' ⟨rfl, hb⟩
  rw [E1.out]
  go_wp2_with fail
  go_ret
  exact ⟨rfl, hb⟩
set_option maxHeartbeats 1000000 in
/-- Text of a signature -/
theorem stext_any (r s : Int) (w : World) (hr : I64 r) (hs : I64 s) (ht : Pow10 w) :
    Calls Tryz.prog 112 #[.agg #[.int .i64 r, .int .i64 s]] w fun e w' => e = .returned (.string (bstr (Lib.itoa r ++ [46] ++ Lib.itoa s))) ∧ Below w.heap.size w w' := by
  have l1 := itoa_size hr
  have l2 := itoa_size hs
  have HR := Lib.hid hr
  have HS := Lib.hid hs
  have hb0 : Below w.heap.size w (w.alloc (.cells #[.int .i64 r, .int .i64 s] 29)) := (Below.refl _ _).alloc (Nat.le_refl _) _
  have HT := Lib.hid (ht.below hb0)
  have HB0 := Lib.hid hb0
  have RW := heap_alloc_new w (.cells #[.int .i64 r, .int .i64 s] 29)
  clear ht hb0
  obtain ⟨x1, e1⟩ : ∃ x, bstr (Lib.itoa r) = x := ⟨_, rfl⟩
  obtain ⟨x2, e2⟩ : ∃ x, bstr (Lib.itoa s) = x := ⟨_, rfl⟩
  have q1 : x1.size ≤ 21 := by rw [← e1, bstr_size]; exact l1
  have q2 : x2.size ≤ 21 := by rw [← e2, bstr_size]; exact l2
  have et : x1 ++ (⟨#[46]⟩ : ByteArray) ++ x2 = bstr (Lib.itoa r ++ [46] ++ Lib.itoa s) := by
    rw [← e1, ← e2]
    apply ByteArray.ext
    simp [bstr, ByteArray.data_append]
  rw [← et]
  have C1 := Lib.hid (fun W (h : Below (w.alloc (.cells #[.int .i64 r, .int .i64 s] 29)).heap.size (w.alloc (.cells #[.int .i64 r, .int .i64 s] 29)) W) => e1 ▸ itoa_any r W HR.out (HT.out.below h))
  have C2 := Lib.hid (fun W (h : Below (w.alloc (.cells #[.int .i64 r, .int .i64 s] 29)).heap.size (w.alloc (.cells #[.int .i64 r, .int .i64 s] 29)) W) => e2 ▸ itoa_any s W HS.out (HT.out.below h))
  clear et e1 e2 l1 l2
  have n1 : ¬ 9223372036854775807 < x1.size + 1 := by omega
  have n2 : ¬ 9223372036854775807 < x1.size + 1 + x2.size := by omega
  have c0 : (w.alloc (.cells #[.int .i64 r, .int .i64 s] 29)).cell? ⟨w.heap.size, 0, none⟩ = some (.int .i64 r) := (cell_of_row _ _ 0 _ _ _ RW).trans rfl
  have c1 : (w.alloc (.cells #[.int .i64 r, .int .i64 s] 29)).cell? ⟨w.heap.size, 1, none⟩ = some (.int .i64 s) := (cell_of_row _ _ 1 _ _ _ RW).trans rfl
  clear RW
  go_enter Tryz.func112, Tryz.ntmps112
  go_wp2_with fail
  generalize w.alloc (.cells #[.int .i64 r, .int .i64 s] 29) = W0 at *
  have c0' := cell_regrown c0
  have c1' := cell_regrown c1
  refine wp_region_quiet_below (by kernel_rfl) (by kernel_rfl) ?_
  repeat (first | go_big_quiet_step ((first | with_reducible exact Calls.regrown_of (C1.out _ (below_regrown _ _ _)) | with_reducible exact Calls.regrown_of (C2.out _ (below_regrown _ _ _)))))
  refine wpQuiet_nil ?_
  intro _ hw'
  obtain ⟨⟨dq, osq⟩, hw''⟩ := hw'
  subst hw''
  go_wp2_with fail
  go_ret
  exact ⟨rfl, HB0.out.trans ((below_regrown W0 dq osq).mono HB0.out.size)⟩
end Go.Proofs.YtpblfpnldbdncaaGreatDoor
namespace Go.Proofs.YtpblfpnldbdncaaGreatDoor
open Go.RowKit Go.Sort
set_option linter.unusedVariables false
theorem memberZ_mem (q p : Nat) (hq : q = 1152921504606845789) (hp : p = 2305843009213691579) (a : Int) : Num.memberZ a = Sg.mem q p a := by
  unfold Sg.mem
  by_cases h : 1 ≤ a ∧ a ≤ 2305843009213691578
  · rw [Num.memberZ_in a h]
    obtain ⟨n, rfl⟩ := Int.eq_ofNat_of_zero_le (show 0 ≤ a by omega)
    rw [powZ_nat' n q p n 1152921504606845789 2305843009213691579 rfl (by omega) (by omega) (by omega), decide_eq_true h, Bool.true_and, Int.toNat_natCast]
    generalize n ^ q % p = z
    rw [Bool.eq_iff_iff]
    simp only [beq_iff_eq]
    omega
  · rw [Num.memberZ_out a h, decide_eq_false h, Bool.false_and]
theorem cells_two {w : World} {b : Nat} {x y : Int} {t : TypeId} {fr : Nat × Nat} (h : w.heap[b]? = some (.cells #[.int .i64 x, .int .i64 y] t fr)) : w.cell? ⟨b, 0, none⟩ = some (.int .i64 x) ∧ w.cell? ⟨b, 1, none⟩ = some (.int .i64 y) :=
  ⟨(cell_of_row _ _ 0 _ _ _ h).trans rfl, (cell_of_row _ _ 1 _ _ _ h).trans rfl⟩
theorem mulZ_nat' (a b m : Nat) (x y z : Int) (hx : x = a) (hy : y = b) (hz : z = m) (hm : 1 ≤ m) : Num.mulZ x y z = ((a * b % m : Nat) : Int) := by
  rw [hx, hy, hz]; exact mulZ_nat a b m hm
set_option maxHeartbeats 2000000 in
theorem verify_in (r s y c q p : Nat) (t : List UInt8) (w : World) (hq : q = 1152921504606845789) (hp : p = 2305843009213691579) (my : Num.memberZ (y : Int) = true) (mr : Num.memberZ (r : Int) = true) (hs : s < q) (ht : t.length ≤ 100000) (hT : Tabs w) (hc : Sg.chal sc r y t = c) (hy : y < p) (hr : r < p)
    (b : Bool) (hb : (4 ^ s % p == r * (y ^ c % p) % p) = b) :
    Calls Tryz.prog 79 #[.int .i64 (y : Int), .string (bstr t), .agg #[.int .i64 (r : Int), .int .i64 (s : Int)]] w fun e w' => e = .returned (.bool b) ∧ Below w.heap.size w w' := by
  have hcl : c < q := by rw [← hc, hq]; exact sc_lt _
  obtain ⟨u, hu⟩ : ∃ u, 4 ^ s % p = u := ⟨_, rfl⟩
  obtain ⟨v, hv⟩ : ∃ v, y ^ c % p = v := ⟨_, rfl⟩
  obtain ⟨x, hx⟩ : ∃ x, r * v % p = x := ⟨_, rfl⟩
  have hvl : v < p := by rw [← hv]; exact Nat.mod_lt _ (by omega)
  rw [hu, hv, hx] at hb
  have E2 := Lib.hid (show Num.powZ (y : Int) (c : Int) 2305843009213691579 = (v : Int) by rw [powZ_nat' y c p y c 2305843009213691579 rfl rfl (by omega) (by omega), hv])
  have E3 := Lib.hid (show Num.mulZ (r : Int) (v : Int) 2305843009213691579 = (x : Int) by rw [mulZ_nat' r v p r v 2305843009213691579 rfl rfl (by omega) (by omega), hx])
  have hbb : ((u : Int) == (x : Int)) = b := by rw [← hb]; rw [Bool.eq_iff_iff]; simp; omega
  have CP := Lib.hid (fun W => power_any s u p W hp (by omega) hu)
  have hb0 : Below w.heap.size w (w.alloc (.cells #[.int .i64 (r : Int), .int .i64 (s : Int)] 29)) := (Below.refl _ _).alloc (Nat.le_refl _) _
  have RW := heap_alloc_new w (.cells #[.int .i64 (r : Int), .int .i64 (s : Int)] 29)
  have d1 : decide ((s : Int) < 0) = false := by simp
  have d2 : decide (1152921504606845788 < (s : Int)) = false := by simp; omega
  have d2' : decide ((s : Int) > 1152921504606845788) = false := by simp; omega
  have q1 : (r : Int) ≤ 9223372036854775807 := by omega
  have q2 : (s : Int) ≤ 9223372036854775807 := by omega
  have q3 : (y : Int) ≤ 9223372036854775807 := by omega
  have q4 : (c : Int) ≤ 9223372036854775807 := by omega
  have q5 : (v : Int) ≤ 9223372036854775807 := by omega
  have HY := Lib.hid (show y < 9223372036854775808 by omega)
  have HR := Lib.hid (show r < 9223372036854775808 by omega)
  have HC := Lib.hid hc
  have HTL := Lib.hid ht
  have HT := Lib.hid (hT.below hb0)
  have HB0 := Lib.hid hb0
  clear hu hv hx hb hcl hvl hs hy hr hq hp hT hb0 hc ht
  obtain ⟨tb, htb⟩ : ∃ tb, bstr t = tb := ⟨_, rfl⟩
  have TB := Lib.hid htb
  rw [htb]
  clear htb
  go_enter Tryz.func79, Tryz.ntmps79
  go_wp2_with fail
  generalize w.alloc (.cells #[.int .i64 (r : Int), .int .i64 (s : Int)] 29) = W0 at *
  refine (member_any _ _ (by omega) q3).mono ?_
  rintro e W1 ⟨rfl, b1⟩
  have R1 := heap_below RW b1
  obtain ⟨c0, c1⟩ := cells_two R1
  have B1 := Lib.hid b1
  clear b1 RW
  go_wp2_with fail
  refine (member_any _ _ (by omega) q1).mono ?_
  rintro e W2 ⟨rfl, b2⟩
  have R2 := heap_below R1 b2
  clear c0 c1
  obtain ⟨c0, c1⟩ := cells_two R2
  have B2 := Lib.hid (below_join B1.out b2)
  clear b2 R1
  go_wp2_with fail
  rw [← TB.out]
  refine (challenge_any r y c t _ HR.out HY.out HTL.out (HT.out.below B2.out) HC.out).mono ?_
  rintro e W3 ⟨rfl, b3⟩
  have R3 := heap_below R2 b3
  clear c0 c1
  obtain ⟨c0, c1⟩ := cells_two R3
  have c0' := cell_regrown c0
  have c1' := cell_regrown c1
  have B3 := Lib.hid (below_join B2.out b3)
  clear b3 R2 R3
  go_wp2_with fail
  refine wp_region_quiet_below (by kernel_rfl) (by kernel_rfl) ?_
  repeat (first | go_big_quiet_step ((first | with_reducible exact Calls.regrown_of (CP.out _) | (with_reducible exact Calls.regrown_of (E2.out ▸ pow_any _ _ _ _ (by omega) q3 q4 (by omega))) | (with_reducible exact Calls.regrown_of ((E3.out ▸ mul_any _ _ _ _ (by omega) q1 (by omega) q5 (by omega)).mono fun _ _ h => ⟨h.1, h.2 ▸ Below.refl _ _⟩)))))
  refine wpQuiet_nil ?_
  intro _ hw'
  obtain ⟨⟨dq, osq⟩, hw''⟩ := hw'
  subst hw''
  go_wp2_with fail
  go_ret
  exact ⟨rfl, HB0.out.trans ((B3.out.trans ((below_regrown W3 dq osq).mono B3.out.size)).mono HB0.out.size)⟩

set_option maxHeartbeats 2000000 in
theorem verify_out (r s y : Int) (s' : Value) (w : World) (hy : I64 y) (hr : I64 r) (hs : I64 s) (q : Int) (hq : q = 1152921504606845789)
    (h : Num.memberZ y = false ∨ (Num.memberZ y = true ∧ Num.memberZ r = false) ∨ (Num.memberZ y = true ∧ Num.memberZ r = true ∧ s < 0) ∨ (Num.memberZ y = true ∧ Num.memberZ r = true ∧ 0 ≤ s ∧ q ≤ s)) :
    Calls Tryz.prog 79 #[.int .i64 y, s', .agg #[.int .i64 r, .int .i64 s]] w fun e w' => e = .returned (.bool false) ∧ Below w.heap.size w w' := by
  have hb0 : Below w.heap.size w (w.alloc (.cells #[.int .i64 r, .int .i64 s] 29)) := (Below.refl _ _).alloc (Nat.le_refl _) _
  have RW := heap_alloc_new w (.cells #[.int .i64 r, .int .i64 s] 29)
  have HB0 := Lib.hid hb0
  obtain ⟨y1, y2⟩ := hy
  obtain ⟨r1, r2⟩ := hr
  obtain ⟨s1, s2⟩ := hs
  have CY := Lib.hid (fun W => member_any y W y1 y2)
  have CR := Lib.hid (fun W => member_any r W r1 r2)
  clear hb0
  rcases h with h | ⟨h, h'⟩ | ⟨h, h', h''⟩ | ⟨h, h', h'', h'''⟩
  · rw [h] at CY
    clear h
    go_enter Tryz.func79, Tryz.ntmps79
    go_wp2_with fail
    generalize w.alloc (.cells #[.int .i64 r, .int .i64 s] 29) = W0 at *
    refine (CY.out _).mono ?_
    rintro e W1 ⟨rfl, b1⟩
    go_wp2_with fail
    go_ret
    exact ⟨rfl, HB0.out.trans (b1.mono HB0.out.size)⟩
  · rw [h] at CY
    rw [h'] at CR
    clear h h'
    go_enter Tryz.func79, Tryz.ntmps79
    go_wp2_with fail
    generalize w.alloc (.cells #[.int .i64 r, .int .i64 s] 29) = W0 at *
    refine (CY.out _).mono ?_
    rintro e W1 ⟨rfl, b1⟩
    have R1 := heap_below RW b1
    obtain ⟨c0, c1⟩ := cells_two R1
    go_wp2_with fail
    refine (CR.out _).mono ?_
    rintro e W2 ⟨rfl, b2⟩
    go_wp2_with fail
    go_ret
    exact ⟨rfl, HB0.out.trans ((below_join b1 b2).mono HB0.out.size)⟩
  · rw [h] at CY
    rw [h'] at CR
    clear h h'
    have d1 : decide (s < 0) = true := by simp; omega
    go_enter Tryz.func79, Tryz.ntmps79
    go_wp2_with fail
    generalize w.alloc (.cells #[.int .i64 r, .int .i64 s] 29) = W0 at *
    refine (CY.out _).mono ?_
    rintro e W1 ⟨rfl, b1⟩
    have R1 := heap_below RW b1
    obtain ⟨c0, c1⟩ := cells_two R1
    go_wp2_with fail
    refine (CR.out _).mono ?_
    rintro e W2 ⟨rfl, b2⟩
    have R2 := heap_below R1 b2
    clear c0 c1
    obtain ⟨c0, c1⟩ := cells_two R2
    go_wp2_with fail
    go_ret
    exact ⟨rfl, HB0.out.trans ((below_join b1 b2).mono HB0.out.size)⟩
  · rw [h] at CY
    rw [h'] at CR
    clear h h'
    have d1 : decide (s < 0) = false := by simp; omega
    have d2 : decide (1152921504606845788 < s) = true := by simp; omega
    go_enter Tryz.func79, Tryz.ntmps79
    go_wp2_with fail
    generalize w.alloc (.cells #[.int .i64 r, .int .i64 s] 29) = W0 at *
    refine (CY.out _).mono ?_
    rintro e W1 ⟨rfl, b1⟩
    have R1 := heap_below RW b1
    obtain ⟨c0, c1⟩ := cells_two R1
    go_wp2_with fail
    refine (CR.out _).mono ?_
    rintro e W2 ⟨rfl, b2⟩
    have R2 := heap_below R1 b2
    clear c0 c1
    obtain ⟨c0, c1⟩ := cells_two R2
    go_wp2_with fail
    go_ret
    exact ⟨rfl, HB0.out.trans ((below_join b1 b2).mono HB0.out.size)⟩
/-- Verify answers as the plain law says -/
theorem verify_any (r s y : Int) (t : List UInt8) (w : World) (q p : Nat) (hq : q = 1152921504606845789) (hp : p = 2305843009213691579) (hy : I64 y) (hr : I64 r) (hs : I64 s) (ht : t.length ≤ 100000) (hT : Tabs w) (b : Bool) (hb : Sg.ver sc q p y t r s = b) :
    Calls Tryz.prog 79 #[.int .i64 y, .string (bstr t), .agg #[.int .i64 r, .int .i64 s]] w fun e w' => e = .returned (.bool b) ∧ Below w.heap.size w w' := by
  unfold Sg.ver at hb
  rw [← memberZ_mem q p hq hp, ← memberZ_mem q p hq hp] at hb
  cases h1 : Num.memberZ y with
  | false =>
    rw [h1] at hb
    have e : b = false := by rw [← hb]; rfl
    subst e
    exact verify_out r s y _ w hy hr hs q (by omega) (.inl h1)
  | true =>
    cases h2 : Num.memberZ r with
    | false =>
      rw [h1, h2] at hb
      have e : b = false := by rw [← hb]; rfl
      subst e
      exact verify_out r s y _ w hy hr hs q (by omega) (.inr (.inl ⟨h1, h2⟩))
    | true =>
      rw [h1, h2] at hb
      by_cases h3 : 0 ≤ s
      · by_cases h4 : s < (q : Int)
        · have m1 : 1 ≤ y ∧ y ≤ 2305843009213691578 := by
            by_cases h : 1 ≤ y ∧ y ≤ 2305843009213691578
            · exact h
            · rw [Num.memberZ_out y h] at h1; cases h1
          have m2 : 1 ≤ r ∧ r ≤ 2305843009213691578 := by
            by_cases h : 1 ≤ r ∧ r ≤ 2305843009213691578
            · exact h
            · rw [Num.memberZ_out r h] at h2; cases h2
          obtain ⟨yn, rfl⟩ := Int.eq_ofNat_of_zero_le (show 0 ≤ y by omega)
          obtain ⟨rn, rfl⟩ := Int.eq_ofNat_of_zero_le (show 0 ≤ r by omega)
          obtain ⟨sn, rfl⟩ := Int.eq_ofNat_of_zero_le h3
          rw [decide_eq_true h3, decide_eq_true h4] at hb
          simp only [Bool.true_and, Int.toNat_natCast] at hb
          exact verify_in rn sn yn _ q p t w hq hp h1 h2 (by omega) ht hT rfl (by omega) (by omega) b hb
        · have e : b = false := by rw [← hb, decide_eq_false h4]; simp
          subst e
          exact verify_out r s y _ w hy hr hs q (by omega) (.inr (.inr (.inr ⟨h1, h2, h3, by omega⟩)))
      · have e : b = false := by rw [← hb, decide_eq_false h3]; simp
        subst e
        exact verify_out r s y _ w hy hr hs q (by omega) (.inr (.inr (.inl ⟨h1, h2, by omega⟩)))
end Go.Proofs.YtpblfpnldbdncaaGreatDoor
namespace Go.Proofs.YtpblfpnldbdncaaGreatDoor
open Go.RowKit Go.Sort
open Sg (Rc)
set_option linter.unusedVariables false
theorem hex_text (l : List UInt8) : Sg.hex l = Sha.text l := rfl
theorem strsN (w : World) (xs : List (List UInt8)) (T : TypeId) : StrsAt (w.alloc (.cells (xs.map fun x => Value.string (bstr x)).toArray T)) w.heap.size xs :=
  ⟨by simp, fun j x hx => by
    have hr := heap_alloc_new w (.cells (xs.map fun x => Value.string (bstr x)).toArray T)
    rw [cell_of_row _ _ j _ _ _ hr, List.getElem?_toArray, List.getElem?_map, hx]
    rfl⟩
set_option maxHeartbeats 1000000 in
theorem ejoin_any {w : World} {g n c : Nat} {xs : List (List UInt8)} (r : List UInt8) (h : StrsAt w g xs) (hn : xs.length = n) (hN : n ≤ 100) (hcap : n ≤ c) (hlen : r.length ≤ 1000000) (hr : Lib.join xs [32] = r) :
    Calls Tryz.prog 109 #[.slice (some ⟨g, 0, none⟩) n c] w fun e w' => e = .returned (.string (bstr r)) ∧ Below w.heap.size w w' := by
  have CJ := Lib.hid (join_on (⟨#[32]⟩ : ByteArray) r h hn hN hcap hr (by omega))
  clear h hn hN hcap hlen hr
  go_enter Tryz.func109, Tryz.ntmps109
  go_wp2_with fail
  refine CJ.out.mono ?_
  rintro e w1 ⟨rfl, b1⟩
  go_wp2_with fail
  go_ret
  exact ⟨rfl, b1⟩
def bodyWords (c : Rc) : List (List UInt8) := [[114, 101, 99, 101, 105, 112, 116], Lib.itoa c.kiosk, Lib.itoa c.serial, Lib.itoa c.seen, Sg.hex c.output, Sg.hex c.hash, Sg.hex c.prev, c.draw]
theorem body_words (c : Rc) : Lib.join (bodyWords c) [32] = c.body := by
  simp [bodyWords, Lib.join, Rc.body]
theorem hex_length (l : List UInt8) : (Sg.hex l).length = 2 * l.length := by rw [hex_text]; exact text_length l
theorem body_length {c : Rc} (hc : RcOk c) : c.body.length ≤ 2000 := by
  have h1 := itoa_size hc.kiosk
  have h2 := itoa_size hc.serial
  have h3 := itoa_size hc.seen
  have h4 := hc.draw
  simp only [Rc.body, List.length_append, hex_length, hc.output, hc.hash, hc.prev, List.length_cons, List.length_nil]
  omega
theorem text_length' {c : Rc} (hc : RcOk c) : c.text.length ≤ 3000 := by
  have h1 := itoa_size hc.r
  have h2 := itoa_size hc.s
  have h4 := body_length hc
  simp only [Rc.text, List.length_append, List.length_cons, List.length_nil]
  omega
theorem rc_block_lt {w : World} {b : Nat} {o : Obj} (h : w.heap[b]? = some o) : b < w.heap.size := by
  rcases Nat.lt_or_ge b w.heap.size with hl | hl
  · exact hl
  · rw [Array.getElem?_eq_none hl] at h; cases h
set_option maxHeartbeats 4000000 in
set_option maxRecDepth 100000 in
theorem body_any (c : Rc) (hc : RcOk c) (w : World) (ht : Pow10 w) :
    Calls Tryz.prog 80 #[.agg (rcArr c)] w fun e w' => e = .returned (.string (bstr c.body)) ∧ Below w.heap.size w w' := by
  have hb0 : Below w.heap.size w (w.alloc (.cells (rcArr c) 31)) := (Below.refl _ _).alloc (Nat.le_refl _) _
  have RW := heap_alloc_new w (.cells (rcArr c) 31)
  have HB0 := Lib.hid hb0
  have HT := Lib.hid (ht.below hb0)
  have at0 := RcAt.of_row RW
  have lt0 := rc_block_lt RW
  generalize hW : w.alloc (.cells (rcArr c) 31) = W0 at *
  have HW := Lib.hid hW
  have k0 := cell_regrown at0.kiosk
  have k1 := cell_regrown at0.serial
  have k2 := cell_regrown at0.draw
  have k3 := cell_regrown at0.seen
  have l1 := Lib.hid (load_hash_re hc.output at0.output lt0)
  have l2 := Lib.hid (load_hash_re hc.hash (at0.hash hc) lt0)
  have l3 := Lib.hid (load_hash_re hc.prev (at0.prev hc) lt0)
  rw [Nat.zero_add] at k1 k2 k3 l1 l2 l3
  obtain ⟨x1, e1⟩ : ∃ x, bstr (Lib.itoa c.kiosk) = x := ⟨_, rfl⟩
  obtain ⟨x2, e2⟩ : ∃ x, bstr (Lib.itoa c.serial) = x := ⟨_, rfl⟩
  obtain ⟨x3, e3⟩ : ∃ x, bstr (Lib.itoa c.seen) = x := ⟨_, rfl⟩
  obtain ⟨x4, e4⟩ : ∃ x, bstr (Sg.hex c.output) = x := ⟨_, rfl⟩
  obtain ⟨x5, e5⟩ : ∃ x, bstr (Sg.hex c.hash) = x := ⟨_, rfl⟩
  obtain ⟨x6, e6⟩ : ∃ x, bstr (Sg.hex c.prev) = x := ⟨_, rfl⟩
  obtain ⟨x7, e7⟩ : ∃ x, bstr c.draw = x := ⟨_, rfl⟩
  have C1 := Lib.hid (fun W (h : Below W0.heap.size W0 W) => e1 ▸ itoa_any c.kiosk W hc.kiosk (HT.out.below h))
  have C2 := Lib.hid (fun W (h : Below W0.heap.size W0 W) => e2 ▸ itoa_any c.serial W hc.serial (HT.out.below h))
  have C3 := Lib.hid (fun W (h : Below W0.heap.size W0 W) => e3 ▸ itoa_any c.seen W hc.seen (HT.out.below h))
  have C4 := Lib.hid (fun W => show Calls Tryz.prog 62 #[.agg (hashArr c.output)] W fun e w' => e = .returned (.string x4) ∧ Below W.heap.size W w' from e4 ▸ text_any c.output hc.output W)
  have C5 := Lib.hid (fun W => show Calls Tryz.prog 62 #[.agg (hashArr c.hash)] W fun e w' => e = .returned (.string x5) ∧ Below W.heap.size W w' from e5 ▸ text_any c.hash hc.hash W)
  have C6 := Lib.hid (fun W => show Calls Tryz.prog 62 #[.agg (hashArr c.prev)] W fun e w' => e = .returned (.string x6) ∧ Below W.heap.size W w' from e6 ▸ text_any c.prev hc.prev W)
  have SW : Hid (∀ W : World, StrsAt (W.alloc (.cells #[.string ⟨#[114, 101, 99, 101, 105, 112, 116]⟩, .string x1, .string x2, .string x3, .string x4, .string x5, .string x6, .string x7] 9)) W.heap.size (bodyWords c)) := by
    intro W
    rw [← e1, ← e2, ← e3, ← e4, ← e5, ← e6, ← e7]
    exact strsN W (bodyWords c) 9
  have WL := Lib.hid (body_length hc)
  have WD := Lib.hid (body_words c)
  rw [e7] at k2
  clear at0 hb0 ht RW hW e1 e2 e3 e4 e5 e6 e7
  go_enter Tryz.func80, Tryz.ntmps80
  go_wp2_with fail
  rw [HW.out]
  refine wp_region_tail_below 20 (by kernel_rfl) (by kernel_rfl) ?_
  simp only [List.take_succ_cons, List.take_zero, List.drop_succ_cons, List.drop_zero]
  repeat (first
    | (refine quiet_load_row (by rfl) _ (.tmp 12) rfl _ _ rfl _ l1.out ?_; simp only [Act.put, List.setIfInBounds_toArray, List.set_cons_zero, List.set_cons_succ])
    | (refine quiet_load_row (by rfl) _ (.tmp 15) rfl _ _ rfl _ l2.out ?_; simp only [Act.put, List.setIfInBounds_toArray, List.set_cons_zero, List.set_cons_succ])
    | (refine quiet_load_row (by rfl) _ (.tmp 18) rfl _ _ rfl _ l3.out ?_; simp only [Act.put, List.setIfInBounds_toArray, List.set_cons_zero, List.set_cons_succ])
    | go_big_quiet_step ((first | with_reducible exact Calls.regrown_of (C1.out _ (below_regrown _ _ _)) | with_reducible exact Calls.regrown_of (C2.out _ (below_regrown _ _ _)) | with_reducible exact Calls.regrown_of (C3.out _ (below_regrown _ _ _)) | with_reducible exact Calls.regrown_of (C4.out _) | with_reducible exact Calls.regrown_of (C5.out _) | with_reducible exact Calls.regrown_of (C6.out _))))
  refine wpQuiet_nil ?_
  intro _ hw'
  obtain ⟨⟨dq, osq⟩, hw''⟩ := hw'
  subst hw''
  have HQ := Lib.hid (HB0.out.trans ((below_regrown W0 dq osq).mono HB0.out.size))
  clear k0 k1 k2 k3
  generalize grow (redrawn W0 dq) osq = W1 at *
  have HB := Lib.hid ((Below.refl W1.heap.size W1).alloc (Nat.le_refl _) (.cells #[.string ⟨#[114, 101, 99, 101, 105, 112, 116]⟩, .string x1, .string x2, .string x3, .string x4, .string x5, .string x6, .string x7] 9))
  have S8 := Lib.hid (SW.out W1)
  go_wp2_with fail
  refine (ejoin_any (n := 8) c.body S8.out rfl (by omega) (by omega) (by have := WL.out; omega) WD.out).mono ?_
  rintro e w3 ⟨rfl, b3⟩
  go_wp2_with fail
  go_ret
  exact ⟨rfl, below_join HQ.out (below_join HB.out b3)⟩
theorem text_words (c : Rc) : Lib.join [Lib.itoa c.r ++ [46] ++ Lib.itoa c.s, c.body] [32] = c.text := by
  simp [Lib.join, Rc.text]
set_option maxHeartbeats 4000000 in
set_option maxRecDepth 100000 in
theorem etext_any (c : Rc) (hc : RcOk c) (w : World) (ht : Pow10 w) :
    Calls Tryz.prog 84 #[.agg (rcArr c)] w fun e w' => e = .returned (.string (bstr c.text)) ∧ Below w.heap.size w w' := by
  have hb0 : Below w.heap.size w (w.alloc (.cells (rcArr c) 31)) := (Below.refl _ _).alloc (Nat.le_refl _) _
  have RW := heap_alloc_new w (.cells (rcArr c) 31)
  have HB0 := Lib.hid hb0
  have HT := Lib.hid (ht.below hb0)
  have at0 := RcAt.of_row RW
  have lt0 := rc_block_lt RW
  generalize hW : w.alloc (.cells (rcArr c) 31) = W0 at *
  have HW := Lib.hid hW
  have sg := at0.sig hc
  rw [Nat.zero_add, Nat.zero_add] at sg
  have l1 := Lib.hid (load_sig_re sg.1 sg.2 lt0)
  have l2 := Lib.hid (load_rc_re hc at0 lt0)
  obtain ⟨x1, e1⟩ : ∃ x, bstr (Lib.itoa c.r ++ [46] ++ Lib.itoa c.s) = x := ⟨_, rfl⟩
  obtain ⟨x2, e2⟩ : ∃ x, bstr c.body = x := ⟨_, rfl⟩
  have C1 := Lib.hid (fun W (h : Below W0.heap.size W0 W) => e1 ▸ stext_any c.r c.s W hc.r hc.s (HT.out.below h))
  have C2 := Lib.hid (fun W (h : Below W0.heap.size W0 W) => e2 ▸ body_any c hc W (HT.out.below h))
  have SW : Hid (∀ W : World, StrsAt (W.alloc (.cells #[.string x1, .string x2] 9)) W.heap.size [Lib.itoa c.r ++ [46] ++ Lib.itoa c.s, c.body]) := by
    intro W
    rw [← e1, ← e2]
    exact strsN W [Lib.itoa c.r ++ [46] ++ Lib.itoa c.s, c.body] 9
  have WL := Lib.hid (text_length' hc)
  have WD := Lib.hid (text_words c)
  clear at0 hb0 ht RW hW e1 e2 sg
  go_enter Tryz.func84, Tryz.ntmps84
  go_wp2_with fail
  rw [HW.out]
  refine wp_region_tail_below 5 (by kernel_rfl) (by kernel_rfl) ?_
  simp only [List.take_succ_cons, List.take_zero, List.drop_succ_cons, List.drop_zero]
  repeat (first
    | (refine quiet_load_row (by rfl) _ (.tmp 3) rfl _ _ rfl _ l1.out ?_; simp only [Act.put, List.setIfInBounds_toArray, List.set_cons_zero, List.set_cons_succ])
    | (refine quiet_load_row (by rfl) _ (.tmp 1) rfl _ _ rfl _ l2.out ?_; simp only [Act.put, List.setIfInBounds_toArray, List.set_cons_zero, List.set_cons_succ])
    | go_big_quiet_step ((first | with_reducible exact Calls.regrown_of (C1.out _ (below_regrown _ _ _)) | with_reducible exact Calls.regrown_of (C2.out _ (below_regrown _ _ _)))))
  refine wpQuiet_nil ?_
  intro _ hw'
  obtain ⟨⟨dq, osq⟩, hw''⟩ := hw'
  subst hw''
  have HQ := Lib.hid (HB0.out.trans ((below_regrown W0 dq osq).mono HB0.out.size))
  generalize grow (redrawn W0 dq) osq = W1 at *
  have HB := Lib.hid ((Below.refl W1.heap.size W1).alloc (Nat.le_refl _) (.cells #[.string x1, .string x2] 9))
  have S8 := Lib.hid (SW.out W1)
  go_wp2_with fail
  refine (ejoin_any (n := 2) c.text S8.out rfl (by omega) (by omega) (by have := WL.out; omega) WD.out).mono ?_
  rintro e w3 ⟨rfl, b3⟩
  go_wp2_with fail
  go_ret
  exact ⟨rfl, below_join HQ.out (below_join HB.out b3)⟩
attribute [local go_sem ↓] wp_alloc_h
/-- the hash of a receipt's text -/
def rch (c : Rc) : List UInt8 := Sha.sum c.text
theorem rch_length (c : Rc) : (rch c).length = 32 := Sha.sum_length _
set_option maxHeartbeats 4000000 in
set_option maxRecDepth 100000 in
theorem ehash_any (c : Rc) (hc : RcOk c) (w : World) (ht : Pow10 w) (hT : Tabs w) :
    Calls Tryz.prog 64 #[.agg (rcArr c)] w fun e w' => e = .returned (.agg (hashArr (rch c))) ∧ Below w.heap.size w w' := by
  obtain ⟨h, hh⟩ : ∃ h, rch c = h := ⟨_, rfl⟩
  have hl : h.length = 32 := by rw [← hh]; exact rch_length c
  have hb0 : Below w.heap.size w ((w.alloc (.cells (rcArr c) 31)).alloc (.cells (hashArr Mg.zeroH) 27)) := ((Below.refl _ _).alloc (Nat.le_refl _) _).alloc (by simp) _
  have RW := heap_alloc2_old w (.cells (rcArr c) 31) (.cells (hashArr Mg.zeroH) 27)
  have RH := heap_alloc2_new w (.cells (rcArr c) 31) (.cells (hashArr Mg.zeroH) 27)
  have HB0 := Lib.hid hb0
  have CT := Lib.hid (etext_any c hc ((w.alloc (.cells (rcArr c) 31)).alloc (.cells (hashArr Mg.zeroH) 27)) (ht.below hb0))
  have HT := Lib.hid (hT.below hb0)
  have HR := Lib.hid RW
  have HH := Lib.hid RH
  have EH := Lib.hid (show Sha.sum (bstr c.text).data.toList = h from hh)
  have WL := Lib.hid (show (bstr c.text).size ≤ 140737488355000 by rw [bstr_size]; have := text_length' hc; omega)
  have RI := Lib.hid (rc_info hc)
  have HL := Lib.hid hl
  rw [hh]
  clear hb0 RW RH ht hT hh hl
  obtain ⟨tx, htx⟩ : ∃ tx, bstr c.text = tx := ⟨_, rfl⟩
  rw [htx] at CT EH WL
  clear htx
  go_enter Tryz.func64, Tryz.ntmps64
  go_wp2_with (refine wpList_load_row rfl 31 (.tmp 1) rfl w.heap.size rfl 31 (rcArr c) (0, 0) _ HR.out Tryz.underlying31 rfl RI.out ?_)
  generalize (w.alloc (.cells (rcArr c) 31)).alloc (.cells (hashArr Mg.zeroH) 27) = W0 at *
  refine CT.out.mono ?_
  rintro e w1 ⟨rfl, b1⟩
  have B1 := Lib.hid b1
  clear b1
  go_wp2_with fail
  refine (sum_is _ h _ WL.out (HT.out.below B1.out) EH.out).mono ?_
  rintro e w2 ⟨rfl, b2⟩
  have B2 := Lib.hid (below_join B1.out b2)
  have BA1 := Lib.hid (heap_below HH.out B2.out)
  clear b2
  go_wp2_with (refine wpList_store_row rfl 27 (.tmp 2) (.tmp 5) rfl (w.heap.size + 1) (hashArr h) rfl rfl 27 _ BA1.out (hash_info _ HL.out) (by rw [hashArr_size, hashArr_size, HL.out]; rfl) (hashArr_one _) ?_)
  refine bodyPost_ret (v := .agg (hashArr h)) (results_cell_row Tryz.results64 _ _ (w.heap.size + 1) 27 (hashArr h) (0, 0) _ rfl (setRow_heap _ _ _ _ _ _ BA1.out) Tryz.underlying27 rfl (hash_info _ HL.out)) rfl ⟨rfl, ?_⟩
  exact below_setRow (HB0.out.trans (B2.out.mono HB0.out.size)) (by omega) _
set_option maxHeartbeats 4000000 in
set_option maxRecDepth 100000 in
theorem everify_any (y : Int) (c : Rc) (hc : RcOk c) (hy : I64 y) (w : World) (ht : Pow10 w) (hT : Tabs w) (q p : Nat) (hq : q = 1152921504606845789) (hp : p = 2305843009213691579) (b : Bool) (hb : Sg.ver sc q p y c.body c.r c.s = b) :
    Calls Tryz.prog 41 #[.int .i64 y, .agg (rcArr c)] w fun e w' => e = .returned (.bool b) ∧ Below w.heap.size w w' := by
  have hb0 : Below w.heap.size w (w.alloc (.cells (rcArr c) 31)) := (Below.refl _ _).alloc (Nat.le_refl _) _
  have RW := heap_alloc_new w (.cells (rcArr c) 31)
  have HB0 := Lib.hid hb0
  have HT := Lib.hid (ht.below hb0)
  have HTT := Lib.hid (hT.below hb0)
  have at0 := RcAt.of_row RW
  have lt0 := rc_block_lt RW
  generalize hW : w.alloc (.cells (rcArr c) 31) = W0 at *
  have HW := Lib.hid hW
  have sg := at0.sig hc
  rw [Nat.zero_add, Nat.zero_add] at sg
  have l1 := Lib.hid (load_sig_re sg.1 sg.2 lt0)
  have l2 := Lib.hid (load_rc_re hc at0 lt0)
  have bl := body_length hc
  obtain ⟨x2, e2⟩ : ∃ x, bstr c.body = x := ⟨_, rfl⟩
  have C1 := Lib.hid (fun W (h : Below W0.heap.size W0 W) => e2 ▸ verify_any c.r c.s y c.body W q p hq hp hy hc.r hc.s (by omega) (HTT.out.below h) b hb)
  have C2 := Lib.hid (fun W (h : Below W0.heap.size W0 W) => e2 ▸ body_any c hc W (HT.out.below h))
  clear at0 hb0 ht hT RW hW e2 sg hb hq hp
  go_enter Tryz.func41, Tryz.ntmps41
  go_wp2_with fail
  rw [HW.out]
  refine wp_region_quiet_below (by kernel_rfl) (by kernel_rfl) ?_
  repeat (first
    | (refine quiet_load_row (by rfl) _ (.tmp 8) rfl _ _ rfl _ l1.out ?_; simp only [Act.put, List.setIfInBounds_toArray, List.set_cons_zero, List.set_cons_succ])
    | (refine quiet_load_row (by rfl) _ (.tmp 3) rfl _ _ rfl _ l2.out ?_; simp only [Act.put, List.setIfInBounds_toArray, List.set_cons_zero, List.set_cons_succ])
    | go_big_quiet_step ((first | with_reducible exact Calls.regrown_of (C1.out _ (below_regrown _ _ _)) | with_reducible exact Calls.regrown_of (C2.out _ (below_regrown _ _ _)))))
  refine wpQuiet_nil ?_
  intro _ hw'
  obtain ⟨⟨dq, osq⟩, hw''⟩ := hw'
  subst hw''
  go_wp2_with fail
  go_ret
  exact ⟨rfl, HB0.out.trans ((below_regrown W0 dq osq).mono HB0.out.size)⟩
end Go.Proofs.YtpblfpnldbdncaaGreatDoor
namespace Go.Proofs.YtpblfpnldbdncaaGreatDoor
open Go.RowKit Go.Sort
open Sg (Rc)
set_option linter.unusedVariables false
def putCells : Array Value → Nat → List Value → Array Value
  | cs, _, [] => cs
  | cs, o, v :: r => putCells (cs.setIfInBounds o v) (o + 1) r
theorem putCells_size : ∀ (vs : List Value) (cs : Array Value) (o : Nat), (putCells cs o vs).size = cs.size
  | [], _, _ => rfl
  | v :: r, cs, o => by rw [putCells, putCells_size r]; simp
theorem putCells_get : ∀ (vs : List Value) (cs : Array Value) (o k : Nat), (putCells cs o vs)[k]? = if o ≤ k ∧ k < o + vs.length ∧ k < cs.size then vs[k - o]? else cs[k]?
  | [], cs, o, k => by rw [putCells, if_neg (by simp; omega)]
  | v :: r, cs, o, k => by
    rw [putCells, putCells_get r, Array.getElem?_setIfInBounds, Array.size_setIfInBounds, List.length_cons]
    by_cases h1 : k = o
    · subst h1
      rw [if_neg (by omega)]
      by_cases h2 : k < cs.size
      · rw [if_pos rfl, if_pos h2, if_pos (by omega), show k - k = 0 by omega]; rfl
      · rw [if_pos rfl, if_neg h2, if_neg (by omega), Array.getElem?_eq_none (by omega)]
    · rw [if_neg (Ne.symm h1)]
      by_cases h2 : o + 1 ≤ k ∧ k < o + 1 + r.length ∧ k < cs.size
      · rw [if_pos h2, if_pos (by omega), show k - o = (k - (o + 1)) + 1 by omega]; rfl
      · rw [if_neg h2, if_neg (by omega)]
theorem heap_setCell_at {w : World} {g o : Nat} {cs : Array Value} {t : TypeId} {fr : Nat × Nat} (h : w.heap[g]? = some (.cells cs t fr)) (v : Value) : (w.setCell ⟨g, o, none⟩ v).heap[g]? = some (.cells (cs.setIfInBounds o v) t fr) := by
  have hlt := rc_block_lt h
  have h' : w.heap[g] = .cells cs t fr := by simpa [Array.getElem?_eq_getElem hlt] using h
  show (w.heap.modify g _)[g]? = _
  rw [Array.getElem?_eq_getElem (by simpa using hlt), Array.getElem_modify_self, h']
  rfl
theorem heap_setCells_at {g : Nat} {t : TypeId} {fr : Nat × Nat} : ∀ (vs : List Value) (o : Nat) (w : World) (cs : Array Value), w.heap[g]? = some (.cells cs t fr) → (w.setCells g o vs).heap[g]? = some (.cells (putCells cs o vs) t fr)
  | [], _, _, _, h => h
  | v :: r, o, w, cs, h => heap_setCells_at r (o + 1) _ _ (heap_setCell_at h v)
theorem heap_setCells_ne {g k : Nat} (hk : k ≠ g) : ∀ (vs : List Value) (o : Nat) (w : World), (w.setCells g o vs).heap[k]? = w.heap[k]?
  | [], _, _ => rfl
  | v :: r, o, w => (heap_setCells_ne hk r (o + 1) _).trans (Below.heap_setCell _ _ _ _ hk)
theorem there_of_row {w : World} {g : Nat} {cs : Array Value} {t : TypeId} (hg : w.heap[g]? = some (.cells cs t (0, 0))) (o n : Nat) (h : o + n ≤ cs.size) : w.there g o n := by
  intro j hj
  refine ⟨?_, ?_⟩
  · rw [cell_of_row _ _ (o + j) _ _ _ hg, Array.getElem?_eq_getElem (by omega)]; rfl
  · simp [World.frozen?, hg]
theorem putCells_mid (pre mid post vs : List Value) (h : vs.length = mid.length) (o : Nat) (ho : o = pre.length) : putCells (pre ++ (mid ++ post)).toArray o vs = (pre ++ (vs ++ post)).toArray := by
  subst ho
  apply Array.ext_getElem?
  intro k
  rw [putCells_get, List.size_toArray, List.length_append, List.length_append, List.getElem?_toArray, List.getElem?_toArray]
  by_cases h1 : k < pre.length
  · rw [if_neg (by omega), List.getElem?_append_left h1, List.getElem?_append_left h1]
  · have e1 : (pre ++ (vs ++ post))[k]? = (vs ++ post)[k - pre.length]? := List.getElem?_append_right (by omega)
    have e2 : (pre ++ (mid ++ post))[k]? = (mid ++ post)[k - pre.length]? := List.getElem?_append_right (by omega)
    rw [e1, e2]
    by_cases h2 : k - pre.length < vs.length
    · rw [if_pos (by omega), List.getElem?_append_left h2]
    · have e3 : (vs ++ post)[k - pre.length]? = post[k - pre.length - vs.length]? := List.getElem?_append_right (by omega)
      have e4 : (mid ++ post)[k - pre.length]? = post[k - pre.length - mid.length]? := List.getElem?_append_right (by omega)
      rw [if_neg (by omega), e3, e4, h]
theorem set_mid (pre post : List Value) (a v : Value) (o : Nat) (ho : o = pre.length) : (pre ++ a :: post).toArray.setIfInBounds o v = (pre ++ v :: post).toArray := putCells_mid pre [a] post [v] rfl o ho
theorem below_setCells {B b : Nat} : ∀ (vs : List Value) (o : Nat) {w w' : World}, Below B w w' → B ≤ b → Below B w (w'.setCells b o vs)
  | [], _, _, _, h, _ => h
  | v :: r, o, _, _, h, hb => below_setCells r (o + 1) (h.setCell (p := ⟨b, o, none⟩) hb v) hb
theorem rc_put_sig {c : Rc} (hc : RcOk c) (x y : Int) : putCells (rcArr c) 100 [.int .i64 x, .int .i64 y] = rcArr { c with r := x, s := y } := by
  have l0 : ([.int .i64 c.kiosk, .int .i64 c.serial, .string (bstr c.draw), .int .i64 c.seen] ++ (hcl c.output ++ (hcl c.hash ++ hcl c.prev)) : List Value).length = 100 := by
    simp only [List.length_append, hcl_length, hc.output, hc.hash, hc.prev, List.length_cons, List.length_nil]
  have := putCells_mid ([.int .i64 c.kiosk, .int .i64 c.serial, .string (bstr c.draw), .int .i64 c.seen] ++ (hcl c.output ++ (hcl c.hash ++ hcl c.prev))) [.int .i64 c.r, .int .i64 c.s] [] [.int .i64 x, .int .i64 y] rfl 100 l0.symm
  simp only [List.append_nil, List.append_assoc] at this
  exact this
theorem rc_put_output {c : Rc} (hc : RcOk c) (h : List UInt8) (hl : h.length = 32) : putCells (rcArr c) 4 (hcl h) = rcArr { c with output := h } := by
  have := putCells_mid [.int .i64 c.kiosk, .int .i64 c.serial, .string (bstr c.draw), .int .i64 c.seen] (hcl c.output) (hcl c.hash ++ (hcl c.prev ++ [.int .i64 c.r, .int .i64 c.s])) (hcl h) (by rw [hcl_length, hcl_length, hc.output, hl]) 4 rfl
  exact this
theorem rc_put_hash {c : Rc} (hc : RcOk c) (h : List UInt8) (hl : h.length = 32) : putCells (rcArr c) 36 (hcl h) = rcArr { c with hash := h } := by
  have l0 : ([.int .i64 c.kiosk, .int .i64 c.serial, .string (bstr c.draw), .int .i64 c.seen] ++ hcl c.output : List Value).length = 36 := by
    simp only [List.length_append, hcl_length, hc.output, List.length_cons, List.length_nil]
  have := putCells_mid ([.int .i64 c.kiosk, .int .i64 c.serial, .string (bstr c.draw), .int .i64 c.seen] ++ hcl c.output) (hcl c.hash) (hcl c.prev ++ [.int .i64 c.r, .int .i64 c.s]) (hcl h) (by rw [hcl_length, hcl_length, hc.hash, hl]) 36 l0.symm
  simp only [List.append_assoc] at this
  exact this
theorem hcl_split (l : List UInt8) (k : Nat) (hk : k < l.length) (b : UInt8) : hcl l = hcl (l.take k) ++ .int .u8 (l[k].toNat : Int) :: hcl (l.drop (k + 1)) ∧ hcl (l.set k b) = hcl (l.take k) ++ .int .u8 (b.toNat : Int) :: hcl (l.drop (k + 1)) := by
  constructor
  · have e : l = l.take k ++ l[k] :: l.drop (k + 1) := by rw [← List.drop_eq_getElem_cons hk, List.take_append_drop]
    have e2 : hcl l = hcl (l.take k ++ l[k] :: l.drop (k + 1)) := congrArg hcl e
    rw [e2]
    simp only [hcl, List.map_append, List.map_cons]
  · rw [List.set_eq_take_append_cons_drop, if_pos hk]
    simp only [hcl, List.map_append, List.map_cons]
/-- one byte of a hash of a receipt -/
theorem rc_set_output {c : Rc} (hc : RcOk c) (k : Nat) (hk : k < 32) (b : UInt8) : (rcArr c).setIfInBounds (4 + k) (.int .u8 (b.toNat : Int)) = rcArr { c with output := c.output.set k b } := by
  obtain ⟨e1, e2⟩ := hcl_split c.output k (by rw [hc.output]; exact hk) b
  have := set_mid ([.int .i64 c.kiosk, .int .i64 c.serial, .string (bstr c.draw), .int .i64 c.seen] ++ hcl (c.output.take k)) (hcl (c.output.drop (k + 1)) ++ (hcl c.hash ++ (hcl c.prev ++ [.int .i64 c.r, .int .i64 c.s]))) (.int .u8 ((c.output[k]'(by rw [hc.output]; exact hk)).toNat : Int)) (.int .u8 (b.toNat : Int)) (4 + k) (by simp [hcl_length, hc.output]; omega)
  simp only [rcArr, rcList, e1, e2]
  simp only [List.append_assoc, List.cons_append] at this ⊢
  exact this
theorem rc_set_hash {c : Rc} (hc : RcOk c) (k : Nat) (hk : k < 32) (b : UInt8) : (rcArr c).setIfInBounds (36 + k) (.int .u8 (b.toNat : Int)) = rcArr { c with hash := c.hash.set k b } := by
  obtain ⟨e1, e2⟩ := hcl_split c.hash k (by rw [hc.hash]; exact hk) b
  have := set_mid ([.int .i64 c.kiosk, .int .i64 c.serial, .string (bstr c.draw), .int .i64 c.seen] ++ (hcl c.output ++ hcl (c.hash.take k))) (hcl (c.hash.drop (k + 1)) ++ (hcl c.prev ++ [.int .i64 c.r, .int .i64 c.s])) (.int .u8 ((c.hash[k]'(by rw [hc.hash]; exact hk)).toNat : Int)) (.int .u8 (b.toNat : Int)) (36 + k) (by simp [hcl_length, hc.output, hc.hash]; omega)
  simp only [rcArr, rcList, e1, e2]
  simp only [List.append_assoc, List.cons_append] at this ⊢
  exact this
theorem rc_set_prev {c : Rc} (hc : RcOk c) (k : Nat) (hk : k < 32) (b : UInt8) : (rcArr c).setIfInBounds (68 + k) (.int .u8 (b.toNat : Int)) = rcArr { c with prev := c.prev.set k b } := by
  obtain ⟨e1, e2⟩ := hcl_split c.prev k (by rw [hc.prev]; exact hk) b
  have := set_mid ([.int .i64 c.kiosk, .int .i64 c.serial, .string (bstr c.draw), .int .i64 c.seen] ++ (hcl c.output ++ (hcl c.hash ++ hcl (c.prev.take k)))) (hcl (c.prev.drop (k + 1)) ++ [.int .i64 c.r, .int .i64 c.s]) (.int .u8 ((c.prev[k]'(by rw [hc.prev]; exact hk)).toNat : Int)) (.int .u8 (b.toNat : Int)) (68 + k) (by simp [hcl_length, hc.output, hc.hash, hc.prev]; omega)
  simp only [rcArr, rcList, e1, e2]
  simp only [List.append_assoc, List.cons_append] at this ⊢
  exact this
theorem rc_set_serial (c : Rc) (n : Int) : (rcArr c).setIfInBounds 1 (.int .i64 n) = rcArr { c with serial := n } := rfl
theorem rc_set_draw (c : Rc) (s : List UInt8) : (rcArr c).setIfInBounds 2 (.string (bstr s)) = rcArr { c with draw := s } := rfl
theorem rc_set_seen (c : Rc) (n : Int) : (rcArr c).setIfInBounds 3 (.int .i64 n) = rcArr { c with seen := n } := rfl
end Go.Proofs.YtpblfpnldbdncaaGreatDoor
