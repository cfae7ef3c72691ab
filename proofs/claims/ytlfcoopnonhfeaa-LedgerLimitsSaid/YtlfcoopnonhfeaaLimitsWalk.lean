/- The walk of the law LedgerLimits. -/
import Derived.Test.YtlfcoopnonhfeaaLedSan
import Derived.Test.YtlfcoopnonhfeaaBytes
import Derived.Laws.MakeOwn
import Derived.IntWalk
import Derived.WalkSpells
namespace Go.Proofs.Ytlfcoopnonhfeaa
open Go.RowKit Go.Sort Go.Maps
set_option linter.unusedVariables false
theorem indexByte_mem (l : List UInt8) (c : UInt8) : decide (0 ≤ Lib.indexByte l c) = decide (c ∈ l) := by
  have h : 0 ≤ Lib.indexByte l c ↔ c ∈ l := by
    induction l with
    | nil => simp [Lib.indexByte]
    | cons b l ih =>
      unfold Lib.indexByte
      have hg := Lib.indexByte_ge l c
      by_cases e : b = c
      · subst e; simp
      · have e2 : (b == c) = false := by simpa using e
        rw [e2]
        simp only [Bool.false_eq_true, if_false, List.mem_cons, Ne.symm e, false_or]
        rw [← ih]
        by_cases e3 : Lib.indexByte l c = -1
        · simp [e3]
        · have e4 : (Lib.indexByte l c == -1) = false := by simpa using e3
          rw [e4]
          simp only [Bool.false_eq_true, if_false]
          omega
  exact decide_eq_decide.2 h
theorem name_eq (s : ByteArray) : Led.name s = (decide (1 ≤ s.size) && decide (s.size ≤ 100) && !(decide ((10 : UInt8) ∈ s.data.toList))) := by
  unfold Led.name
  rw [indexByte_mem]
  have e : (!(s.size == 0)) = decide (1 ≤ s.size) := by
    by_cases h : s.size = 0
    · rw [h]; rfl
    · have : 1 ≤ s.size := by omega
      simp [h, this]
  rw [e]
namespace Led
def otherS : ByteArray := ⟨#[111, 116, 104, 101, 114]⟩
def moreS : ByteArray := ⟨#[109, 111, 114, 101]⟩
def qo : Pst := ⟨otherS, mintS, sx, 1000000000⟩
def qm : Pst := ⟨moreS, mintS, sx, 1000000001⟩
theorem right_o : right qo = true := by kernel_rfl
theorem right_m : right qm = false := by kernel_rfl
theorem mint_m : mint mintS = true := by kernel_rfl
theorem name_m : name mintS = true := by kernel_rfl
theorem limit_one (K T : ByteArray) (n : Int) (ok : Bool) (hok : ok = (name K && name T && decide (1 ≤ n) && decide (n ≤ 1000000000))) (hT : T ≠ mintS) :
    post [] ⟨K, mintS, T, n⟩ = (if ok then 0 else 1, if ok then [⟨K, mintS, T, n⟩] else []) := by
  have hr : right ⟨K, mintS, T, n⟩ = ok := by
    rw [hok]
    unfold right
    simp only [name_m, decide_eq_false (Ne.symm hT), Bool.not_false, Bool.and_true]
  unfold post
  rw [hr]
  cases ok with
  | false => rfl
  | true =>
    simp only [Bool.true_eq_false, if_false, if_true]
    rw [show find [] K = none from rfl]
    simp only [mint_m]
    rfl
theorem limit_two (K T : ByteArray) (n : Int) (ok : Bool) (hK : K ≠ otherS) :
    post (if ok then [⟨K, mintS, T, n⟩] else []) qo = (0, (if ok then [⟨K, mintS, T, n⟩] else []) ++ [qo]) := by
  unfold post
  rw [if_neg (by rw [right_o]; simp)]
  have hf : find (if ok then [⟨K, mintS, T, n⟩] else []) qo.key = none := by
    cases ok with
    | false => rfl
    | true =>
      unfold find
      rw [List.findIdx?_eq_none_iff]
      intro x hx
      simp only [if_true, List.mem_singleton] at hx
      subst hx
      have hK2 : ¬ K = qo.key := hK
      simpa using hK2
  rw [hf]
  have hm : mint qo.src = true := mint_m
  simp only [hm]
  rw [if_neg (by cases ok <;> simp), if_neg (by simp)]
theorem limit_three (L : List Pst) : post L qm = (1, L) := by
  unfold post
  rw [if_pos right_m]
theorem limit_paid (K T : ByteArray) (n : Int) (ok : Bool) (hK : K ≠ otherS) : (keysF ((if ok then [⟨K, mintS, T, n⟩] else []) ++ [qo]) K).isSome = ok := by
  have ho : ¬ otherS = K := Ne.symm hK
  cases ok with
  | false =>
    unfold keysF find
    simp [List.findIdx?_cons, qo, ho]
  | true =>
    unfold keysF find
    simp [List.findIdx?_cons]
end Led
def zeros (n : Nat) : ByteArray := ⟨((List.range n).map fun i => UInt8.ofNat 0).toArray⟩
theorem zeros_size (n : Nat) : (zeros n).size = n := by show (List.map _ _).toArray.size = n; simp
theorem zeros_mem (n : Nat) {c : UInt8} (h : c ∈ (zeros n).data.toList) : c = 0 := by
  unfold zeros at h
  simp at h
  exact h.2.symm
theorem zeros_name (n : Nat) : Led.name (zeros n) = (decide (1 ≤ n) && decide (n ≤ 100)) := by
  rw [name_eq, zeros_size]
  have : ¬ (10 : UInt8) ∈ (zeros n).data.toList := fun h => absurd (zeros_mem n h) (by decide)
  rw [decide_eq_false this]
  simp
theorem zeros_ne (n : Nat) (s : ByteArray) (c : UInt8) (hc : c ∈ s.data.toList) (h0 : c ≠ 0) : zeros n ≠ s := fun e => h0 (zeros_mem n (by rw [e]; exact hc))
/-- the key: zeros, perhaps a byte 10 among them -/
def KeyOf (n : Nat) (v8 v11 : Value) : Prop := ∃ (K : ByteArray) (line : Bool), v8 = .string K ∧ v11 = .bool line ∧ K.size = n ∧ K ≠ Led.otherS ∧ Led.name K = (!line && decide (1 ≤ n) && decide (n ≤ 100))
theorem byte_info : (Try.prog.info? 5).map (fun i => (i.zero, i.size, i.bytes)) = some (some (.int .u8 0), 1, 1) := by kernel_rfl
set_option maxHeartbeats 4000000 in
set_option maxRecDepth 100000 in
theorem walk2_LedgerLimits (l0 l1 amt at' : Int) (w0 : (Lit.int .u8 l0).wf = true) (w1 : (Lit.int .u8 l1).wf = true) (wa : (Lit.int .i64 amt).wf = true) (wt : (Lit.int .u16 at').wf = true) (w : World) :
    Calls Try.prog 5 #[.agg #[.int .u8 l0, .int .u8 l1], .int .i64 amt, .int .u16 at'] w fun e w' => e = .returned (.bool true) ∧ Below w.heap.size w w' := by
  have h0 : 0 ≤ l0 ∧ l0 ≤ 255 := by simpa [Lit.wf, IntKind.min, IntKind.max, IntKind.signed, IntKind.bits] using w0
  have h1 : 0 ≤ l1 ∧ l1 ≤ 255 := by simpa [Lit.wf, IntKind.min, IntKind.max, IntKind.signed, IntKind.bits] using w1
  have ht : 0 ≤ at' ∧ at' ≤ 65535 := by simpa [Lit.wf, IntKind.min, IntKind.max, IntKind.signed, IntKind.bits] using wt
  obtain ⟨n0, e0⟩ : ∃ n : Nat, l0 % 104 = (n : Int) := ⟨(l0 % 104).toNat, by omega⟩
  obtain ⟨n1, e1⟩ : ∃ n : Nat, l1 % 104 = (n : Int) := ⟨(l1 % 104).toNat, by omega⟩
  obtain ⟨k, ek⟩ : ∃ n : Nat, at' % 300 = (n : Int) := ⟨(at' % 300).toNat, by omega⟩
  have l0p : 0 ≤ l0 := h0.1
  have l1p : 0 ≤ l1 := h1.1
  have atp : 0 ≤ at' := ht.1
  have n0b : n0 ≤ 103 := by omega
  have n1b : n1 ≤ 103 := by omega
  have kb : k ≤ 299 := by omega
  obtain ⟨i0, hi, hz0, hz1, hz2⟩ := info_parts byte_info
  have hmk : ∀ (n : Nat), n ≤ 103 → ∀ u : World, (Instr.makeSlice 34 (.int .i64 (n : Int)) (.int .i64 (n : Int))).run Try.prog u =
      .ok (.slice (some ⟨u.heap.size, 0, none⟩) n n) (u.alloc (.cells (madeCells #[.int .u8 0] n) 5)) := fun n hn u => by
    have h := run_make (P := Try.prog) u 34 5 i0 (.int .u8 0) Try.underlying34 hi hz0 .i64 .i64 (n : Int) (n : Int) (by omega) (Int.le_refl _) (by rw [hz2]; omega) (by omega)
    rw [Int.toNat_natCast] at h
    simpa [hz1, Value.cells] using h
  have hcv : ∀ (n : Nat), ∀ u : World, (convert 34 9 (.slice (some ⟨u.heap.size, 0, none⟩) n n)).run Try.prog (u.alloc (.cells (madeCells #[.int .u8 0] n) 5)) = .ok (.string (zeros n)) (u.alloc (.cells (madeCells #[.int .u8 0] n) 5)) := fun n u =>
    conv_row (P := Try.prog) (T := 5) (g := fun _ => 0) Try.underlying34 Try.underlying5 Try.underlying9 (fun i hi => by
      have := (World.rowIs_made u (.int .u8 0) n 5).cell (i := i) hi
      exact this)
  have m0 := hmk n0 n0b
  have m1 := hmk n1 n1b
  have c0 := hcv n0
  have C1 := Lib.hid (hcv n1)
  clear hmk hcv hi hz0 hz1 hz2 h0 h1 ht w0 w1 wt
  go_enter Try.func5, Try.ntmps5
  go_wp2_with fail
  refine (sanity_any _).mono ?_
  rintro e w2 ⟨rfl, hb⟩
  have hbx := heap_below (heap_alloc_new w (.cells #[.int .u8 l0, .int .u8 l1] 32)) hb
  have x0 : w2.cell? ⟨w.heap.size, 0, none⟩ = some (.int .u8 l0) := (cell_of_row _ _ 0 _ _ _ hbx).trans rfl
  have x1 : (w2.alloc (.cells (madeCells #[.int .u8 0] n0) 5)).cell? ⟨w.heap.size, 1, none⟩ = some (.int .u8 l1) := (cell_of_row _ _ 1 _ _ _ ((Below.heap_alloc _ _ _ (Array.getElem?_eq_some_iff.1 hbx).1).trans hbx)).trans rfl
  have HB : Hid (Below w.heap.size w ((w2.alloc (.cells (madeCells #[.int .u8 0] n0) 5)).alloc (.cells (madeCells #[.int .u8 0] n1) 5))) := by
    have q : Below w.heap.size w w2 := ((Below.refl _ _).alloc (Nat.le_refl _) _).trans (hb.mono (by simp))
    exact (q.alloc q.size _).alloc (by have := q.size; simp; omega) _
  have c1 := C1.out (w2.alloc (.cells (madeCells #[.int .u8 0] n0) 5))
  rw [show (w2.alloc (.cells (madeCells #[.int .u8 0] n0) 5)).heap.size = w2.heap.size + 1 by simp] at c1
  clear hb hbx
  have Z0 := Lib.hid (zeros_size n0)
  have ZS := zeros_size n0
  have Z1 := Lib.hid (zeros_size n1)
  obtain ⟨K0, hK0⟩ : ∃ K, zeros n0 = K := ⟨_, rfl⟩
  obtain ⟨T, hT⟩ : ∃ K, zeros n1 = K := ⟨_, rfl⟩
  have NK : Hid (Led.name K0 = (decide (1 ≤ n0) && decide (n0 ≤ 100))) := by show _ = _; rw [← hK0]; exact zeros_name n0
  have NT : Hid (Led.name T = (decide (1 ≤ n1) && decide (n1 ≤ 100))) := by show _ = _; rw [← hT]; exact zeros_name n1
  have K0ne : Hid (K0 ≠ Led.otherS) := by show _ ≠ _; rw [← hK0]; exact zeros_ne n0 _ 111 (by simp [Led.otherS]) (by decide)
  have Tne : Hid (T ≠ Led.mintS) := by show _ ≠ _; rw [← hT]; exact zeros_ne n1 _ 109 (by simp [Led.mintS]) (by decide)
  have Tsz : T.size = n1 := by rw [← hT]; exact zeros_size n1
  rw [hK0] at c0 ZS
  rw [hT] at c1
  clear hK0 hT Z0 Z1 C1
  go_upto_if 36 with fail
  clear x0 x1 c0 c1 m0 m1
  generalize (w2.alloc (.cells (madeCells #[.int .u8 0] n0) 5)).alloc (.cells (madeCells #[.int .u8 0] n1) 5) = W3 at *
  go_cut [8, 11] (fun v8 v11 wx => KeyOf n0 v8 v11 ∧ Below w.heap.size w wx)
  case first =>
    by_cases hlt : k < n0
    · have d1 : decide ((k : Int) < (n0 : Int)) = true := by simp; omega
      have k0 : (0 : Int) ≤ (k : Int) := by omega
      have k1 : (k : Int) ≤ (n0 : Int) := by omega
      have k2 : (0 : Int) ≤ (k : Int) + 1 := by omega
      have k3 : (k : Int) + 1 ≤ (n0 : Int) := by omega
      have k4 : ((k : Int) + 1).toNat = k + 1 := by omega
      have k5 : IntKind.i64.wrap ((k : Int) + 1) = (k : Int) + 1 := IntWalk.i64_in _ (by omega)
      have k6 : (k : Int).toNat = k := by omega
      have s1 : (K0.extract 0 k).size = k := by simp; omega
      have s2 : (K0.extract (k + 1) n0).size = n0 - (k + 1) := by simp; omega
      obtain ⟨P1, hP1⟩ : ∃ s, K0.extract 0 k = s := ⟨_, rfl⟩
      obtain ⟨P2, hP2⟩ : ∃ s, K0.extract (k + 1) n0 = s := ⟨_, rfl⟩
      rw [hP1] at s1
      rw [hP2] at s2
      have q1 : ¬ 9223372036854775807 < P1.size + 1 := by omega
      have q2 : ¬ 9223372036854775807 < P1.size + 1 + P2.size := by omega
      have D1 := Lib.hid s1
      have D2 := Lib.hid s2
      have HLT := Lib.hid hlt
      clear s1 s2 hlt
      go_wp2_with fail
      refine wp_region_quiet_below (by kernel_rfl) (by kernel_rfl) ?_
      repeat (go_big_quiet_step (fail))
      refine wpQuiet_nil ?_
      intro _ hw'
      obtain ⟨⟨dq, osq⟩, hw''⟩ := hw'
      subst hw''
      have B := Lib.hid (HB.out.trans ((below_regrown W3 dq osq).mono HB.out.size))
      go_wp2_with fail
      go_meet
      refine ⟨?_, B.out⟩
      have hm : (10 : UInt8) ∈ (P1 ++ ⟨#[10]⟩ ++ P2).data.toList := by simp
      refine ⟨_, true, rfl, rfl, ?_, ?_, ?_⟩
      · have h1 := D1.out
        have h2 := D2.out
        have h3 := HLT.out
        rw [ByteArray.size_append, ByteArray.size_append, h1, h2]
        show k + 1 + (n0 - (k + 1)) = n0
        omega
      · intro e
        rw [e] at hm
        simp [Led.otherS] at hm
      · rw [name_eq, decide_eq_true hm]
        simp
    · have d1 : decide ((k : Int) < (n0 : Int)) = false := by simp; omega
      go_wp2_with fail
      go_meet
      exact ⟨⟨K0, false, rfl, rfl, ZS, K0ne.out, by rw [NK.out]; rfl⟩, HB.out⟩
  case rest =>
    obtain ⟨⟨K, line, rfl, rfl, hKs, hKn, hKN⟩, hb⟩ := hcut
    obtain ⟨ok, hok⟩ : ∃ ok, ok = (Led.name K && Led.name T && decide (1 ≤ amt) && decide (amt ≤ 1000000000)) := ⟨_, rfl⟩
    have hok2 : ok = (!line && decide (1 ≤ n0) && decide (n0 ≤ 100) && decide (1 ≤ n1) && decide (n1 ≤ 100) && decide (1 ≤ amt) && decide (amt ≤ 1000000000)) := by
      rw [hok, hKN, NT.out]
      simp only [Bool.and_assoc]
    have OK2 := Lib.hid hok2
    have P1 := Lib.hid (Led.limit_one K T amt ok hok Tne.out)
    have P2 := Lib.hid (Led.limit_two K T amt ok hKn)
    have P4 := Lib.hid (Led.limit_paid K T amt ok hKn)
    have ZK : Hid (K.size ≤ maxLen) := by show _ ≤ _; rw [hKs]; unfold maxLen; omega
    have ZT : Hid (T.size ≤ maxLen) := by show _ ≤ _; rw [Tsz]; unfold maxLen; omega
    have HB2 := Lib.hid hb
    obtain ⟨za, zb, zc, zd, ze, zx, zm, zp, zo⟩ := Led.sizes
    have ZX := Lib.hid zx
    have ZM := Lib.hid zm
    have KS := hKs
    clear hok hok2 hKs hKn hKN hb NK K0ne ZS za zb zc zd ze zx zm zp zo Tne NT
    go_wp2_with fail
    refine (new_own w wc HB2.out).mono ?_
    rintro e wn ⟨rfl, hO⟩
    have O1 := Lib.hid hO
    clear hO
    go_upto_region 13 with fail
    go_cut [78] (fun v78 wx => v78 = .bool ok ∧ wx = wn)
    case first =>
      cases line with
      | true =>
        have eo : ok = false := by rw [OK2.out]; rfl
        subst eo
        go_wp2_with fail
        go_meet
        exact ⟨rfl, rfl⟩
      | false =>
        by_cases a1 : 1 ≤ n0
        · have b1 : decide ((1 : Int) ≤ (n0 : Int)) = true := by simp; omega
          have b1' : decide (1 ≤ n0) = true := by simp; omega
          by_cases a2 : n0 ≤ 100
          · have b2 : decide ((n0 : Int) ≤ 100) = true := by simp; omega
            have b2' : decide (n0 ≤ 100) = true := by simp; omega
            by_cases a3 : 1 ≤ n1
            · have b3 : decide ((1 : Int) ≤ (n1 : Int)) = true := by simp; omega
              have b3' : decide (1 ≤ n1) = true := by simp; omega
              by_cases a4 : n1 ≤ 100
              · have b4 : decide ((n1 : Int) ≤ 100) = true := by simp; omega
                have b4' : decide (n1 ≤ 100) = true := by simp; omega
                by_cases a5 : 1 ≤ amt
                · have b5 : decide (1 ≤ amt) = true := by simp; omega
                  by_cases a6 : amt ≤ 1000000000
                  · have b6 : decide (amt ≤ 1000000000) = true := by simp; omega
                    have eo : ok = true := by rw [OK2.out, b1', b2', b3', b4', b5, b6]; rfl
                    subst eo
                    go_wp2_with fail
                    go_meet
                    exact ⟨rfl, rfl⟩
                  · have b6 : decide (amt ≤ 1000000000) = false := by simp; omega
                    have eo : ok = false := by rw [OK2.out, b6]; simp
                    subst eo
                    go_wp2_with fail
                    go_meet
                    exact ⟨rfl, rfl⟩
                · have b5 : decide (1 ≤ amt) = false := by simp; omega
                  have eo : ok = false := by rw [OK2.out, b5]; simp
                  subst eo
                  go_wp2_with fail
                  go_meet
                  exact ⟨rfl, rfl⟩
              · have b4 : decide ((n1 : Int) ≤ 100) = false := by simp; omega
                have b4' : decide (n1 ≤ 100) = false := by simp; omega
                have eo : ok = false := by rw [OK2.out, b4']; simp
                subst eo
                go_wp2_with fail
                go_meet
                exact ⟨rfl, rfl⟩
            · have b3 : decide ((1 : Int) ≤ (n1 : Int)) = false := by simp; omega
              have b3' : decide (1 ≤ n1) = false := by simp; omega
              have eo : ok = false := by rw [OK2.out, b3']; simp
              subst eo
              go_wp2_with fail
              go_meet
              exact ⟨rfl, rfl⟩
          · have b2 : decide ((n0 : Int) ≤ 100) = false := by simp; omega
            have b2' : decide (n0 ≤ 100) = false := by simp; omega
            have eo : ok = false := by rw [OK2.out, b2']; simp
            subst eo
            go_wp2_with fail
            go_meet
            exact ⟨rfl, rfl⟩
        · have b1 : decide ((1 : Int) ≤ (n0 : Int)) = false := by simp; omega
          have b1' : decide (1 ≤ n0) = false := by simp; omega
          have eo : ok = false := by rw [OK2.out, b1']; simp
          subst eo
          go_wp2_with fail
          go_meet
          exact ⟨rfl, rfl⟩
    case rest =>
      obtain ⟨rfl, rfl⟩ := hcut
      clear KS Tsz n0b n1b kb ek e0 e1 OK2
      cases ok with
      | true =>
        have p1 : Led.post [] ⟨K, Led.mintS, T, amt⟩ = (0, [⟨K, Led.mintS, T, amt⟩]) := P1.out
        have p2 : Led.post [⟨K, Led.mintS, T, amt⟩] Led.qo = (0, [⟨K, Led.mintS, T, amt⟩] ++ [Led.qo]) := P2.out
        have p3 : Led.post ([⟨K, Led.mintS, T, amt⟩] ++ [Led.qo]) Led.qm = (1, [⟨K, Led.mintS, T, amt⟩] ++ [Led.qo]) := Led.limit_three _
        have p4 : (keysF ([⟨K, Led.mintS, T, amt⟩] ++ [Led.qo]) K).isSome = true := P4.out
        have Q1 := Lib.hid p1
        have Q2 := Lib.hid p2
        have Q3 := Lib.hid p3
        have Q4 := Lib.hid p4
        have z1 : Led.otherS.size ≤ maxLen ∧ Led.moreS.size ≤ maxLen := by refine ⟨?_, ?_⟩ <;> (unfold maxLen; exact Nat.le_of_ble_eq_true rfl)
        have ZZ := Lib.hid z1
        clear p1 p2 p3 p4 z1 P1 P2 P4
        go_wp2_with fail
        refine (lpost_own O1.out _ _ _ _).mono ?_
        rintro e x2 ⟨rfl, h⟩
        have O2 := Lib.hid h
        clear h O1
        go_wp2_with fail
        refine (post_own O2.out ⟨K, Led.mintS, T, amt⟩ 0 Q1.out (by omega) ⟨ZK.out, ZM.out, ZT.out⟩).mono ?_
        rintro e x3 ⟨rfl, h⟩
        have O3 := Lib.hid h
        clear h O2
        go_wp2_with fail
        refine (lpost_own O3.out _ _ _ _).mono ?_
        rintro e x4 ⟨rfl, h⟩
        have O4 := Lib.hid h
        clear h O3
        go_wp2_with fail
        refine (post_own O4.out Led.qo 0 Q2.out (by omega) ⟨ZZ.out.1, ZM.out, ZX.out⟩).mono ?_
        rintro e x5 ⟨rfl, h⟩
        have O5 := Lib.hid h
        clear h O4
        go_wp2_with fail
        refine (lpost_own O5.out _ _ _ _).mono ?_
        rintro e x6 ⟨rfl, h⟩
        have O6 := Lib.hid h
        clear h O5
        go_wp2_with fail
        refine (post_own O6.out Led.qm 1 Q3.out (by omega) ⟨ZZ.out.2, ZM.out, ZX.out⟩).mono ?_
        rintro e x7 ⟨rfl, h⟩
        have O7 := Lib.hid h
        clear h O6
        go_wp2_with fail
        refine (paid_own O7.out K ZK.out).mono ?_
        rintro e x8 ⟨rfl, rfl⟩
        rw [Q4.out]
        go_wp2_with fail
        go_ret
        exact ⟨rfl, O7.out.same⟩
      | false =>
        have p1 : Led.post [] ⟨K, Led.mintS, T, amt⟩ = (1, []) := P1.out
        have p2 : Led.post ([] : List Pst) Led.qo = (0, ([] : List Pst) ++ [Led.qo]) := P2.out
        have p3 : Led.post (([] : List Pst) ++ [Led.qo]) Led.qm = (1, ([] : List Pst) ++ [Led.qo]) := Led.limit_three _
        have p4 : (keysF (([] : List Pst) ++ [Led.qo]) K).isSome = false := P4.out
        have Q1 := Lib.hid p1
        have Q2 := Lib.hid p2
        have Q3 := Lib.hid p3
        have Q4 := Lib.hid p4
        have z1 : Led.otherS.size ≤ maxLen ∧ Led.moreS.size ≤ maxLen := by refine ⟨?_, ?_⟩ <;> (unfold maxLen; exact Nat.le_of_ble_eq_true rfl)
        have ZZ := Lib.hid z1
        clear p1 p2 p3 p4 z1 P1 P2 P4
        go_wp2_with fail
        refine (lpost_own O1.out _ _ _ _).mono ?_
        rintro e x2 ⟨rfl, h⟩
        have O2 := Lib.hid h
        clear h O1
        go_wp2_with fail
        refine (post_own O2.out ⟨K, Led.mintS, T, amt⟩ 1 Q1.out (by omega) ⟨ZK.out, ZM.out, ZT.out⟩).mono ?_
        rintro e x3 ⟨rfl, h⟩
        have O3 := Lib.hid h
        clear h O2
        go_wp2_with fail
        refine (lpost_own O3.out _ _ _ _).mono ?_
        rintro e x4 ⟨rfl, h⟩
        have O4 := Lib.hid h
        clear h O3
        go_wp2_with fail
        refine (post_own O4.out Led.qo 0 Q2.out (by omega) ⟨ZZ.out.1, ZM.out, ZX.out⟩).mono ?_
        rintro e x5 ⟨rfl, h⟩
        have O5 := Lib.hid h
        clear h O4
        go_wp2_with fail
        refine (lpost_own O5.out _ _ _ _).mono ?_
        rintro e x6 ⟨rfl, h⟩
        have O6 := Lib.hid h
        clear h O5
        go_wp2_with fail
        refine (post_own O6.out Led.qm 1 Q3.out (by omega) ⟨ZZ.out.2, ZM.out, ZX.out⟩).mono ?_
        rintro e x7 ⟨rfl, h⟩
        have O7 := Lib.hid h
        clear h O6
        go_wp2_with fail
        refine (paid_own O7.out K ZK.out).mono ?_
        rintro e x8 ⟨rfl, rfl⟩
        rw [Q4.out]
        go_wp2_with fail
        go_ret
        exact ⟨rfl, O7.out.same⟩
theorem walk_LedgerLimits (zs : List Int) (hl : zs.length = 2) (amt at' : Int) (hz : ∀ z ∈ zs, (Lit.int .u8 z).wf = true) (wa : (Lit.int .i64 amt).wf = true) (wt : (Lit.int .u16 at').wf = true) (w : World) :
    Calls Try.prog 5 #[.agg (zs.map (Value.int .u8)).toArray, .int .i64 amt, .int .u16 at'] w fun e w' => e = .returned (.bool true) ∧ Below w.heap.size w w' := by
  match zs, hl with
  | [a, b], _ => exact walk2_LedgerLimits a b amt at' (hz a (by simp)) (hz b (by simp)) wa wt w
end Go.Proofs.Ytlfcoopnonhfeaa
