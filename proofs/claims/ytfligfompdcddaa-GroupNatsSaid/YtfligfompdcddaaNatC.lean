/- Contracts of the reference's numbers: Canon, Of, Int, small. -/
import Derived.Test.YtfligfompdcddaaNatB
import Derived.Test.YtfligfompdcddaaBytes
import Derived.Test.YtfligfompdcddaaQuiet
import Derived.Test.YtfligfompdcddaaProg
import Derived.Deep.Cut
import Derived.Deep.CutBlock
import Derived.Deep.DeepCutAuto
import Derived.Deep.AppendLies
import Derived.LoopTactic
import Derived.WalkSpells
import Derived.IntWalk
namespace Go.Proofs.Ytfligfompdcddaa
open Go.RowKit Go.Sort
set_option linter.unusedVariables false
def bstr (l : List UInt8) : ByteArray := ⟨l.toArray⟩
theorem bstr_size (l : List UInt8) : (bstr l).size = l.length := by simp [bstr, ByteArray.size]
theorem bstr_toList (s : ByteArray) : bstr s.data.toList = s := by cases s; simp [bstr]
theorem extract_drop (s : ByteArray) (k : Nat) : s.extract k s.size = bstr (s.data.toList.drop k) := by
  apply ByteArray.ext
  simp [bstr]
  apply Array.toList_inj.1
  rw [Array.toList_extract]
  simp only [List.extract]
  rw [List.take_of_length_le (by rw [List.length_drop, Array.length_toList]; exact Nat.le_refl _)]
set_option maxHeartbeats 1000000 in
theorem canon_any (s : ByteArray) (w : World) (hs : s.size ≤ maxLen) : Calls Try.prog 16 #[.string s] w fun e w' => e = .returned (.string (bstr (Nb.canon s.data.toList))) ∧ w' = w := by
  unfold maxLen at hs
  go_enter Try.func16, Try.ntmps16
  go_upto_block 0 with fail
  go_cut [3] (fun v3 wx => ∃ k : Nat, v3 = .int .i64 k ∧ k ≤ s.size ∧ Nb.canon s.data.toList = s.data.toList.drop k ∧ wx = w)
  case first =>
    go_wp2_with fail
    go_loop [3] (fun i => ∃ k : Nat, k ≤ s.size ∧ i = .int .i64 k ∧ ∀ j, j < k → s.data.toList[j]? = some 0) (fun i => s.size - (intOf i).toNat)
    case atStart => exact ⟨0, Nat.zero_le _, rfl, fun j hj => by omega⟩
    case round =>
      obtain ⟨k, hk, rfl, hall⟩ := hrel
      have ALL := Lib.hid hall
      clear hall
      by_cases hlt : k < s.size
      · have eg : s.data.toList[k]? = some s[k] := by
          rw [Array.getElem?_toList, Array.getElem?_eq_getElem hlt]; rfl
        have EG := Lib.hid eg
        clear eg
        by_cases h0 : s[k] = 0
        · have b1 : ((s[k].toNat : Int) == 0) = true := by rw [h0]; rfl
          have b2 : (s[k].toNat == 0) = true := by rw [h0]; rfl
          have H0 := Lib.hid h0
          clear h0
          go_wp2_with fail
          go_round
          case rel => exact ⟨k + 1, by omega, by go_num, fun j hj => by
            by_cases e : j = k
            · subst e; rw [EG.out, H0.out]
            · exact ALL.out j (by omega)⟩
          case measure => simp [intOf]; omega
        · have hn : s[k].toNat ≠ 0 := fun e => h0 (by have : UInt8.ofNat s[k].toNat = s[k] := by simp
                                                      rw [← this, e]; rfl)
          have b1 : ((s[k].toNat : Int) == 0) = false := by simp; omega
          have b2 : (s[k].toNat == 0) = false := by simp; omega
          have CD := Lib.hid (Nb.canon_drop ALL.out (by rw [EG.out]; exact fun e => h0 (by injection e)))
          clear h0 hn
          go_wp2_with fail
          go_meet
          exact ⟨k, rfl, by omega, CD.out, rfl⟩
      · obtain rfl : k = s.size := by omega
        have CD := Lib.hid (Nb.canon_drop ALL.out (by rw [List.getElem?_eq_none (by show s.data.size ≤ _; exact Nat.le_refl _)]; exact fun e => by cases e))
        go_wp2_with fail
        go_meet
        exact ⟨_, rfl, Nat.le_refl _, CD.out, rfl⟩
  case rest =>
    obtain ⟨k, rfl, hk, he, rfl⟩ := hcut
    have HE : Hid (s.extract k s.size = bstr (Nb.canon s.data.toList)) := by show _ = _; rw [he, extract_drop]
    clear he
    go_wp2_with fail
    go_ret
    exact ⟨by rw [← HE.out]; rfl, rfl⟩
theorem byte_info : (Try.prog.info? 5).map (fun i => (i.zero, i.size, i.bytes)) = some (some (.int .u8 0), 1, 1) := by kernel_rfl
def bvals (l : List UInt8) : List Value := l.map fun b => .int .u8 (b.toNat : Int)
theorem bvals_length (l : List UInt8) : (bvals l).length = l.length := by simp [bvals]
theorem wpList_append_byte {ops : Array Oper} {rest : List Oper} {o : Oper} {a : Act} {w : World} {Q : Exit → Act → World → Prop} (hgd : o.guard = none) (s x : Operand)
    (ho : o.op = Op.call { callee := Callee.builtin Builtin.append, args := #[s, x], argTypes := #[36, 36] })
    (base : Nat) (v : Value) (xs : List UInt8) (y : UInt8) (B : Nat) (hsv : a.eval s = v) (hx : a.eval x = .slice (some ⟨B, 0, none⟩) 1 1) (hown : w.ownsRow base 5 1 v xs.length (bvals xs)) (hB : w.heap[B]? = some (.cells #[.int .u8 (y.toNat : Int)] 5 (0, 0))) (hl : xs.length ≤ 100000) (hb : base ≤ w.heap.size)
    (h : ∀ v' w', w'.ownsRow base 5 1 v' (xs ++ [y]).length (bvals (xs ++ [y])) → w.grownBy w' v.ownBlock → (v'.ownBlock = v.ownBlock ∨ ∃ k, v'.ownBlock = some k ∧ w.heap.size ≤ k) → wpList Try.prog ops Q rest (a.put o.dst v') w') :
    wpList Try.prog ops Q (o :: rest) a w := by
  obtain ⟨i0, hi, hz0, hz1, hz2⟩ := info_parts byte_info
  refine wpList_append_lies (P := Try.prog) w hgd s x 36 ho base 5 i0 _ 1 1 Try.underlying36 hi hz0 hz1 hz2 rfl (by omega) v xs.length (bvals xs) hsv hown ⟨B, 0, none⟩ 1 1 [.int .u8 (y.toNat : Int)] hx rfl (World.news_of_block hB)
    (by intro u hu; simp at hu; subst hu; rfl) (by omega) (by unfold maxLen; omega) (by omega) hb w.heap.size rfl ?_
  intro g cap w' hown' hgrow hat hlt
  refine h _ w' ?_ hgrow ?_
  · unfold bvals at hown' ⊢
    rw [List.map_append, List.length_append]
    exact hown'
  · rcases hat with e | e
    · exact .inl (by rw [e]; rfl)
    · exact .inr ⟨g, rfl, by omega⟩
theorem two_pow (j : Nat) (hj : j ≤ 7) : (2 : Nat) ^ (56 - 8 * j) = 256 ^ (7 - j) := by
  have e : 56 - 8 * j = 8 * (7 - j) := by omega
  rw [e, Nat.pow_mul]
theorem owns_kept8 {w w' : World} {base : Nat} {v : Value} {n : Nat} {xs : List Value} {row : Option Nat} (h : w.ownsRow base 5 1 v n xs) (hg : w.grownBy w' row) (hne : ∀ b, v.ownBlock = some b → row ≠ some b) : w'.ownsRow base 5 1 v n xs := by
  refine h.kept hg ?_
  rcases h.2 with ⟨rfl, _⟩ | ⟨g, cap, cur, rfl, _⟩
  · exact .inl rfl
  · exact .inr (fun e => hne g rfl e.symm)
theorem owns_lt8 {w : World} {base : Nat} {v : Value} {n : Nat} {xs : List Value} (h : w.ownsRow base 5 1 v n xs) : ∀ b, v.ownBlock = some b → base ≤ b ∧ b < w.heap.size := by
  intro b hb
  rcases h.2 with ⟨rfl, _⟩ | ⟨g, cap, cur, rfl, h1, h2, _⟩
  · cases hb
  · have : g = b := by simpa [Value.ownBlock] using hb
    subst this
    exact ⟨h1, (Array.getElem?_eq_some_iff.1 h2).1⟩
/-- 'string(b)' of a row of bytes that the call owns -/
theorem conv_owns {w : World} {base : Nat} {v : Value} {l : List UInt8} (h : w.ownsRow base 5 1 v l.length (bvals l)) (D : TypeId) (hd : Try.prog.underlying D = some .string) :
    (convert 36 D v).run Try.prog w = .ok (.string (bstr l)) w := by
  rcases h.2 with ⟨rfl, h0⟩ | ⟨g, cap, cur, rfl, _, hg, hc, _, hs, ht⟩
  · have : l = [] := List.eq_nil_of_length_eq_zero h0
    subst this
    rw [run_convert_bytes_string w 36 D 5 _ 0 0 Try.underlying36 Try.underlying5 hd]
    simp [Conv.bytesToString, Sem.run_pure, bstr]
    rfl
  · have hcell : ∀ i, i < l.length → w.cell? ⟨g, i, none⟩ = some (.int .u8 (((l.getD i 0).toNat : Nat) : Int)) := by
      intro i hi
      rw [cell_of_row _ _ _ _ _ _ hg]
      have : (cur.toList.take (l.length * 1))[i]? = (bvals l)[i]? := by rw [ht]
      rw [List.getElem?_take, if_pos (by omega), Array.getElem?_toList] at this
      rw [this]
      simp [bvals, hi]
    have := conv_row (P := Try.prog) (T := 5) (c := cap) (g := fun i => (l.getD i 0).toNat) Try.underlying36 Try.underlying5 hd hcell
    have e : (List.range l.length).map (fun i => UInt8.ofNat (l.getD i 0).toNat) = l := by
      apply List.ext_getElem
      · simp
      · intro i h1 h2
        simp [h2]
    rw [this, e]
    rfl
set_option maxHeartbeats 4000000 in
set_option maxRecDepth 100000 in
theorem of_any (n : Nat) (w : World) (hn : n < 9223372036854775808) : Calls Try.prog 5 #[.int .i64 n] w fun e w' => e = .returned (.string (bstr (Nb.enc n))) ∧ Below w.heap.size w w' := by
  by_cases h0 : n = 0
  · subst h0
    have EN := Lib.hid Nb.enc_zero
    have hcv := conv_owns (w := w) (base := 0) (v := .slice none 0 0) (l := []) ⟨rfl, .inl ⟨rfl, rfl⟩⟩ 23 Try.underlying23
    have CC := Lib.hid (canon_any (bstr []) w (by rw [bstr_size]; exact Nat.zero_le _))
    obtain ⟨z, hz⟩ : ∃ z : Int, ((0 : Nat) : Int) = z := ⟨_, rfl⟩
    have z0 : z = 0 := by rw [← hz]; rfl
    rw [hz]
    subst z0
    clear hz
    go_enter Try.func5, Try.ntmps5
    go_wp2_with fail
    go_loop [3, 4] (fun v kv => v = .slice none 0 0 ∧ kv = .int .i64 56) (fun _ _ => 0)
    case atStart => exact ⟨rfl, rfl⟩
    case round =>
      obtain ⟨rfl, rfl⟩ := hrel
      go_wp2_with fail
      refine CC.out.mono ?_
      rintro e w' ⟨rfl, rfl⟩
      go_wp2_with fail
      go_ret
      exact ⟨by rw [EN.out]; rfl, Below.refl _ _⟩
  · have d1 : decide ((0 : Int) < (n : Int)) = true := by simp; omega
    have d1' : decide (0 < n) = true := by simp; omega
    have HN := Lib.hid hn
    go_enter Try.func5, Try.ntmps5
    go_wp2_with fail
    go_loopw [3, 4] (fun v kv wr => ∃ j : Nat, j ≤ 8 ∧ kv = .int .i64 (56 - 8 * (j : Int)) ∧ wr.ownsRow w.heap.size 5 1 v (Nb.eight n j).length (bvals (Nb.eight n j)) ∧ Below w.heap.size w wr) (fun _ kv _ => (intOf kv + 8).toNat)
    case atStart => exact ⟨0, Nat.zero_le _, rfl, ⟨by simp [bvals], .inl ⟨rfl, rfl⟩⟩, Below.refl _ _⟩
    case round =>
      obtain ⟨j, hj, rfl, hO, hB⟩ := hrel
      have HO := Lib.hid hO
      have HB := Lib.hid hB
      clear hO hB
      by_cases hlt : j < 8
      · have d2 : decide ((0 : Int) ≤ 56 - 8 * (j : Int)) = true := by simp; omega
        have k0 : (0 : Int) ≤ 56 - 8 * (j : Int) := by omega
        have k1 : (56 : Int) - 8 * (j : Int) < 64 := by omega
        obtain ⟨y, hy⟩ : ∃ y : UInt8, UInt8.ofNat (n / 256 ^ (7 - j) % 256) = y := ⟨_, rfl⟩
        have ey : (n : Int) / 2 ^ (56 - 8 * j) % 256 = ((y.toNat : Nat) : Int) := by
          rw [← hy]
          simp only [UInt8.toNat_ofNat']
          have e1 : ((2 : Int) ^ (56 - 8 * j)) = (((256 : Nat) ^ (7 - j) : Nat) : Int) := by rw [← two_pow j (by omega)]; simp
          rw [e1]
          have e2 : n / 256 ^ (7 - j) % 256 % 2 ^ 8 = n / 256 ^ (7 - j) % 256 := by omega
          rw [e2]
          simp
        have ES : Hid (Nb.eight n (j + 1) = Nb.eight n j ++ [y]) := by show _ = _; rw [Nb.eight_succ, hy]
        have ga := World.grownBy_alloc wr (.cells #[.int .u8 ((n : Int) / 2 ^ (56 - 8 * j) % 256)] 5) none
        have OA := Lib.hid (owns_kept8 HO.out ga (fun b hb e => by cases e))
        have NA : Hid ((wr.alloc (.cells #[.int .u8 ((n : Int) / 2 ^ (56 - 8 * j) % 256)] 5)).heap[wr.heap.size]? = some (.cells #[.int .u8 (y.toNat : Int)] 5 (0, 0))) := by
          show _ = _
          rw [ey]
          exact heap_alloc_new _ _
        have BA : Hid (Below w.heap.size w (wr.alloc (.cells #[.int .u8 ((n : Int) / 2 ^ (56 - 8 * j) % 256)] 5))) := HB.out.alloc HB.out.size _
        have LE : Hid ((Nb.eight n j).length ≤ 100000) := by show _ ≤ _; unfold Nb.eight; simp; omega
        clear ga hy ey HO
        go_wp2_with (at_builtin; refine wpList_append_byte rfl (.tmp 13) (.tmp 18) rfl w.heap.size u3 (Nb.eight n j) y wr.heap.size rfl rfl OA.out NA.out LE.out BA.out.size ?_; intro v2 w2 hown2 hg2 hv2)
        go_roundw
        case rel => exact ⟨j + 1, by omega, by go_num, by rw [ES.out]; exact hown2, BA.out.grown hg2 BA.out.size (fun b e => (owns_lt8 OA.out b e).1)⟩
        case measure => simp [intOf]; omega
      · obtain rfl : j = 8 := by omega
        have hcv := conv_owns HO.out 23 Try.underlying23
        have e8 : Nb.canon (bstr (Nb.eight n 8)).data.toList = Nb.enc n := by
          have := Nb.canon_eight n (by have := HN.out; omega)
          simpa [bstr] using this
        have E8 := Lib.hid e8
        have CC := Lib.hid (canon_any (bstr (Nb.eight n 8)) wr (by rw [bstr_size]; unfold Nb.eight maxLen; simp))
        obtain ⟨s, hs⟩ : ∃ s, bstr (Nb.eight n 8) = s := ⟨_, rfl⟩
        rw [hs] at hcv CC E8
        clear e8 hs
        go_wp2_with fail
        refine CC.out.mono ?_
        rintro e w' ⟨rfl, rfl⟩
        go_wp2_with fail
        go_ret
        exact ⟨by rw [← E8.out]; rfl, HB.out⟩
theorem canon_str (s : ByteArray) (n : Nat) (h : Nb.val s.data.toList = n) : Nb.canon s.data.toList = Nb.enc n := by rw [← h, Nb.enc_val]
theorem val_str (n : Nat) : Nb.val (bstr (Nb.enc n)).data.toList = n := by
  have : (bstr (Nb.enc n)).data.toList = Nb.enc n := by simp [bstr]
  rw [this, Nb.val_enc]
theorem canon_num (s : ByteArray) (n : Nat) (w : World) (hs : s.size ≤ maxLen) (h : Nb.val s.data.toList = n) : Calls Try.prog 16 #[.string s] w fun e w' => e = .returned (.string (bstr (Nb.enc n))) ∧ w' = w := by
  rw [← canon_str s n h]
  exact canon_any s w hs
set_option maxHeartbeats 2000000 in
theorem int_yes (s : ByteArray) (n : Nat) (w : World) (hs : s.size ≤ maxLen) (h : Nb.val s.data.toList = n) (hn : n < 9223372036854775808) : Calls Try.prog 9 #[.string s] w fun e w' => e = .returned (.tuple #[.int .i64 n, .bool true]) ∧ w' = w := by
  have CC := Lib.hid (canon_num s n w hs h)
  obtain ⟨f1, f2⟩ := (Nb.fits_int n).1 hn
  obtain ⟨l, hl⟩ : ∃ l, Nb.enc n = l := ⟨_, rfl⟩
  rw [hl] at CC f1 f2
  have HV : Hid (Nb.val l = n) := by show _ = _; rw [← hl, Nb.val_enc]
  obtain ⟨b, hb⟩ : ∃ b, bstr l = b := ⟨_, rfl⟩
  have hbs : b.size = l.length := by rw [← hb, bstr_size]
  have hget : ∀ k (hk : k < b.size), l[k]? = some b[k] := by
    intro k hk
    subst hb
    rw [bstr_size] at hk
    simp [bstr, ByteArray.getElem_eq_getElem_data, hk]
  rw [hb] at CC
  have GET := Lib.hid hget
  have BS := Lib.hid hbs
  have HN := Lib.hid hn
  have d1 : decide ((8 : Int) < (b.size : Int)) = false := by simp; omega
  have d1' : decide (8 < b.size) = false := by simp; omega
  have b8 : b.size ≤ 8 := by omega
  have F2 := Lib.hid f2
  clear hl hb h hget hbs f1 f2 hn
  go_enter Try.func9, Try.ntmps9
  go_wp2_with fail
  refine CC.out.mono ?_
  rintro e w' ⟨rfl, rfl⟩
  go_upto_region 2 with fail
  go_cut [20] (fun v20 wx => v20 = .bool false ∧ wx = w')
  case first =>
    by_cases h8 : b.size = 8
    · have h0 : 0 < b.size := by omega
      have hle := F2.out (by rw [← BS.out]; exact h8) b[0] (GET.out 0 h0)
      have d2 : decide ((127 : Int) < (b[0].toNat : Int)) = false := by simp; omega
      have d2' : decide (127 < b[0].toNat) = false := by simp; omega
      have d3 : ((b.size : Int) == 8) = true := by rw [h8]; rfl
      have d3' : (b.size == 8) = true := by rw [h8]; rfl
      clear h8 hle
      go_wp2_with fail
      go_meet
      exact ⟨rfl, rfl⟩
    · have d3 : ((b.size : Int) == 8) = false := by simp; omega
      have d3' : (b.size == 8) = false := by simp; omega
      clear h8
      go_wp2_with fail
      go_meet
      exact ⟨rfl, rfl⟩
  case rest =>
    obtain ⟨rfl, rfl⟩ := hcut
    have b8 : b.size ≤ 8 := by
      by_cases h : b.size ≤ 8
      · exact h
      · simp at d1'; omega
    clear d1 d1'
    go_wp2_with fail
    go_loop [4, 5] (fun nv iv => ∃ k : Nat, k ≤ b.size ∧ iv = .int .i64 k ∧ nv = .int .i64 (Nb.val (l.take k) : Nat)) (fun _ iv => b.size - (intOf iv).toNat)
    case atStart => exact ⟨0, Nat.zero_le _, rfl, by simp [Nb.val]⟩
    case round =>
      obtain ⟨k, hk, rfl, rfl⟩ := hrel
      by_cases hlt : k < b.size
      · have d4 : decide ((k : Int) < (b.size : Int)) = true := by simp; omega
        have hkl : k < l.length := by rw [← BS.out]; exact hlt
        have e1 : l[k] = b[k] := by
          have := GET.out k hlt
          rw [List.getElem?_eq_getElem hkl] at this
          injection this
        have es := Nb.val_take_succ l k hkl
        rw [e1] at es
        have hle := Nb.val_take_le l (k + 1)
        rw [HV.out, es] at hle
        have hn2 := HN.out
        have ES := Lib.hid es
        generalize Nb.val (l.take k) = x at *
        have x0 : (0 : Int) ≤ (x : Int) := by omega
        have x1 : (x : Int) * 256 ≤ 9223372036854775807 := by omega
        have y1 : (b[k].toNat : Int) ≤ 255 := by have := UInt8.toNat_lt b[k]; omega
        have y0 : (0 : Int) ≤ (b[k].toNat : Int) := by omega
        have x2 : (x : Int) * 256 + (b[k].toNat : Int) ≤ 9223372036854775807 := by omega
        clear e1 es hle hn2 hkl
        go_wp2_with fail
        go_round
        case rel => exact ⟨k + 1, by omega, by go_num, by rw [ES.out]; go_num⟩
        case measure => simp [intOf]; omega
      · obtain rfl : k = b.size := by omega
        have ev : Nb.val (l.take b.size) = n := by rw [BS.out, List.take_length, HV.out]
        rw [ev]
        have d4 : decide ((b.size : Int) < (b.size : Int)) = false := by simp
        clear ev
        go_wp2_with fail
        go_ret2
        exact ⟨rfl, rfl⟩
end Go.Proofs.Ytfligfompdcddaa
