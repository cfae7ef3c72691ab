/- Numbers as strings of bytes, the greatest first (plain). Contracts of the reference's numbers: Canon, Of, Int, small. Contracts of the reference's numbers: small, and Quo in its small way. -/
import Derived.Lib.ItoaNum
import Derived.Test.YtpblfpnldbdncaaGreatDoorG03
import Derived.Test.YtpblfpnldbdncaaGreatDoorG02
import Derived.Test.YtpblfpnldbdncaaGreatDoorProg
import Derived.Deep.Cut
import Derived.Deep.CutBlock
import Derived.Deep.DeepCutAuto
import Derived.Deep.AppendLies
import Derived.LoopTactic
import Derived.WalkSpells
import Derived.IntWalk
namespace Go.Proofs.YtpblfpnldbdncaaGreatDoor
set_option linter.unusedVariables false
namespace Nb
theorem snoc_rec {α : Type} {P : List α → Prop} (nil : P []) (append_singleton : ∀ l a, P l → P (l ++ [a])) (l : List α) : P l := by
  have h : ∀ m : List α, P m.reverse := by
    intro m
    induction m with
    | nil => exact nil
    | cons a m ih => rw [List.reverse_cons]; exact append_singleton _ _ ih
  have := h l.reverse
  rwa [List.reverse_reverse] at this
/-- the number of a list of bytes -/
def val (l : List UInt8) : Nat := l.foldl (fun r b => r * 256 + b.toNat) 0
/-- .. without zeros in front -/
def canon (l : List UInt8) : List UInt8 := l.dropWhile (· == 0)
/-- the bytes of a number -/
def enc (n : Nat) : List UInt8 := if h : n = 0 then [] else enc (n / 256) ++ [UInt8.ofNat (n % 256)]
termination_by n
decreasing_by omega
def str (n : Nat) : ByteArray := ⟨(enc n).toArray⟩
theorem val_snoc (l : List UInt8) (b : UInt8) : val (l ++ [b]) = val l * 256 + b.toNat := by simp [val]
theorem val_append (l m : List UInt8) : val (l ++ m) = val l * 256 ^ m.length + val m := by
  induction m using snoc_rec with
  | nil => simp [val]
  | append_singleton m b ih =>
    rw [← List.append_assoc, val_snoc, ih, val_snoc, List.length_append, List.length_singleton, Nat.pow_succ, Nat.add_mul, Nat.mul_assoc, Nat.add_assoc]
theorem enc_zero : enc 0 = [] := by rw [enc]; rfl
theorem enc_pos {n : Nat} (h : n ≠ 0) : enc n = enc (n / 256) ++ [UInt8.ofNat (n % 256)] := by
  conv => lhs; rw [enc]
  rw [dif_neg h]
theorem val_enc (n : Nat) : val (enc n) = n := by
  induction n using Nat.strongRecOn with
  | _ n ih =>
    by_cases h : n = 0
    · subst h; rw [enc_zero]; rfl
    · rw [enc_pos h, val_snoc, ih (n / 256) (by omega)]
      simp only [UInt8.toNat_ofNat']
      omega
theorem val_lt (l : List UInt8) : val l < 256 ^ l.length := by
  induction l using snoc_rec with
  | nil => simp [val]
  | append_singleton l b ih =>
    rw [val_snoc, List.length_append, List.length_singleton, Nat.pow_succ]
    have := UInt8.toNat_lt b
    omega
theorem enc_val_snoc (l : List UInt8) (b : UInt8) (h : l ≠ [] → enc (val l) = l) (hl : l = [] → b ≠ 0) (hv : l ≠ [] → val l ≠ 0) : enc (val (l ++ [b])) = l ++ [b] := by
  have hb := UInt8.toNat_lt b
  have e1 : (val l * 256 + b.toNat) / 256 = val l := by omega
  have e2 : (val l * 256 + b.toNat) % 256 = b.toNat := by omega
  have e3 : UInt8.ofNat b.toNat = b := by simp
  rw [val_snoc]
  by_cases hn : l = []
  · subst hn
    have hb0 : b.toNat ≠ 0 := fun e => hl rfl (by rw [← e3, e]; rfl)
    rw [enc_pos (by simp [val]; exact hb0), e1, e2, e3]
    rw [show val [] = 0 from rfl, enc_zero]
  · have := hv hn
    rw [enc_pos (by omega), e1, e2, e3, h hn]
/-- a list that does not begin with a zero is the bytes of its number -/
theorem enc_val_of {l : List UInt8} (h : l.head? ≠ some 0) : enc (val l) = l ∧ (l ≠ [] → val l ≠ 0) := by
  induction l using snoc_rec with
  | nil => exact ⟨by rw [show val [] = 0 from rfl, enc_zero], fun h => absurd rfl h⟩
  | append_singleton l b ih =>
    by_cases hn : l = []
    · subst hn
      have hb : b ≠ 0 := fun e => h (by rw [e]; rfl)
      refine ⟨enc_val_snoc [] b (fun h => absurd rfl h) (fun _ => hb) (fun h => absurd rfl h), fun _ e => hb ?_⟩
      have : b.toNat = 0 := by simpa [val] using e
      have e3 : UInt8.ofNat b.toNat = b := by simp
      rw [← e3, this]; rfl
    · have hh : l.head? ≠ some 0 := by
        intro e
        apply h
        cases l with
        | nil => exact absurd rfl hn
        | cons a l => simpa using e
      obtain ⟨i1, i2⟩ := ih hh
      refine ⟨enc_val_snoc l b (fun _ => i1) (fun e => absurd e hn) i2, fun _ => ?_⟩
      rw [val_snoc]
      have := i2 hn
      omega
theorem canon_head (l : List UInt8) : (canon l).head? ≠ some 0 := by
  unfold canon
  induction l with
  | nil => simp
  | cons a l ih =>
    by_cases h : a = 0
    · subst h; simpa using ih
    · have : (a == 0) = false := by simpa using h
      rw [List.dropWhile_cons, this]
      simpa using h
theorem val_canon (l : List UInt8) : val (canon l) = val l := by
  unfold canon
  induction l with
  | nil => rfl
  | cons a l ih =>
    by_cases h : a = 0
    · subst h
      rw [List.dropWhile_cons, if_pos (by simp), ih]
      simp [val]
    · have : (a == 0) = false := by simpa using h
      rw [List.dropWhile_cons, this]; rfl
theorem enc_val (l : List UInt8) : enc (val l) = canon l := by
  rw [← val_canon]
  exact (enc_val_of (canon_head l)).1
theorem enc_head (n : Nat) : (enc n).head? ≠ some 0 := by
  have := enc_val (enc n)
  rw [val_enc] at this
  rw [this]
  exact canon_head _
theorem canon_enc (n : Nat) : canon (enc n) = enc n := by rw [← enc_val, val_enc]
theorem enc_length_le (n k : Nat) : (enc n).length ≤ k ↔ n < 256 ^ k := by
  constructor
  · intro h
    have := val_lt (enc n)
    rw [val_enc] at this
    exact Nat.lt_of_lt_of_le this (Nat.pow_le_pow_right (by omega) h)
  · intro h
    induction k generalizing n with
    | zero =>
      have : n = 0 := by simpa using h
      subst this
      rw [enc_zero]; exact Nat.le_refl _
    | succ k ih =>
      by_cases h0 : n = 0
      · subst h0; rw [enc_zero]; simp
      · rw [enc_pos h0, List.length_append, List.length_singleton]
        have := ih (n / 256) (by rw [Nat.pow_succ] at h; omega)
        omega
theorem canon_drop {l : List UInt8} {k : Nat} (h0 : ∀ j, j < k → l[j]? = some 0) (hk : l[k]? ≠ some 0) : canon l = l.drop k := by
  unfold canon
  induction l generalizing k with
  | nil => simp
  | cons a l ih =>
    cases k with
    | zero =>
      have h : a ≠ 0 := fun e => hk (by rw [e]; rfl)
      have : (a == 0) = false := by simpa using h
      rw [List.dropWhile_cons, this]; rfl
    | succ k =>
      have h : a = 0 := by have := h0 0 (by omega); simpa using this
      subst h
      rw [List.dropWhile_cons, if_pos (by simp), ih (k := k) (fun j hj => by have := h0 (j + 1) (by omega); simpa using this) (by simpa using hk)]
      rfl
/-- eight bytes of a number -/
def eight (n : Nat) (j : Nat) : List UInt8 := (List.range j).map fun i => UInt8.ofNat (n / 256 ^ (7 - i) % 256)
theorem eight_succ (n j : Nat) : eight n (j + 1) = eight n j ++ [UInt8.ofNat (n / 256 ^ (7 - j) % 256)] := by
  unfold eight
  rw [List.range_succ, List.map_append]; rfl
theorem val_eight (n j : Nat) (hj : j ≤ 8) (hn : n < 256 ^ 8) : val (eight n j) = n / 256 ^ (8 - j) := by
  induction j with
  | zero =>
    rw [show eight n 0 = [] from rfl, show val [] = 0 from rfl]
    exact (Nat.div_eq_of_lt hn).symm
  | succ j ih =>
    rw [eight_succ, val_snoc, ih (by omega)]
    simp only [UInt8.toNat_ofNat']
    have e : 8 - j = (7 - j) + 1 := by omega
    have e2 : 8 - (j + 1) = 7 - j := by omega
    rw [e, e2, Nat.pow_succ, ← Nat.div_div_eq_div_mul]
    omega
theorem canon_eight (n : Nat) (hn : n < 256 ^ 8) : canon (eight n 8) = enc n := by
  rw [← enc_val, val_eight n 8 (Nat.le_refl _) hn]
  simp
theorem val_take_le (l : List UInt8) (k : Nat) : val (l.take k) ≤ val l := by
  have h := val_append (l.take k) (l.drop k)
  rw [List.take_append_drop] at h
  rw [h]
  have h1 : 1 ≤ 256 ^ (l.drop k).length := Nat.one_le_pow _ _ (by omega)
  have h2 := Nat.le_mul_of_pos_right (val (l.take k)) h1
  omega
theorem val_take_succ (l : List UInt8) (k : Nat) (hk : k < l.length) : val (l.take (k + 1)) = val (l.take k) * 256 + (l[k]).toNat := by
  rw [List.take_succ_eq_append_getElem hk, val_snoc]
theorem val_head (l : List UInt8) (h : 0 < l.length) : (l[0]).toNat * 256 ^ (l.length - 1) ≤ val l ∧ val l < ((l[0]).toNat + 1) * 256 ^ (l.length - 1) := by
  have e : l = [l[0]] ++ l.drop 1 := by
    cases l with
    | nil => simp at h
    | cons a l => simp
  have hv : val l = (l[0]).toNat * 256 ^ (l.length - 1) + val (l.drop 1) := by
    conv => lhs; rw [e]
    rw [val_append, List.length_drop]
    congr 1
    simp [val]
  have hl := val_lt (l.drop 1)
  rw [List.length_drop] at hl
  rw [hv, Nat.add_mul]
  omega
/-- when a number fits an int: by its bytes -/
theorem fits_int (n : Nat) : n < 9223372036854775808 ↔ ((enc n).length ≤ 8 ∧ ((enc n).length = 8 → ∀ b, (enc n)[0]? = some b → b.toNat ≤ 127)) := by
  constructor
  · intro h
    have h8 : (enc n).length ≤ 8 := (enc_length_le n 8).2 (by omega)
    refine ⟨h8, fun e b hb => ?_⟩
    have h0 : 0 < (enc n).length := by omega
    have hh := (val_head (enc n) h0).1
    rw [val_enc, e] at hh
    rw [List.getElem?_eq_getElem h0] at hb
    injection hb with hb
    rw [hb] at hh
    omega
  · rintro ⟨h1, h2⟩
    by_cases e : (enc n).length = 8
    · have h0 : 0 < (enc n).length := by omega
      have hh := (val_head (enc n) h0).2
      rw [val_enc, e] at hh
      have := h2 e _ (List.getElem?_eq_getElem h0)
      have h3 : ((enc n)[0].toNat + 1) * 256 ^ (8 - 1) ≤ 128 * 256 ^ 7 := Nat.mul_le_mul_right _ (by omega)
      omega
    · have := (enc_length_le n 7).1 (by omega)
      omega
end Nb
end Go.Proofs.YtpblfpnldbdncaaGreatDoor
namespace Go.Proofs.YtpblfpnldbdncaaGreatDoor
open Go.RowKit Go.Sort
set_option linter.unusedVariables false
def bstr (l : List UInt8) : ByteArray := ⟨l.toArray⟩
theorem bstr_size (l : List UInt8) : (bstr l).size = l.length := by simp [bstr, ByteArray.size]
theorem bstr_toList (s : ByteArray) : bstr s.data.toList = s := by cases s; simp [bstr]
theorem extract_drop (s : ByteArray) (k : Nat) : s.extract k s.size = bstr (s.data.toList.drop k) := by
  apply ByteArray.ext
  simp [bstr]
  apply Array.toList_inj.1
  rw [Array.toList_extract]
  simp only [List.extract]
  rw [List.take_of_length_le (by rw [List.length_drop, Array.length_toList]; exact Nat.le_refl _)]
set_option maxHeartbeats 1000000 in
theorem canon_any (s : ByteArray) (w : World) (hs : s.size ≤ maxLen) : Calls Tryz.prog 101 #[.string s] w fun e w' => e = .returned (.string (bstr (Nb.canon s.data.toList))) ∧ w' = w := by
  unfold maxLen at hs
  go_enter Tryz.func101, Tryz.ntmps101
  go_upto_block 0 with fail
  go_cut [3] (fun v3 wx => ∃ k : Nat, v3 = .int .i64 k ∧ k ≤ s.size ∧ Nb.canon s.data.toList = s.data.toList.drop k ∧ wx = w)
  case first =>
    go_wp2_with fail
    go_loop [3] (fun i => ∃ k : Nat, k ≤ s.size ∧ i = .int .i64 k ∧ ∀ j, j < k → s.data.toList[j]? = some 0) (fun i => s.size - (intOf i).toNat)
    case atStart => exact ⟨0, Nat.zero_le _, rfl, fun j hj => by omega⟩
    case round =>
      obtain ⟨k, hk, rfl, hall⟩ := hrel
      have ALL := Lib.hid hall
      clear hall
      by_cases hlt : k < s.size
      · have eg : s.data.toList[k]? = some s[k] := by
          rw [Array.getElem?_toList, Array.getElem?_eq_getElem hlt]; rfl
        have EG := Lib.hid eg
        clear eg
        by_cases h0 : s[k] = 0
        · have b1 : ((s[k].toNat : Int) == 0) = true := by rw [h0]; rfl
          have b2 : (s[k].toNat == 0) = true := by rw [h0]; rfl
          have H0 := Lib.hid h0
          clear h0
          go_wp2_with fail
          go_round
          case rel => exact ⟨k + 1, by omega, by go_num, fun j hj => by
            by_cases e : j = k
            · subst e; rw [EG.out, H0.out]
            · exact ALL.out j (by omega)⟩
          case measure => simp [intOf]; omega
        · have hn : s[k].toNat ≠ 0 := fun e => h0 (by have : UInt8.ofNat s[k].toNat = s[k] := by simp
                                                      rw [← this, e]; rfl)
          have b1 : ((s[k].toNat : Int) == 0) = false := by simp; omega
          have b2 : (s[k].toNat == 0) = false := by simp; omega
          have CD := Lib.hid (Nb.canon_drop ALL.out (by rw [EG.out]; exact fun e => h0 (by injection e)))
          clear h0 hn
          go_wp2_with fail
          go_meet
          exact ⟨k, rfl, by omega, CD.out, rfl⟩
      · obtain rfl : k = s.size := by omega
        have CD := Lib.hid (Nb.canon_drop ALL.out (by rw [List.getElem?_eq_none (by show s.data.size ≤ _; exact Nat.le_refl _)]; exact fun e => by cases e))
        go_wp2_with fail
        go_meet
        exact ⟨_, rfl, Nat.le_refl _, CD.out, rfl⟩
  case rest =>
    obtain ⟨k, rfl, hk, he, rfl⟩ := hcut
    have HE : Hid (s.extract k s.size = bstr (Nb.canon s.data.toList)) := by show _ = _; rw [he, extract_drop]
    clear he
    go_wp2_with fail
    go_ret
    exact ⟨by rw [← HE.out]; rfl, rfl⟩
theorem byte_info : (Tryz.prog.info? 5).map (fun i => (i.zero, i.size, i.bytes)) = some (some (.int .u8 0), 1, 1) := by kernel_rfl
def bvals (l : List UInt8) : List Value := l.map fun b => .int .u8 (b.toNat : Int)
theorem bvals_length (l : List UInt8) : (bvals l).length = l.length := by simp [bvals]
theorem wpList_append_byte {ops : Array Oper} {rest : List Oper} {o : Oper} {a : Act} {w : World} {Q : Exit → Act → World → Prop} (hgd : o.guard = none) (s x : Operand)
    (ho : o.op = Op.call { callee := Callee.builtin Builtin.append, args := #[s, x], argTypes := #[67, 67] })
    (base : Nat) (v : Value) (xs : List UInt8) (y : UInt8) (B : Nat) (hsv : a.eval s = v) (hx : a.eval x = .slice (some ⟨B, 0, none⟩) 1 1) (hown : w.ownsRow base 5 1 v xs.length (bvals xs)) (hB : w.heap[B]? = some (.cells #[.int .u8 (y.toNat : Int)] 5 (0, 0))) (hl : xs.length ≤ 100000) (hb : base ≤ w.heap.size)
    (h : ∀ v' w', w'.ownsRow base 5 1 v' (xs ++ [y]).length (bvals (xs ++ [y])) → w.grownBy w' v.ownBlock → (v'.ownBlock = v.ownBlock ∨ ∃ k, v'.ownBlock = some k ∧ w.heap.size ≤ k) → wpList Tryz.prog ops Q rest (a.put o.dst v') w') :
    wpList Tryz.prog ops Q (o :: rest) a w := by
  obtain ⟨i0, hi, hz0, hz1, hz2⟩ := info_parts byte_info
  refine wpList_append_lies (P := Tryz.prog) w hgd s x 67 ho base 5 i0 _ 1 1 Tryz.underlying67 hi hz0 hz1 hz2 rfl (by omega) v xs.length (bvals xs) hsv hown ⟨B, 0, none⟩ 1 1 [.int .u8 (y.toNat : Int)] hx rfl (World.news_of_block hB)
    (by intro u hu; simp at hu; subst hu; rfl) (by omega) (by unfold maxLen; omega) (by omega) hb w.heap.size rfl ?_
  intro g cap w' hown' hgrow hat hlt
  refine h _ w' ?_ hgrow ?_
  · unfold bvals at hown' ⊢
    rw [List.map_append, List.length_append]
    exact hown'
  · rcases hat with e | e
    · exact .inl (by rw [e]; rfl)
    · exact .inr ⟨g, rfl, by omega⟩
theorem two_pow (j : Nat) (hj : j ≤ 7) : (2 : Nat) ^ (56 - 8 * j) = 256 ^ (7 - j) := by
  have e : 56 - 8 * j = 8 * (7 - j) := by omega
  rw [e, Nat.pow_mul]
theorem owns_kept8 {w w' : World} {base : Nat} {v : Value} {n : Nat} {xs : List Value} {row : Option Nat} (h : w.ownsRow base 5 1 v n xs) (hg : w.grownBy w' row) (hne : ∀ b, v.ownBlock = some b → row ≠ some b) : w'.ownsRow base 5 1 v n xs := by
  refine h.kept hg ?_
  rcases h.2 with ⟨rfl, _⟩ | ⟨g, cap, cur, rfl, _⟩
  · exact .inl rfl
  · exact .inr (fun e => hne g rfl e.symm)
theorem owns_lt8 {w : World} {base : Nat} {v : Value} {n : Nat} {xs : List Value} (h : w.ownsRow base 5 1 v n xs) : ∀ b, v.ownBlock = some b → base ≤ b ∧ b < w.heap.size := by
  intro b hb
  rcases h.2 with ⟨rfl, _⟩ | ⟨g, cap, cur, rfl, h1, h2, _⟩
  · cases hb
  · have : g = b := by simpa [Value.ownBlock] using hb
    subst this
    exact ⟨h1, (Array.getElem?_eq_some_iff.1 h2).1⟩
/-- 'string(b)' of a row of bytes that the call owns -/
theorem conv_owns {w : World} {base : Nat} {v : Value} {l : List UInt8} (h : w.ownsRow base 5 1 v l.length (bvals l)) (D : TypeId) (hd : Tryz.prog.underlying D = some .string) :
    (convert 67 D v).run Tryz.prog w = .ok (.string (bstr l)) w := by
  rcases h.2 with ⟨rfl, h0⟩ | ⟨g, cap, cur, rfl, _, hg, hc, _, hs, ht⟩
  · have : l = [] := List.eq_nil_of_length_eq_zero h0
    subst this
    rw [run_convert_bytes_string w 67 D 5 _ 0 0 Tryz.underlying67 Tryz.underlying5 hd]
    simp [Conv.bytesToString, Sem.run_pure, bstr]
    rfl
  · have hcell : ∀ i, i < l.length → w.cell? ⟨g, i, none⟩ = some (.int .u8 (((l.getD i 0).toNat : Nat) : Int)) := by
      intro i hi
      rw [cell_of_row _ _ _ _ _ _ hg]
      have : (cur.toList.take (l.length * 1))[i]? = (bvals l)[i]? := by rw [ht]
      rw [List.getElem?_take, if_pos (by omega), Array.getElem?_toList] at this
      rw [this]
      simp [bvals, hi]
    have := conv_row (P := Tryz.prog) (T := 5) (c := cap) (g := fun i => (l.getD i 0).toNat) Tryz.underlying67 Tryz.underlying5 hd hcell
    have e : (List.range l.length).map (fun i => UInt8.ofNat (l.getD i 0).toNat) = l := by
      apply List.ext_getElem
      · simp
      · intro i h1 h2
        simp [h2]
    rw [this, e]
    rfl
set_option maxHeartbeats 4000000 in
set_option maxRecDepth 100000 in
theorem of_any (n : Nat) (w : World) (hn : n < 9223372036854775808) : Calls Tryz.prog 78 #[.int .i64 n] w fun e w' => e = .returned (.string (bstr (Nb.enc n))) ∧ Below w.heap.size w w' := by
  by_cases h0 : n = 0
  · subst h0
    have EN := Lib.hid Nb.enc_zero
    have hcv := conv_owns (w := w) (base := 0) (v := .slice none 0 0) (l := []) ⟨rfl, .inl ⟨rfl, rfl⟩⟩ 40 Tryz.underlying40
    have CC := Lib.hid (canon_any (bstr []) w (by rw [bstr_size]; exact Nat.zero_le _))
    obtain ⟨z, hz⟩ : ∃ z : Int, ((0 : Nat) : Int) = z := ⟨_, rfl⟩
    have z0 : z = 0 := by rw [← hz]; rfl
    rw [hz]
    subst z0
    clear hz
    go_enter Tryz.func78, Tryz.ntmps78
    go_wp2_with fail
    go_loop [3, 4] (fun v kv => v = .slice none 0 0 ∧ kv = .int .i64 56) (fun _ _ => 0)
    case atStart => exact ⟨rfl, rfl⟩
    case round =>
      obtain ⟨rfl, rfl⟩ := hrel
      go_wp2_with fail
      refine CC.out.mono ?_
      rintro e w' ⟨rfl, rfl⟩
      go_wp2_with fail
      go_ret
      exact ⟨by rw [EN.out]; rfl, Below.refl _ _⟩
  · have d1 : decide ((0 : Int) < (n : Int)) = true := by simp; omega
    have d1' : decide (0 < n) = true := by simp; omega
    have HN := Lib.hid hn
    go_enter Tryz.func78, Tryz.ntmps78
    go_wp2_with fail
    go_loopw [3, 4] (fun v kv wr => ∃ j : Nat, j ≤ 8 ∧ kv = .int .i64 (56 - 8 * (j : Int)) ∧ wr.ownsRow w.heap.size 5 1 v (Nb.eight n j).length (bvals (Nb.eight n j)) ∧ Below w.heap.size w wr) (fun _ kv _ => (intOf kv + 8).toNat)
    case atStart => exact ⟨0, Nat.zero_le _, rfl, ⟨by simp [bvals], .inl ⟨rfl, rfl⟩⟩, Below.refl _ _⟩
    case round =>
      obtain ⟨j, hj, rfl, hO, hB⟩ := hrel
      have HO := Lib.hid hO
      have HB := Lib.hid hB
      clear hO hB
      by_cases hlt : j < 8
      · have d2 : decide ((0 : Int) ≤ 56 - 8 * (j : Int)) = true := by simp; omega
        have k0 : (0 : Int) ≤ 56 - 8 * (j : Int) := by omega
        have k1 : (56 : Int) - 8 * (j : Int) < 64 := by omega
        obtain ⟨y, hy⟩ : ∃ y : UInt8, UInt8.ofNat (n / 256 ^ (7 - j) % 256) = y := ⟨_, rfl⟩
        have ey : (n : Int) / 2 ^ (56 - 8 * j) % 256 = ((y.toNat : Nat) : Int) := by
          rw [← hy]
          simp only [UInt8.toNat_ofNat']
          have e1 : ((2 : Int) ^ (56 - 8 * j)) = (((256 : Nat) ^ (7 - j) : Nat) : Int) := by rw [← two_pow j (by omega)]; simp
          rw [e1]
          have e2 : n / 256 ^ (7 - j) % 256 % 2 ^ 8 = n / 256 ^ (7 - j) % 256 := by omega
          rw [e2]
          simp
        have ES : Hid (Nb.eight n (j + 1) = Nb.eight n j ++ [y]) := by show _ = _; rw [Nb.eight_succ, hy]
        have ga := World.grownBy_alloc wr (.cells #[.int .u8 ((n : Int) / 2 ^ (56 - 8 * j) % 256)] 5) none
        have OA := Lib.hid (owns_kept8 HO.out ga (fun b hb e => by cases e))
        have NA : Hid ((wr.alloc (.cells #[.int .u8 ((n : Int) / 2 ^ (56 - 8 * j) % 256)] 5)).heap[wr.heap.size]? = some (.cells #[.int .u8 (y.toNat : Int)] 5 (0, 0))) := by
          show _ = _
          rw [ey]
          exact heap_alloc_new _ _
        have BA : Hid (Below w.heap.size w (wr.alloc (.cells #[.int .u8 ((n : Int) / 2 ^ (56 - 8 * j) % 256)] 5))) := HB.out.alloc HB.out.size _
        have LE : Hid ((Nb.eight n j).length ≤ 100000) := by show _ ≤ _; unfold Nb.eight; simp; omega
        clear ga hy ey HO
        go_wp2_with (at_builtin; refine wpList_append_byte rfl (.tmp 13) (.tmp 18) rfl w.heap.size u3 (Nb.eight n j) y wr.heap.size rfl rfl OA.out NA.out LE.out BA.out.size ?_; intro v2 w2 hown2 hg2 hv2)
        go_roundw
        case rel => exact ⟨j + 1, by omega, by go_num, by rw [ES.out]; exact hown2, BA.out.grown hg2 BA.out.size (fun b e => (owns_lt8 OA.out b e).1)⟩
        case measure => simp [intOf]; omega
      · obtain rfl : j = 8 := by omega
        have hcv := conv_owns HO.out 40 Tryz.underlying40
        have e8 : Nb.canon (bstr (Nb.eight n 8)).data.toList = Nb.enc n := by
          have := Nb.canon_eight n (by have := HN.out; omega)
          simpa [bstr] using this
        have E8 := Lib.hid e8
        have CC := Lib.hid (canon_any (bstr (Nb.eight n 8)) wr (by rw [bstr_size]; unfold Nb.eight maxLen; simp))
        obtain ⟨s, hs⟩ : ∃ s, bstr (Nb.eight n 8) = s := ⟨_, rfl⟩
        rw [hs] at hcv CC E8
        clear e8 hs
        go_wp2_with fail
        refine CC.out.mono ?_
        rintro e w' ⟨rfl, rfl⟩
        go_wp2_with fail
        go_ret
        exact ⟨by rw [← E8.out]; rfl, HB.out⟩
theorem canon_str (s : ByteArray) (n : Nat) (h : Nb.val s.data.toList = n) : Nb.canon s.data.toList = Nb.enc n := by rw [← h, Nb.enc_val]
theorem val_str (n : Nat) : Nb.val (bstr (Nb.enc n)).data.toList = n := by
  have : (bstr (Nb.enc n)).data.toList = Nb.enc n := by simp [bstr]
  rw [this, Nb.val_enc]
theorem canon_num (s : ByteArray) (n : Nat) (w : World) (hs : s.size ≤ maxLen) (h : Nb.val s.data.toList = n) : Calls Tryz.prog 101 #[.string s] w fun e w' => e = .returned (.string (bstr (Nb.enc n))) ∧ w' = w := by
  rw [← canon_str s n h]
  exact canon_any s w hs
set_option maxHeartbeats 2000000 in
theorem int_yes (s : ByteArray) (n : Nat) (w : World) (hs : s.size ≤ maxLen) (h : Nb.val s.data.toList = n) (hn : n < 9223372036854775808) : Calls Tryz.prog 103 #[.string s] w fun e w' => e = .returned (.tuple #[.int .i64 n, .bool true]) ∧ w' = w := by
  have CC := Lib.hid (canon_num s n w hs h)
  obtain ⟨f1, f2⟩ := (Nb.fits_int n).1 hn
  obtain ⟨l, hl⟩ : ∃ l, Nb.enc n = l := ⟨_, rfl⟩
  rw [hl] at CC f1 f2
  have HV : Hid (Nb.val l = n) := by show _ = _; rw [← hl, Nb.val_enc]
  obtain ⟨b, hb⟩ : ∃ b, bstr l = b := ⟨_, rfl⟩
  have hbs : b.size = l.length := by rw [← hb, bstr_size]
  have hget : ∀ k (hk : k < b.size), l[k]? = some b[k] := by
    intro k hk
    subst hb
    rw [bstr_size] at hk
    simp [bstr, ByteArray.getElem_eq_getElem_data, hk]
  rw [hb] at CC
  have GET := Lib.hid hget
  have BS := Lib.hid hbs
  have HN := Lib.hid hn
  have d1 : decide ((8 : Int) < (b.size : Int)) = false := by simp; omega
  have d1' : decide (8 < b.size) = false := by simp; omega
  have b8 : b.size ≤ 8 := by omega
  have F2 := Lib.hid f2
  clear hl hb h hget hbs f1 f2 hn
  go_enter Tryz.func103, Tryz.ntmps103
  go_wp2_with fail
  refine CC.out.mono ?_
  rintro e w' ⟨rfl, rfl⟩
  go_upto_region 2 with fail
  go_cut [20] (fun v20 wx => v20 = .bool false ∧ wx = w')
  case first =>
    by_cases h8 : b.size = 8
    · have h0 : 0 < b.size := by omega
      have hle := F2.out (by rw [← BS.out]; exact h8) b[0] (GET.out 0 h0)
      have d2 : decide ((127 : Int) < (b[0].toNat : Int)) = false := by simp; omega
      have d2' : decide (127 < b[0].toNat) = false := by simp; omega
      have d3 : ((b.size : Int) == 8) = true := by rw [h8]; rfl
      have d3' : (b.size == 8) = true := by rw [h8]; rfl
      clear h8 hle
      go_wp2_with fail
      go_meet
      exact ⟨rfl, rfl⟩
    · have d3 : ((b.size : Int) == 8) = false := by simp; omega
      have d3' : (b.size == 8) = false := by simp; omega
      clear h8
      go_wp2_with fail
      go_meet
      exact ⟨rfl, rfl⟩
  case rest =>
    obtain ⟨rfl, rfl⟩ := hcut
    have b8 : b.size ≤ 8 := by
      by_cases h : b.size ≤ 8
      · exact h
      · simp at d1'; omega
    clear d1 d1'
    go_wp2_with fail
    go_loop [4, 5] (fun nv iv => ∃ k : Nat, k ≤ b.size ∧ iv = .int .i64 k ∧ nv = .int .i64 (Nb.val (l.take k) : Nat)) (fun _ iv => b.size - (intOf iv).toNat)
    case atStart => exact ⟨0, Nat.zero_le _, rfl, by simp [Nb.val]⟩
    case round =>
      obtain ⟨k, hk, rfl, rfl⟩ := hrel
      by_cases hlt : k < b.size
      · have d4 : decide ((k : Int) < (b.size : Int)) = true := by simp; omega
        have hkl : k < l.length := by rw [← BS.out]; exact hlt
        have e1 : l[k] = b[k] := by
          have := GET.out k hlt
          rw [List.getElem?_eq_getElem hkl] at this
          injection this
        have es := Nb.val_take_succ l k hkl
        rw [e1] at es
        have hle := Nb.val_take_le l (k + 1)
        rw [HV.out, es] at hle
        have hn2 := HN.out
        have ES := Lib.hid es
        generalize Nb.val (l.take k) = x at *
        have x0 : (0 : Int) ≤ (x : Int) := by omega
        have x1 : (x : Int) * 256 ≤ 9223372036854775807 := by omega
        have y1 : (b[k].toNat : Int) ≤ 255 := by have := UInt8.toNat_lt b[k]; omega
        have y0 : (0 : Int) ≤ (b[k].toNat : Int) := by omega
        have x2 : (x : Int) * 256 + (b[k].toNat : Int) ≤ 9223372036854775807 := by omega
        clear e1 es hle hn2 hkl
        go_wp2_with fail
        go_round
        case rel => exact ⟨k + 1, by omega, by go_num, by rw [ES.out]; go_num⟩
        case measure => simp [intOf]; omega
      · obtain rfl : k = b.size := by omega
        have ev : Nb.val (l.take b.size) = n := by rw [BS.out, List.take_length, HV.out]
        rw [ev]
        have d4 : decide ((b.size : Int) < (b.size : Int)) = false := by simp
        clear ev
        go_wp2_with fail
        go_ret2
        exact ⟨rfl, rfl⟩
end Go.Proofs.YtpblfpnldbdncaaGreatDoor
namespace Go.Proofs.YtpblfpnldbdncaaGreatDoor
open Go.RowKit Go.Sort
set_option linter.unusedVariables false
set_option maxHeartbeats 1000000 in
theorem small_yes (s : ByteArray) (n k : Nat) (w : World) (hs : s.size ≤ maxLen) (h : Nb.val s.data.toList = n) (hk : k ≤ 7) (hn : n < 256 ^ k) :
    Calls Tryz.prog 123 #[.string s, .int .i64 k] w fun e w' => e = .returned (.tuple #[.int .i64 n, .bool true]) ∧ w' = w := by
  have hn7 : n < 256 ^ 7 := Nat.lt_of_lt_of_le hn (Nat.pow_le_pow_right (by omega) hk)
  have CC := Lib.hid (canon_num s n w hs h)
  have CI := Lib.hid (int_yes s n w hs h (by omega))
  have hl := (Nb.enc_length_le n k).2 hn
  obtain ⟨b, hb⟩ : ∃ b, bstr (Nb.enc n) = b := ⟨_, rfl⟩
  have hbs : b.size = (Nb.enc n).length := by rw [← hb, bstr_size]
  rw [hb] at CC
  have d1 : decide ((k : Int) < (b.size : Int)) = false := by simp; omega
  have d1' : decide (k < b.size) = false := by simp; omega
  have b8 : b.size ≤ 9223372036854775807 := by omega
  clear hl hb hbs h hn hn7 hk
  go_enter Tryz.func123, Tryz.ntmps123
  go_wp2_with fail
  refine CC.out.mono ?_
  rintro e w' ⟨rfl, rfl⟩
  go_wp2_with fail
  refine CI.out.mono ?_
  rintro e w' ⟨rfl, rfl⟩
  go_wp2_with fail
  go_ret2
  exact ⟨rfl, rfl⟩
set_option maxHeartbeats 1000000 in
theorem small_no (s : ByteArray) (n k : Nat) (w : World) (hs : s.size ≤ maxLen) (h : Nb.val s.data.toList = n) (hk : k ≤ 7) (hn : 256 ^ k ≤ n) :
    Calls Tryz.prog 123 #[.string s, .int .i64 k] w fun e w' => e = .returned (.tuple #[.int .i64 0, .bool false]) ∧ w' = w := by
  have CC := Lib.hid (canon_num s n w hs h)
  have hl : ¬ (Nb.enc n).length ≤ k := fun e => by have := (Nb.enc_length_le n k).1 e; omega
  obtain ⟨b, hb⟩ : ∃ b, bstr (Nb.enc n) = b := ⟨_, rfl⟩
  have hbs : b.size = (Nb.enc n).length := by rw [← hb, bstr_size]
  rw [hb] at CC
  have d1 : decide ((k : Int) < (b.size : Int)) = true := by simp; omega
  have d1' : decide (k < b.size) = true := by simp; omega
  clear hl hb hbs h hn hk
  go_enter Tryz.func123, Tryz.ntmps123
  go_wp2_with fail
  refine CC.out.mono ?_
  rintro e w' ⟨rfl, rfl⟩
  go_wp2_with fail
  go_ret2
  exact ⟨rfl, rfl⟩
theorem of_int (z : Int) (n : Nat) (w : World) (hz : z = n) (hn : n < 9223372036854775808) : Calls Tryz.prog 78 #[.int .i64 z] w fun e w' => e = .returned (.string (bstr (Nb.enc n))) ∧ Below w.heap.size w w' := by
  rw [hz]; exact of_any n w hn
theorem str_size (n k : Nat) (hn : n < 256 ^ k) : (bstr (Nb.enc n)).size ≤ k := by rw [bstr_size]; exact (Nb.enc_length_le n k).2 hn
/-- a division goes as it should -/
def QuoOk (a b : Nat) : Prop := ∀ w, Calls Tryz.prog 102 #[.string (bstr (Nb.enc a)), .string (bstr (Nb.enc b))] w fun e w' => e = .returned (.tuple #[.string (bstr (Nb.enc (a / b))), .string (bstr (Nb.enc (a % b))), .bool true]) ∧ Below w.heap.size w w'
set_option maxHeartbeats 2000000 in
theorem quo_small (a b : Nat) (ha : a < 256 ^ 7) (hb : b < 256 ^ 7) (h0 : b ≠ 0) : QuoOk a b := by
  intro w
  have sa := str_size a 7 ha
  have sb := str_size b 7 hb
  have C0 := Lib.hid (canon_num _ b w (by unfold maxLen; omega) (val_str b))
  have C1 := Lib.hid (small_yes _ a 7 w (by unfold maxLen; omega) (val_str a) (Nat.le_refl _) ha)
  have C2 := Lib.hid (small_yes _ b 7 w (by unfold maxLen; omega) (val_str b) (Nat.le_refl _) hb)
  have hd : a / b < 9223372036854775808 := Nat.lt_of_le_of_lt (Nat.div_le_self _ _) (by omega)
  have hm : a % b < 9223372036854775808 := Nat.lt_of_le_of_lt (Nat.mod_le _ _) (by omega)
  have C3 : Hid (∀ V, Calls Tryz.prog 78 #[.int .i64 ((a : Int) / (b : Int))] V fun e w' => e = .returned (.string (bstr (Nb.enc (a / b)))) ∧ Below V.heap.size V w') := fun V => of_int _ (a / b) V (by simp) hd
  have C4 : Hid (∀ V, Calls Tryz.prog 78 #[.int .i64 ((a : Int) % (b : Int))] V fun e w' => e = .returned (.string (bstr (Nb.enc (a % b)))) ∧ Below V.heap.size V w') := fun V => of_int _ (a % b) V (by simp) hm
  have nb : (bstr (Nb.enc b)).size ≠ 0 := by
    rw [bstr_size]
    intro e
    have : Nb.enc b = [] := List.eq_nil_of_length_eq_zero e
    have h1 := Nb.val_enc b
    rw [this] at h1
    exact h0 h1.symm
  generalize bstr (Nb.enc a) = A at *
  generalize bstr (Nb.enc b) = B at *
  generalize bstr (Nb.enc (a / b)) = R1 at *
  generalize bstr (Nb.enc (a % b)) = R2 at *
  have e0 : (B.size == 0) = false := beq_eq_false_iff_ne.2 nb
  have e1 : ((B.size : Int) == 0) = false := beq_eq_false_iff_ne.2 (by omega)
  have q0 : 0 ≤ (a : Int) / (b : Int) := Int.ediv_nonneg (by omega) (by omega)
  have q1 : (a : Int) / (b : Int) ≤ 72057594037927936 := by have := Int.ediv_le_self (b : Int) (show 0 ≤ (a : Int) by omega); omega
  have m0 : 0 ≤ (a : Int) % (b : Int) := Int.emod_nonneg _ (by omega)
  have m1 : (a : Int) % (b : Int) ≤ 72057594037927936 := by have := Int.emod_lt_of_pos (a : Int) (show 0 < (b : Int) by omega); omega
  have bz : ¬ (b : Int) = 0 := by omega
  have b1 : (1 : Int) ≤ (b : Int) := by omega
  have a0 : (0 : Int) ≤ (a : Int) := by omega
  clear sa sb ha hb nb hd hm h0
  go_enter Tryz.func102, Tryz.ntmps102
  go_wp2_with fail
  refine C0.out.mono ?_
  rintro e w' ⟨rfl, rfl⟩
  go_wp2_with fail
  refine C1.out.mono ?_
  rintro e w' ⟨rfl, rfl⟩
  go_wp2_with fail
  refine C2.out.mono ?_
  rintro e w' ⟨rfl, rfl⟩
  go_wp2_with fail
  refine wp_region_quiet_below (by kernel_rfl) (by kernel_rfl) ?_
  repeat (go_big_quiet_step (first | (with_reducible exact Calls.regrown_of (C3.out _)) | (with_reducible exact Calls.regrown_of (C4.out _))))
  refine wpQuiet_nil ?_
  intro _ hw'
  obtain ⟨⟨dq, osq⟩, hw''⟩ := hw'
  subst hw''
  have HB := Lib.hid (below_regrown w' dq osq)
  go_wp2_with fail
  go_ret3
  exact ⟨rfl, HB.out⟩
end Go.Proofs.YtpblfpnldbdncaaGreatDoor
