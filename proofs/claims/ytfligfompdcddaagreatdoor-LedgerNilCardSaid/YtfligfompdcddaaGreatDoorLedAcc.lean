/- Accounts by numbers. -/
import Derived.Test.YtfligfompdcddaaGreatDoorLedSmall
import Derived.Test.YtfligfompdcddaaGreatDoorNatD
namespace Go.Proofs.YtfligfompdcddaaGreatDoor
open Go.RowKit Go.Sort Go.Maps
set_option linter.unusedVariables false
/-- a posting by numbers -/
structure Num where
  key : Int
  src : Int
  dst : Int
  amt : Int
def Num.arr (a : Num) : Array Value := #[.int .i64 a.key, .int .i64 a.src, .int .i64 a.dst, .int .i64 a.amt]
namespace Led
/-- an account by its number -/
def acc (n : Int) : ByteArray :=
  if (n.tmod 7 + 7) % 7 = 0 then ⟨#[109, 105, 110, 116]⟩ else if (n.tmod 7 + 7) % 7 = 1 then ⟨#[112, 111, 116]⟩ else if (n.tmod 7 + 7) % 7 = 2 then ⟨#[111, 102, 102, 105, 99, 101]⟩
  else if (n.tmod 7 + 7) % 7 = 3 then ⟨#[109, 105, 110, 116, 115]⟩ else if (n.tmod 7 + 7) % 7 = 4 then ⟨#[97]⟩ else if (n.tmod 7 + 7) % 7 = 5 then ⟨#[98]⟩ else ⟨#[]⟩
theorem acc_size (n : Int) : (acc n).size ≤ 6 := by
  unfold acc
  split
  · exact Nat.le_of_ble_eq_true rfl
  split
  · exact Nat.le_of_ble_eq_true rfl
  split
  · exact Nat.le_of_ble_eq_true rfl
  split
  · exact Nat.le_of_ble_eq_true rfl
  split
  · exact Nat.le_of_ble_eq_true rfl
  split
  · exact Nat.le_of_ble_eq_true rfl
  · exact Nat.le_of_ble_eq_true rfl
/-- a key by its number -/
def ky (n : Int) : ByteArray := if n.tmod 31 = 30 then ⟨#[]⟩ else ⟨#[107]⟩ ++ bstr (Lib.itoa ((n.tmod 12 + 12) % 12))
def pst (a : Num) : Pst := ⟨ky a.key, acc a.src, acc a.dst, a.amt⟩
theorem itoa_small {z : Int} (h0 : 0 ≤ z) (h1 : z ≤ 11) : (Lib.itoa z).length ≤ 2 := by
  unfold Lib.itoa
  rw [if_neg (by omega)]
  exact digits_length _ 2 (by omega) (by omega)
theorem ky_size (n : Int) : (ky n).size ≤ 3 := by
  unfold ky
  split
  · exact Nat.le_of_ble_eq_true rfl
  · rw [ByteArray.size_append, bstr_size]
    have l1 := Int.tmod_lt_of_pos n (show (0 : Int) < 12 by omega)
    have l2 := Int.lt_tmod_of_pos n (show (0 : Int) < 12 by omega)
    have := itoa_small (z := (n.tmod 12 + 12) % 12) (by omega) (by omega)
    show 1 + _ ≤ 3
    omega
end Led
set_option maxHeartbeats 2000000 in
theorem account_any (n : Int) (w : World) : Calls Tryz.prog 46 #[.int .i64 n] w fun e w' => e = .returned (.string (Led.acc n)) ∧ Below w.heap.size w w' := by
  have l1 := Int.tmod_lt_of_pos n (show (0 : Int) < 7 by omega)
  have l2 := Int.lt_tmod_of_pos n (show (0 : Int) < 7 by omega)
  have l3 : 0 ≤ n.tmod 7 + 7 := by omega
  have l4 : n.tmod 7 + 7 ≤ 13 := by omega
  have ho : ∃ r, (n.tmod 7 + 7) % 7 = r ∧ (r = 0 ∨ r = 1 ∨ r = 2 ∨ r = 3 ∨ r = 4 ∨ r = 5 ∨ r = 6) := ⟨_, rfl, by omega⟩
  obtain ⟨r, hr, ho⟩ := ho
  have EA : Hid (Led.acc n = if r = 0 then ⟨#[109, 105, 110, 116]⟩ else if r = 1 then ⟨#[112, 111, 116]⟩ else if r = 2 then ⟨#[111, 102, 102, 105, 99, 101]⟩
  else if r = 3 then ⟨#[109, 105, 110, 116, 115]⟩ else if r = 4 then ⟨#[97]⟩ else if r = 5 then ⟨#[98]⟩ else ⟨#[]⟩) := by
    show _ = _
    unfold Led.acc
    rw [hr]
  rcases ho with rfl | rfl | rfl | rfl | rfl | rfl | rfl
  all_goals
    go_enter Tryz.func46, Tryz.ntmps46
    go_wp2_with fail
    go_ret
    exact ⟨by rw [EA.out]; rfl, (Below.refl _ _).alloc (Nat.le_refl _) _⟩
end Go.Proofs.YtfligfompdcddaaGreatDoor
