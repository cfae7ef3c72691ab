/- Plain: the text of a merge's state. -/
import Derived.Test.YtpblfpnldbdncaaGreatDoorG17
namespace Go.Proofs.YtpblfpnldbdncaaGreatDoor
open Go.RowKit Go.Sort Go.Maps
open Sg (Rc)
open Mg (Mst Jd H)
set_option linter.unusedVariables false
def lineOf (ws : List (List UInt8)) : List UInt8 := Lib.join ws [32] ++ [10]
def outWords (st : Mst) (k : Int) : List (List UInt8) := [[111, 117, 116, 112, 117, 116], Lib.itoa k, Sg.hex ((st.outs k).getD Mg.zeroH)]
def countW (b : Bool) : List UInt8 := if b then [49] else [48]
def rcWords (k : Int) (j : Jd) : List (List UInt8) := [[114, 101, 99, 101, 105, 112, 116], Lib.itoa k, Lib.itoa j.rc.serial, Sg.hex j.h, countW j.counts]
def clWords (k : Int) (a b : Rc) : List (List UInt8) := [[99, 108, 111, 110, 101], Lib.itoa k, Sg.hex (rch a), Sg.hex (rch b)]
def outLine (st : Mst) (k : Int) : List UInt8 := lineOf (outWords st k)
def rcLine (k : Int) (j : Jd) : List UInt8 := lineOf (rcWords k j)
noncomputable def rcLines (st : Mst) (k : Int) : List UInt8 := (st.judged rch k).flatMap (rcLine k)
def clLine (st : Mst) (k : Int) : List UInt8 := match st.clones k with
  | some (a, b) => lineOf (clWords k a b)
  | none => []
noncomputable def encT (st : Mst) (ko ks kc : List Int) : List UInt8 := ko.flatMap (outLine st) ++ (ks.flatMap (rcLines st) ++ kc.flatMap (clLine st))
theorem outWords_len (st : Mst) {k : Int} (hk : I64 k) (h : ((st.outs k).getD Mg.zeroH).length = 32) : (Lib.join (outWords st k) [32]).length ≤ 200 := by
  have h1 := itoa_size hk
  simp only [outWords, Lib.join, List.intercalate, List.intersperse, List.flatten_cons, List.flatten_nil, List.length_append, List.length_cons, List.length_nil, hex_length, h]
  omega
theorem rcWords_len {k : Int} {j : Jd} (hk : I64 k) (h : JdOk j) : (Lib.join (rcWords k j) [32]).length ≤ 200 := by
  have h1 := itoa_size hk
  have h2 := itoa_size h.rc.serial
  have h3 : (countW j.counts).length = 1 := by unfold countW; cases j.counts <;> rfl
  simp only [rcWords, Lib.join, List.intercalate, List.intersperse, List.flatten_cons, List.flatten_nil, List.length_append, List.length_cons, List.length_nil, hex_length, h.h, h3]
  omega
theorem clWords_len {k : Int} (a b : Rc) (hk : I64 k) : (Lib.join (clWords k a b) [32]).length ≤ 200 := by
  have h1 := itoa_size hk
  simp only [clWords, Lib.join, List.intercalate, List.intersperse, List.flatten_cons, List.flatten_nil, List.length_append, List.length_cons, List.length_nil, hex_length, rch_length]
  omega
theorem flat_len {α : Type} (f : α → List UInt8) (m : Nat) : ∀ l : List α, (∀ x ∈ l, (f x).length ≤ m) → (l.flatMap f).length ≤ l.length * m
  | [], _ => by simp
  | x :: l, h => by
    have h1 := flat_len f m l fun y hy => h y (List.mem_cons_of_mem _ hy)
    have h2 := h x (List.mem_cons_self ..)
    rw [List.flatMap_cons, List.length_append, List.length_cons, Nat.add_mul]
    omega
theorem flat_snoc {α : Type} (f : α → List UInt8) {l : List α} {i : Nat} {x : α} (h : l[i]? = some x) : (l.take (i + 1)).flatMap f = (l.take i).flatMap f ++ f x := by
  rw [List.take_add_one, h, List.flatMap_append]
  simp
end Go.Proofs.YtpblfpnldbdncaaGreatDoor
