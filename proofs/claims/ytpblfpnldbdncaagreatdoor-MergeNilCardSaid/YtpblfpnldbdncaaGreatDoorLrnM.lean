/- Learn of a merge and of the reference, beside each other. -/
import Derived.Test.YtpblfpnldbdncaaGreatDoorLearnsP
namespace Go.Proofs.YtpblfpnldbdncaaGreatDoor
open Go.RowKit Go.Sort Go.Maps
open Sg (Rc)
open Mg (Mst Jd H)
set_option linter.unusedVariables false
/-- the reference's Learn beside a merge and more -/
theorem rlearn_mid {p q m : Nat} {st : Mst} {L : List Ot} {B : Thing} {w0 w : World} (h : Has (((MrgT p st m).both (RMT q L)).both B) w0 w) (o : Ot) (ho : OtOk o) (hs : L.Pairwise (fun a b => a.rd < b.rd)) (hn : L.length ≤ 1000) :
    Calls Tryz.prog 28 #[.pointer (some ⟨q, 0, none⟩), .agg (otArr o)] w (Out1 (((MrgT p st m).both (RMT q (rlearnO L o).1)).both B) w0 (.int .i64 (learnErr (rlearnO L o).2))) :=
  (rlearn_has h.assoc.rot o ho hs hn).mono fun e w' ⟨h1, h2⟩ => ⟨h1, h2.rot.rot.assoc'⟩
theorem learn_mid {p q m : Nat} {st : Mst} {L : List Ot} {B : Thing} {w0 w : World} (h : Has (((MrgT p st m).both (RMT q L)).both B) w0 w) (o : Ot) (ho : OtOk o) (hn : m ≤ 100000) :
    Calls Tryz.prog 16 #[.pointer (some ⟨p, 0, none⟩), .agg (otArr o)] w (Out1 (((MrgT p (st.learn o.rd o.hash).1 (m + 1)).both (RMT q L)).both B) w0 (.int .i64 (learnErr (st.learn o.rd o.hash).2))) :=
  (learn_has h.assoc o ho hn).mono fun e w' ⟨h1, h2⟩ => ⟨h1, h2.assoc'⟩
theorem own_nil_slice {P : Program} {α : Type} {R : Rk P α} {w : World} {B : Nat} {v : Value} (h : OwnsR R w B v []) : ∃ ao cap, v = .slice ao 0 cap := by
  obtain ⟨ao, cap, h | h⟩ := h.lies.slice (n := 0) rfl
  · exact ⟨ao, cap, h.1⟩
  · exact ⟨ao, cap, h.1⟩
end Go.Proofs.YtpblfpnldbdncaaGreatDoor
