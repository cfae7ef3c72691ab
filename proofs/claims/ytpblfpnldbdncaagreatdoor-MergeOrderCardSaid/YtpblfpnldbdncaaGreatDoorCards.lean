/-
  DERIVED. GIVEN WITH THE SEED: THE CARDS: each row of YtpblfpnldbdncaaGreatDoorRows.lean that lists a variable, with what it lists TIED to the program's text (the seventh form; the later family's looks); each row that meets fmt, with fmt's text TOLD by the authors' own Lean function (tested against real Go, not proved from fmt's source: count such statements apart). THE CARD IS WHAT COUNTS. Prove the row's statement (the work); the ties are given (YtpblfpnldbdncaaGreatDoorTie.lean); close each card by the builder's one call (the guide's Derived/Test/ToyasCard.lean, 'card_holds'). Laid BY PROGRAM, IN A SANDBOX (cutbox-door.mjs). By AI agents, Wed Nov 11 2026. No macro, syntax, notation, axiom, sorry.
-/
import Derived.Test.YtpblfpnldbdncaaGreatDoorRows
import GoSem.ClaimSeven
namespace Go.Proofs.YtpblfpnldbdncaaGreatDoor
namespace Rows

/-- THE TIED CARD OF 'sorteslaw28.MergeClones'. -/
def mergeClonesCard : Claim7 := { stood := { row := mergeClonesRow, standIns := [], harness := (true, "eff93a5746c0c2cfa6e0c7a0110a8206a14427030d7e11970f3ffa7d5813b17a"), looks := false }, kinds := [], alts := [], laidByText := true, laidKinds := [.data, .data, .data, .data, .data], laidTests := true, laidLooks := .later }
def MergeClonesCardSaid : Prop := Claim7.holds Tryz.pinned (.plain (OpenSpec.ofChange mergeClonesSpec)) mergeClonesCard

/-- THE TIED CARD OF 'sorteslaw28.MergeBroken'. -/
def mergeBrokenCard : Claim7 := { stood := { row := mergeBrokenRow, standIns := [], harness := (true, "eff93a5746c0c2cfa6e0c7a0110a8206a14427030d7e11970f3ffa7d5813b17a"), looks := false }, kinds := [], alts := [], laidByText := true, laidKinds := [.data, .data, .data, .data, .data], laidTests := true, laidLooks := .later }
def MergeBrokenCardSaid : Prop := Claim7.holds Tryz.pinned (.plain (OpenSpec.ofChange mergeBrokenSpec)) mergeBrokenCard

/-- THE TIED CARD OF 'sorteslaw28.MergeHonest'. -/
def mergeHonestCard : Claim7 := { stood := { row := mergeHonestRow, standIns := [], harness := (true, "eff93a5746c0c2cfa6e0c7a0110a8206a14427030d7e11970f3ffa7d5813b17a"), looks := false }, kinds := [], alts := [], laidByText := true, laidKinds := [.data, .data, .data, .data, .data], laidTests := true, laidLooks := .later }
def MergeHonestCardSaid : Prop := Claim7.holds Tryz.pinned (.plain (OpenSpec.ofChange mergeHonestSpec)) mergeHonestCard

/-- THE TIED CARD OF 'sorteslaw28.MergeLearns'. -/
def mergeLearnsCard : Claim7 := { stood := { row := mergeLearnsRow, standIns := [], harness := (true, "eff93a5746c0c2cfa6e0c7a0110a8206a14427030d7e11970f3ffa7d5813b17a"), looks := false }, kinds := [], alts := [], laidByText := true, laidKinds := [.data, .data, .data, .data, .data], laidTests := true, laidLooks := .later }
def MergeLearnsCardSaid : Prop := Claim7.holds Tryz.pinned (.plain (OpenSpec.ofChange mergeLearnsSpec)) mergeLearnsCard

/-- THE TIED CARD OF 'sorteslaw28.MergeNil'. -/
def mergeNilCard : Claim7 := { stood := { row := mergeNilRow, standIns := [], harness := (true, "eff93a5746c0c2cfa6e0c7a0110a8206a14427030d7e11970f3ffa7d5813b17a"), looks := false }, kinds := [], alts := [], laidByText := true, laidKinds := [.data, .data, .data, .data, .data], laidTests := true, laidLooks := .later }
def MergeNilCardSaid : Prop := Claim7.holds Tryz.pinned (.plain (OpenSpec.ofChange mergeNilSpec)) mergeNilCard

/-- THE TIED CARD OF 'sorteslaw28.MergeKeeps'. -/
def mergeKeepsCard : Claim7 := { stood := { row := mergeKeepsRow, standIns := [], harness := (true, "eff93a5746c0c2cfa6e0c7a0110a8206a14427030d7e11970f3ffa7d5813b17a"), looks := false }, kinds := [], alts := [], laidByText := true, laidKinds := [.data, .data, .data, .data, .data], laidTests := true, laidLooks := .later }
def MergeKeepsCardSaid : Prop := Claim7.holds Tryz.pinned (.plain (OpenSpec.ofChange mergeKeepsSpec)) mergeKeepsCard

/-- THE TIED CARD OF 'sorteslaw28.MergeOrder'. -/
def mergeOrderCard : Claim7 := { stood := { row := mergeOrderRow, standIns := [], harness := (true, "eff93a5746c0c2cfa6e0c7a0110a8206a14427030d7e11970f3ffa7d5813b17a"), looks := false }, kinds := [], alts := [], laidByText := true, laidKinds := [.data, .data, .data, .data, .data], laidTests := true, laidLooks := .later }
def MergeOrderCardSaid : Prop := Claim7.holds Tryz.pinned (.plain (OpenSpec.ofChange mergeOrderSpec)) mergeOrderCard

/-- THE SECOND FORM's CARD OF 'sorteslaw28.MergeClones'. -/
def mergeClonesUptoCard : Claim7 := { stood := { row := mergeClonesUptoRow, standIns := [], harness := (true, "eff93a5746c0c2cfa6e0c7a0110a8206a14427030d7e11970f3ffa7d5813b17a"), looks := false }, kinds := [], alts := [], laidByText := true, laidKinds := [.data, .data, .data, .data, .data], laidTests := true, laidLooks := .later }
def MergeClonesUptoCardSaid : Prop := Claim7.holds Tryz.pinned (.plain (OpenSpec.upto mergeClonesSpec)) mergeClonesUptoCard

/-- THE SECOND FORM's CARD OF 'sorteslaw28.MergeBroken'. -/
def mergeBrokenUptoCard : Claim7 := { stood := { row := mergeBrokenUptoRow, standIns := [], harness := (true, "eff93a5746c0c2cfa6e0c7a0110a8206a14427030d7e11970f3ffa7d5813b17a"), looks := false }, kinds := [], alts := [], laidByText := true, laidKinds := [.data, .data, .data, .data, .data], laidTests := true, laidLooks := .later }
def MergeBrokenUptoCardSaid : Prop := Claim7.holds Tryz.pinned (.plain (OpenSpec.upto mergeBrokenSpec)) mergeBrokenUptoCard

/-- THE SECOND FORM's CARD OF 'sorteslaw28.MergeHonest'. -/
def mergeHonestUptoCard : Claim7 := { stood := { row := mergeHonestUptoRow, standIns := [], harness := (true, "eff93a5746c0c2cfa6e0c7a0110a8206a14427030d7e11970f3ffa7d5813b17a"), looks := false }, kinds := [], alts := [], laidByText := true, laidKinds := [.data, .data, .data, .data, .data], laidTests := true, laidLooks := .later }
def MergeHonestUptoCardSaid : Prop := Claim7.holds Tryz.pinned (.plain (OpenSpec.upto mergeHonestSpec)) mergeHonestUptoCard

/-- THE SECOND FORM's CARD OF 'sorteslaw28.MergeLearns'. -/
def mergeLearnsUptoCard : Claim7 := { stood := { row := mergeLearnsUptoRow, standIns := [], harness := (true, "eff93a5746c0c2cfa6e0c7a0110a8206a14427030d7e11970f3ffa7d5813b17a"), looks := false }, kinds := [], alts := [], laidByText := true, laidKinds := [.data, .data, .data, .data, .data], laidTests := true, laidLooks := .later }
def MergeLearnsUptoCardSaid : Prop := Claim7.holds Tryz.pinned (.plain (OpenSpec.upto mergeLearnsSpec)) mergeLearnsUptoCard

/-- THE SECOND FORM's CARD OF 'sorteslaw28.MergeNil'. -/
def mergeNilUptoCard : Claim7 := { stood := { row := mergeNilUptoRow, standIns := [], harness := (true, "eff93a5746c0c2cfa6e0c7a0110a8206a14427030d7e11970f3ffa7d5813b17a"), looks := false }, kinds := [], alts := [], laidByText := true, laidKinds := [.data, .data, .data, .data, .data], laidTests := true, laidLooks := .later }
def MergeNilUptoCardSaid : Prop := Claim7.holds Tryz.pinned (.plain (OpenSpec.upto mergeNilSpec)) mergeNilUptoCard

/-- THE SECOND FORM's CARD OF 'sorteslaw28.MergeKeeps'. -/
def mergeKeepsUptoCard : Claim7 := { stood := { row := mergeKeepsUptoRow, standIns := [], harness := (true, "eff93a5746c0c2cfa6e0c7a0110a8206a14427030d7e11970f3ffa7d5813b17a"), looks := false }, kinds := [], alts := [], laidByText := true, laidKinds := [.data, .data, .data, .data, .data], laidTests := true, laidLooks := .later }
def MergeKeepsUptoCardSaid : Prop := Claim7.holds Tryz.pinned (.plain (OpenSpec.upto mergeKeepsSpec)) mergeKeepsUptoCard

/-- THE SECOND FORM's CARD OF 'sorteslaw28.MergeOrder'. -/
def mergeOrderUptoCard : Claim7 := { stood := { row := mergeOrderUptoRow, standIns := [], harness := (true, "eff93a5746c0c2cfa6e0c7a0110a8206a14427030d7e11970f3ffa7d5813b17a"), looks := false }, kinds := [], alts := [], laidByText := true, laidKinds := [.data, .data, .data, .data, .data], laidTests := true, laidLooks := .later }
def MergeOrderUptoCardSaid : Prop := Claim7.holds Tryz.pinned (.plain (OpenSpec.upto mergeOrderSpec)) mergeOrderUptoCard
end Rows
end Go.Proofs.YtpblfpnldbdncaaGreatDoor
