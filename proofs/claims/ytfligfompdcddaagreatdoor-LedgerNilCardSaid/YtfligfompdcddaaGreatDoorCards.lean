/-
  DERIVED. GIVEN WITH THE SEED: THE CARDS: each row of YtfligfompdcddaaGreatDoorRows.lean that lists a variable, with what it lists TIED to the program's text (the seventh form; the later family's looks); each row that meets fmt, with fmt's text TOLD by the authors' own Lean function (tested against real Go, not proved from fmt's source: count such statements apart). THE CARD IS WHAT COUNTS. Prove the row's statement (the work); the ties are given (YtfligfompdcddaaGreatDoorTie.lean); close each card by the builder's one call (the guide's Derived/Test/ToyasCard.lean, 'card_holds'). Laid BY PROGRAM, IN A SANDBOX (cutbox-door.mjs). By AI agents, Wed Nov 11 2026. No macro, syntax, notation, axiom, sorry.
-/
import Derived.Test.YtfligfompdcddaaGreatDoorRows
import GoSem.ClaimSeven
namespace Go.Proofs.YtfligfompdcddaaGreatDoor
namespace Rows

/-- THE TIED CARD OF 'sorteslaw23.LedgerPlays'. -/
def ledgerPlaysCard : Claim7 := { stood := { row := ledgerPlaysRow, standIns := [], harness := (true, "cf1cff8db96bef0352fda82fe1faf11916d0dd84af5fc0d11e463fbf7d59dfd5"), looks := true }, kinds := [], alts := [], laidByText := true, laidKinds := [.data, .data, .data], laidTests := true, laidLooks := .later }
def LedgerPlaysCardSaid : Prop := Claim7.holds Tryz.pinned (.plain (OpenSpec.ofChange ledgerPlaysSpec)) ledgerPlaysCard

/-- THE TIED CARD OF 'sorteslaw23.LedgerAgain'. -/
def ledgerAgainCard : Claim7 := { stood := { row := ledgerAgainRow, standIns := [], harness := (true, "cf1cff8db96bef0352fda82fe1faf11916d0dd84af5fc0d11e463fbf7d59dfd5"), looks := true }, kinds := [], alts := [], laidByText := true, laidKinds := [.data, .data, .data], laidTests := true, laidLooks := .later }
def LedgerAgainCardSaid : Prop := Claim7.holds Tryz.pinned (.plain (OpenSpec.ofChange ledgerAgainSpec)) ledgerAgainCard

/-- THE TIED CARD OF 'sorteslaw23.LedgerCopies'. -/
def ledgerCopiesCard : Claim7 := { stood := { row := ledgerCopiesRow, standIns := [], harness := (true, "cf1cff8db96bef0352fda82fe1faf11916d0dd84af5fc0d11e463fbf7d59dfd5"), looks := true }, kinds := [], alts := [], laidByText := true, laidKinds := [.data, .data, .data], laidTests := true, laidLooks := .later }
def LedgerCopiesCardSaid : Prop := Claim7.holds Tryz.pinned (.plain (OpenSpec.ofChange ledgerCopiesSpec)) ledgerCopiesCard

/-- THE TIED CARD OF 'sorteslaw23.LedgerNil'. -/
def ledgerNilCard : Claim7 := { stood := { row := ledgerNilRow, standIns := [], harness := (true, "cf1cff8db96bef0352fda82fe1faf11916d0dd84af5fc0d11e463fbf7d59dfd5"), looks := true }, kinds := [], alts := [], laidByText := true, laidKinds := [.data, .data, .data], laidTests := true, laidLooks := .later }
def LedgerNilCardSaid : Prop := Claim7.holds Tryz.pinned (.plain (OpenSpec.ofChange ledgerNilSpec)) ledgerNilCard

/-- THE SECOND FORM's CARD OF 'sorteslaw23.LedgerPlays'. -/
def ledgerPlaysUptoCard : Claim7 := { stood := { row := ledgerPlaysUptoRow, standIns := [], harness := (true, "cf1cff8db96bef0352fda82fe1faf11916d0dd84af5fc0d11e463fbf7d59dfd5"), looks := true }, kinds := [], alts := [], laidByText := true, laidKinds := [.data, .data, .data], laidTests := true, laidLooks := .later }
def LedgerPlaysUptoCardSaid : Prop := Claim7.holds Tryz.pinned (.plain (OpenSpec.upto ledgerPlaysSpec)) ledgerPlaysUptoCard

/-- THE SECOND FORM's CARD OF 'sorteslaw23.LedgerAgain'. -/
def ledgerAgainUptoCard : Claim7 := { stood := { row := ledgerAgainUptoRow, standIns := [], harness := (true, "cf1cff8db96bef0352fda82fe1faf11916d0dd84af5fc0d11e463fbf7d59dfd5"), looks := true }, kinds := [], alts := [], laidByText := true, laidKinds := [.data, .data, .data], laidTests := true, laidLooks := .later }
def LedgerAgainUptoCardSaid : Prop := Claim7.holds Tryz.pinned (.plain (OpenSpec.upto ledgerAgainSpec)) ledgerAgainUptoCard

/-- THE SECOND FORM's CARD OF 'sorteslaw23.LedgerCopies'. -/
def ledgerCopiesUptoCard : Claim7 := { stood := { row := ledgerCopiesUptoRow, standIns := [], harness := (true, "cf1cff8db96bef0352fda82fe1faf11916d0dd84af5fc0d11e463fbf7d59dfd5"), looks := true }, kinds := [], alts := [], laidByText := true, laidKinds := [.data, .data, .data], laidTests := true, laidLooks := .later }
def LedgerCopiesUptoCardSaid : Prop := Claim7.holds Tryz.pinned (.plain (OpenSpec.upto ledgerCopiesSpec)) ledgerCopiesUptoCard

/-- THE SECOND FORM's CARD OF 'sorteslaw23.LedgerNil'. -/
def ledgerNilUptoCard : Claim7 := { stood := { row := ledgerNilUptoRow, standIns := [], harness := (true, "cf1cff8db96bef0352fda82fe1faf11916d0dd84af5fc0d11e463fbf7d59dfd5"), looks := true }, kinds := [], alts := [], laidByText := true, laidKinds := [.data, .data, .data], laidTests := true, laidLooks := .later }
def LedgerNilUptoCardSaid : Prop := Claim7.holds Tryz.pinned (.plain (OpenSpec.upto ledgerNilSpec)) ledgerNilUptoCard
end Rows
end Go.Proofs.YtfligfompdcddaaGreatDoor
