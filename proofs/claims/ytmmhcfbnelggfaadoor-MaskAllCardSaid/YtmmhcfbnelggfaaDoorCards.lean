/-
  DERIVED. GIVEN WITH THE SEED: THE CARDS: each row of YtmmhcfbnelggfaaDoorRows.lean that lists a variable, with what it lists TIED to the program's text (the seventh form; the later family's looks); each row that meets fmt, with fmt's text TOLD by the authors' own Lean function (tested against real Go, not proved from fmt's source: count such statements apart). THE CARD IS WHAT COUNTS. Prove the row's statement (the work); the ties are given (YtmmhcfbnelggfaaDoorTie.lean); close each card by the builder's one call (the guide's Derived/Test/ToyasCard.lean, 'card_holds'). Laid BY PROGRAM, IN A SANDBOX (cutbox-door.mjs). By AI agents, Wed Nov 11 2026. No macro, syntax, notation, axiom, sorry.
-/
import Derived.Test.YtmmhcfbnelggfaaDoorRows
import GoSem.ClaimSeven
namespace Go.Proofs.YtmmhcfbnelggfaaDoor
namespace Rows

/-- THE TIED CARD OF 'chordmaillaw13.MaskLists'. -/
def maskListsCard : Claim7 := { stood := { row := maskListsRow, standIns := [], harness := (true, "2d02f1cb67c71ac1ffe6289ea6040ef54dda54904d576e38377ce512b05d42c9"), looks := false }, kinds := [], alts := [], laidByText := true, laidKinds := [.data], laidTests := true, laidLooks := .later }
def MaskListsCardSaid : Prop := Claim7.holds Tryd.pinned (.plain (OpenSpec.ofChange maskListsSpec)) maskListsCard

/-- THE TIED CARD OF 'chordmaillaw13.MaskOne'. -/
def maskOneCard : Claim7 := { stood := { row := maskOneRow, standIns := [], harness := (true, "2d02f1cb67c71ac1ffe6289ea6040ef54dda54904d576e38377ce512b05d42c9"), looks := false }, kinds := [], alts := [], laidByText := true, laidKinds := [.data], laidTests := true, laidLooks := .later }
def MaskOneCardSaid : Prop := Claim7.holds Tryd.pinned (.plain (OpenSpec.ofChange maskOneSpec)) maskOneCard

/-- THE TIED CARD OF 'chordmaillaw13.MaskSets'. -/
def maskSetsCard : Claim7 := { stood := { row := maskSetsRow, standIns := [], harness := (true, "2d02f1cb67c71ac1ffe6289ea6040ef54dda54904d576e38377ce512b05d42c9"), looks := false }, kinds := [], alts := [], laidByText := true, laidKinds := [.data], laidTests := true, laidLooks := .later }
def MaskSetsCardSaid : Prop := Claim7.holds Tryd.pinned (.plain (OpenSpec.ofChange maskSetsSpec)) maskSetsCard

/-- THE TIED CARD OF 'chordmaillaw13.MaskAll'. -/
def maskAllCard : Claim7 := { stood := { row := maskAllRow, standIns := [], harness := (true, "2d02f1cb67c71ac1ffe6289ea6040ef54dda54904d576e38377ce512b05d42c9"), looks := false }, kinds := [], alts := [], laidByText := true, laidKinds := [.data], laidTests := true, laidLooks := .later }
def MaskAllCardSaid : Prop := Claim7.holds Tryd.pinned (.plain (OpenSpec.ofChange maskAllSpec)) maskAllCard

/-- THE TIED CARD OF 'chordmaillaw13.MaskPlaces'. -/
def maskPlacesCard : Claim7 := { stood := { row := maskPlacesRow, standIns := [], harness := (true, "2d02f1cb67c71ac1ffe6289ea6040ef54dda54904d576e38377ce512b05d42c9"), looks := false }, kinds := [], alts := [], laidByText := true, laidKinds := [.data], laidTests := true, laidLooks := .later }
def MaskPlacesCardSaid : Prop := Claim7.holds Tryd.pinned (.plain (OpenSpec.ofChange maskPlacesSpec)) maskPlacesCard

/-- THE SECOND FORM's CARD OF 'chordmaillaw13.MaskLists'. -/
def maskListsUptoCard : Claim7 := { stood := { row := maskListsUptoRow, standIns := [], harness := (true, "2d02f1cb67c71ac1ffe6289ea6040ef54dda54904d576e38377ce512b05d42c9"), looks := false }, kinds := [], alts := [], laidByText := true, laidKinds := [.data], laidTests := true, laidLooks := .later }
def MaskListsUptoCardSaid : Prop := Claim7.holds Tryd.pinned (.plain (OpenSpec.upto maskListsSpec)) maskListsUptoCard

/-- THE SECOND FORM's CARD OF 'chordmaillaw13.MaskOne'. -/
def maskOneUptoCard : Claim7 := { stood := { row := maskOneUptoRow, standIns := [], harness := (true, "2d02f1cb67c71ac1ffe6289ea6040ef54dda54904d576e38377ce512b05d42c9"), looks := false }, kinds := [], alts := [], laidByText := true, laidKinds := [.data], laidTests := true, laidLooks := .later }
def MaskOneUptoCardSaid : Prop := Claim7.holds Tryd.pinned (.plain (OpenSpec.upto maskOneSpec)) maskOneUptoCard

/-- THE SECOND FORM's CARD OF 'chordmaillaw13.MaskSets'. -/
def maskSetsUptoCard : Claim7 := { stood := { row := maskSetsUptoRow, standIns := [], harness := (true, "2d02f1cb67c71ac1ffe6289ea6040ef54dda54904d576e38377ce512b05d42c9"), looks := false }, kinds := [], alts := [], laidByText := true, laidKinds := [.data], laidTests := true, laidLooks := .later }
def MaskSetsUptoCardSaid : Prop := Claim7.holds Tryd.pinned (.plain (OpenSpec.upto maskSetsSpec)) maskSetsUptoCard

/-- THE SECOND FORM's CARD OF 'chordmaillaw13.MaskAll'. -/
def maskAllUptoCard : Claim7 := { stood := { row := maskAllUptoRow, standIns := [], harness := (true, "2d02f1cb67c71ac1ffe6289ea6040ef54dda54904d576e38377ce512b05d42c9"), looks := false }, kinds := [], alts := [], laidByText := true, laidKinds := [.data], laidTests := true, laidLooks := .later }
def MaskAllUptoCardSaid : Prop := Claim7.holds Tryd.pinned (.plain (OpenSpec.upto maskAllSpec)) maskAllUptoCard

/-- THE SECOND FORM's CARD OF 'chordmaillaw13.MaskPlaces'. -/
def maskPlacesUptoCard : Claim7 := { stood := { row := maskPlacesUptoRow, standIns := [], harness := (true, "2d02f1cb67c71ac1ffe6289ea6040ef54dda54904d576e38377ce512b05d42c9"), looks := false }, kinds := [], alts := [], laidByText := true, laidKinds := [.data], laidTests := true, laidLooks := .later }
def MaskPlacesUptoCardSaid : Prop := Claim7.holds Tryd.pinned (.plain (OpenSpec.upto maskPlacesSpec)) maskPlacesUptoCard
end Rows
end Go.Proofs.YtmmhcfbnelggfaaDoor
