/-
  DERIVED. GIVEN WITH THE SEED: THE CARDS: each row of YtidejmkknleijaaGreatDoorRows.lean that lists a variable, with what it lists TIED to the program's text (the seventh form; the later family's looks); each row that meets fmt, with fmt's text TOLD by the authors' own Lean function (tested against real Go, not proved from fmt's source: count such statements apart). THE CARD IS WHAT COUNTS. Prove the row's statement (the work); the ties are given (YtidejmkknleijaaGreatDoorTie.lean); close each card by the builder's one call (the guide's Derived/Test/ToyasCard.lean, 'card_holds'). Laid BY PROGRAM, IN A SANDBOX (cutbox-door.mjs). By AI agents, Wed Nov 11 2026. No macro, syntax, notation, axiom, sorry.
-/
import Derived.Test.YtidejmkknleijaaGreatDoorRows
import GoSem.ClaimSeven
namespace Go.Proofs.YtidejmkknleijaaGreatDoor
namespace Rows

/-- THE TIED CARD OF 'braidlaw37.DeliverChecks'. -/
def deliverChecksCard : Claim7 := { stood := { row := deliverChecksRow, standIns := [], harness := (true, "7896e778c9d2aaf5d167c68fa59bcd97685e87fd210a3b12aaf2ef5c599bd276"), looks := false }, kinds := [], alts := [], laidByText := true, laidKinds := [.data], laidTests := true, laidLooks := .later }
def DeliverChecksCardSaid : Prop := Claim7.holds Tryz.pinned (.plain (OpenSpec.ofChange deliverChecksSpec)) deliverChecksCard

/-- THE TIED CARD OF 'braidlaw37.DeliverNames'. -/
def deliverNamesCard : Claim7 := { stood := { row := deliverNamesRow, standIns := [], harness := (true, "7896e778c9d2aaf5d167c68fa59bcd97685e87fd210a3b12aaf2ef5c599bd276"), looks := false }, kinds := [], alts := [], laidByText := true, laidKinds := [.data], laidTests := true, laidLooks := .later }
def DeliverNamesCardSaid : Prop := Claim7.holds Tryz.pinned (.plain (OpenSpec.ofChange deliverNamesSpec)) deliverNamesCard

/-- THE TIED CARD OF 'braidlaw37.DeliverFeed'. -/
def deliverFeedCard : Claim7 := { stood := { row := deliverFeedRow, standIns := [], harness := (true, "7896e778c9d2aaf5d167c68fa59bcd97685e87fd210a3b12aaf2ef5c599bd276"), looks := false }, kinds := [], alts := [], laidByText := true, laidKinds := [.data], laidTests := true, laidLooks := .later }
def DeliverFeedCardSaid : Prop := Claim7.holds Tryz.pinned (.plain (OpenSpec.ofChange deliverFeedSpec)) deliverFeedCard

/-- THE TIED CARD OF 'braidlaw37.DeliverFirst'. -/
def deliverFirstCard : Claim7 := { stood := { row := deliverFirstRow, standIns := [], harness := (true, "7896e778c9d2aaf5d167c68fa59bcd97685e87fd210a3b12aaf2ef5c599bd276"), looks := false }, kinds := [], alts := [], laidByText := true, laidKinds := [.data], laidTests := true, laidLooks := .later }
def DeliverFirstCardSaid : Prop := Claim7.holds Tryz.pinned (.plain (OpenSpec.ofChange deliverFirstSpec)) deliverFirstCard

/-- THE TIED CARD OF 'braidlaw37.DeliverTakes'. -/
def deliverTakesCard : Claim7 := { stood := { row := deliverTakesRow, standIns := [], harness := (true, "7896e778c9d2aaf5d167c68fa59bcd97685e87fd210a3b12aaf2ef5c599bd276"), looks := false }, kinds := [], alts := [], laidByText := true, laidKinds := [.data], laidTests := true, laidLooks := .later }
def DeliverTakesCardSaid : Prop := Claim7.holds Tryz.pinned (.plain (OpenSpec.ofChange deliverTakesSpec)) deliverTakesCard

/-- THE TIED CARD OF 'braidlaw37.DeliverBehind'. -/
def deliverBehindCard : Claim7 := { stood := { row := deliverBehindRow, standIns := [], harness := (true, "7896e778c9d2aaf5d167c68fa59bcd97685e87fd210a3b12aaf2ef5c599bd276"), looks := false }, kinds := [], alts := [], laidByText := true, laidKinds := [.data], laidTests := true, laidLooks := .later }
def DeliverBehindCardSaid : Prop := Claim7.holds Tryz.pinned (.plain (OpenSpec.ofChange deliverBehindSpec)) deliverBehindCard

/-- THE SECOND FORM's CARD OF 'braidlaw37.DeliverChecks'. -/
def deliverChecksUptoCard : Claim7 := { stood := { row := deliverChecksUptoRow, standIns := [], harness := (true, "7896e778c9d2aaf5d167c68fa59bcd97685e87fd210a3b12aaf2ef5c599bd276"), looks := false }, kinds := [], alts := [], laidByText := true, laidKinds := [.data], laidTests := true, laidLooks := .later }
def DeliverChecksUptoCardSaid : Prop := Claim7.holds Tryz.pinned (.plain (OpenSpec.upto deliverChecksSpec)) deliverChecksUptoCard

/-- THE SECOND FORM's CARD OF 'braidlaw37.DeliverNames'. -/
def deliverNamesUptoCard : Claim7 := { stood := { row := deliverNamesUptoRow, standIns := [], harness := (true, "7896e778c9d2aaf5d167c68fa59bcd97685e87fd210a3b12aaf2ef5c599bd276"), looks := false }, kinds := [], alts := [], laidByText := true, laidKinds := [.data], laidTests := true, laidLooks := .later }
def DeliverNamesUptoCardSaid : Prop := Claim7.holds Tryz.pinned (.plain (OpenSpec.upto deliverNamesSpec)) deliverNamesUptoCard

/-- THE SECOND FORM's CARD OF 'braidlaw37.DeliverFeed'. -/
def deliverFeedUptoCard : Claim7 := { stood := { row := deliverFeedUptoRow, standIns := [], harness := (true, "7896e778c9d2aaf5d167c68fa59bcd97685e87fd210a3b12aaf2ef5c599bd276"), looks := false }, kinds := [], alts := [], laidByText := true, laidKinds := [.data], laidTests := true, laidLooks := .later }
def DeliverFeedUptoCardSaid : Prop := Claim7.holds Tryz.pinned (.plain (OpenSpec.upto deliverFeedSpec)) deliverFeedUptoCard

/-- THE SECOND FORM's CARD OF 'braidlaw37.DeliverFirst'. -/
def deliverFirstUptoCard : Claim7 := { stood := { row := deliverFirstUptoRow, standIns := [], harness := (true, "7896e778c9d2aaf5d167c68fa59bcd97685e87fd210a3b12aaf2ef5c599bd276"), looks := false }, kinds := [], alts := [], laidByText := true, laidKinds := [.data], laidTests := true, laidLooks := .later }
def DeliverFirstUptoCardSaid : Prop := Claim7.holds Tryz.pinned (.plain (OpenSpec.upto deliverFirstSpec)) deliverFirstUptoCard

/-- THE SECOND FORM's CARD OF 'braidlaw37.DeliverTakes'. -/
def deliverTakesUptoCard : Claim7 := { stood := { row := deliverTakesUptoRow, standIns := [], harness := (true, "7896e778c9d2aaf5d167c68fa59bcd97685e87fd210a3b12aaf2ef5c599bd276"), looks := false }, kinds := [], alts := [], laidByText := true, laidKinds := [.data], laidTests := true, laidLooks := .later }
def DeliverTakesUptoCardSaid : Prop := Claim7.holds Tryz.pinned (.plain (OpenSpec.upto deliverTakesSpec)) deliverTakesUptoCard

/-- THE SECOND FORM's CARD OF 'braidlaw37.DeliverBehind'. -/
def deliverBehindUptoCard : Claim7 := { stood := { row := deliverBehindUptoRow, standIns := [], harness := (true, "7896e778c9d2aaf5d167c68fa59bcd97685e87fd210a3b12aaf2ef5c599bd276"), looks := false }, kinds := [], alts := [], laidByText := true, laidKinds := [.data], laidTests := true, laidLooks := .later }
def DeliverBehindUptoCardSaid : Prop := Claim7.holds Tryz.pinned (.plain (OpenSpec.upto deliverBehindSpec)) deliverBehindUptoCard
end Rows
end Go.Proofs.YtidejmkknleijaaGreatDoor
