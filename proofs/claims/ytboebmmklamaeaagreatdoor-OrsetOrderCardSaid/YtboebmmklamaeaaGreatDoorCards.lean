/-
  DERIVED. GIVEN WITH THE SEED: THE CARDS: each row of YtboebmmklamaeaaGreatDoorRows.lean that lists a variable, with what it lists TIED to the program's text (the seventh form; the later family's looks); each row that meets fmt, with fmt's text TOLD by the authors' own Lean function (tested against real Go, not proved from fmt's source: count such statements apart). THE CARD IS WHAT COUNTS. Prove the row's statement (the work); the ties are given (YtboebmmklamaeaaGreatDoorTie.lean); close each card by the builder's one call (the guide's Derived/Test/ToyasCard.lean, 'card_holds'). Laid BY PROGRAM, IN A SANDBOX (cutbox-door.mjs). By AI agents, Wed Nov 11 2026. No macro, syntax, notation, axiom, sorry.
-/
import Derived.Test.YtboebmmklamaeaaGreatDoorRows
import GoSem.ClaimSeven
namespace Go.Proofs.YtboebmmklamaeaaGreatDoor
namespace Rows

/-- THE TIED CARD OF 'braidlaw21.OrsetDoes'. -/
def orsetDoesCard : Claim7 := { stood := { row := orsetDoesRow, standIns := [], harness := (true, "927703b239a74285a4305d2ddad899c84b7d01194e9898cc9ea6d138865bfcda"), looks := false }, kinds := [], alts := [], laidByText := true, laidKinds := [.data], laidTests := true, laidLooks := .later }
def OrsetDoesCardSaid : Prop := Claim7.holds Tryz.pinned (.plain (OpenSpec.ofChange orsetDoesSpec)) orsetDoesCard

/-- THE TIED CARD OF 'braidlaw21.OrsetSees'. -/
def orsetSeesCard : Claim7 := { stood := { row := orsetSeesRow, standIns := [], harness := (true, "927703b239a74285a4305d2ddad899c84b7d01194e9898cc9ea6d138865bfcda"), looks := false }, kinds := [], alts := [], laidByText := true, laidKinds := [.data], laidTests := true, laidLooks := .later }
def OrsetSeesCardSaid : Prop := Claim7.holds Tryz.pinned (.plain (OpenSpec.ofChange orsetSeesSpec)) orsetSeesCard

/-- THE TIED CARD OF 'braidlaw21.OrsetWins'. -/
def orsetWinsCard : Claim7 := { stood := { row := orsetWinsRow, standIns := [], harness := (true, "927703b239a74285a4305d2ddad899c84b7d01194e9898cc9ea6d138865bfcda"), looks := false }, kinds := [], alts := [], laidByText := true, laidKinds := [.data], laidTests := true, laidLooks := .later }
def OrsetWinsCardSaid : Prop := Claim7.holds Tryz.pinned (.plain (OpenSpec.ofChange orsetWinsSpec)) orsetWinsCard

/-- THE TIED CARD OF 'braidlaw21.OrsetApplies'. -/
def orsetAppliesCard : Claim7 := { stood := { row := orsetAppliesRow, standIns := [], harness := (true, "927703b239a74285a4305d2ddad899c84b7d01194e9898cc9ea6d138865bfcda"), looks := false }, kinds := [], alts := [], laidByText := true, laidKinds := [.data], laidTests := true, laidLooks := .later }
def OrsetAppliesCardSaid : Prop := Claim7.holds Tryz.pinned (.plain (OpenSpec.ofChange orsetAppliesSpec)) orsetAppliesCard

/-- THE TIED CARD OF 'braidlaw21.OrsetOrder'. -/
def orsetOrderCard : Claim7 := { stood := { row := orsetOrderRow, standIns := [], harness := (true, "927703b239a74285a4305d2ddad899c84b7d01194e9898cc9ea6d138865bfcda"), looks := false }, kinds := [], alts := [], laidByText := true, laidKinds := [.data], laidTests := true, laidLooks := .later }
def OrsetOrderCardSaid : Prop := Claim7.holds Tryz.pinned (.plain (OpenSpec.ofChange orsetOrderSpec)) orsetOrderCard

/-- THE TIED CARD OF 'braidlaw21.OrsetNames'. -/
def orsetNamesCard : Claim7 := { stood := { row := orsetNamesRow, standIns := [], harness := (true, "927703b239a74285a4305d2ddad899c84b7d01194e9898cc9ea6d138865bfcda"), looks := false }, kinds := [], alts := [], laidByText := true, laidKinds := [.data], laidTests := true, laidLooks := .later }
def OrsetNamesCardSaid : Prop := Claim7.holds Tryz.pinned (.plain (OpenSpec.ofChange orsetNamesSpec)) orsetNamesCard

/-- THE SECOND FORM's CARD OF 'braidlaw21.OrsetDoes'. -/
def orsetDoesUptoCard : Claim7 := { stood := { row := orsetDoesUptoRow, standIns := [], harness := (true, "927703b239a74285a4305d2ddad899c84b7d01194e9898cc9ea6d138865bfcda"), looks := false }, kinds := [], alts := [], laidByText := true, laidKinds := [.data], laidTests := true, laidLooks := .later }
def OrsetDoesUptoCardSaid : Prop := Claim7.holds Tryz.pinned (.plain (OpenSpec.upto orsetDoesSpec)) orsetDoesUptoCard

/-- THE SECOND FORM's CARD OF 'braidlaw21.OrsetSees'. -/
def orsetSeesUptoCard : Claim7 := { stood := { row := orsetSeesUptoRow, standIns := [], harness := (true, "927703b239a74285a4305d2ddad899c84b7d01194e9898cc9ea6d138865bfcda"), looks := false }, kinds := [], alts := [], laidByText := true, laidKinds := [.data], laidTests := true, laidLooks := .later }
def OrsetSeesUptoCardSaid : Prop := Claim7.holds Tryz.pinned (.plain (OpenSpec.upto orsetSeesSpec)) orsetSeesUptoCard

/-- THE SECOND FORM's CARD OF 'braidlaw21.OrsetWins'. -/
def orsetWinsUptoCard : Claim7 := { stood := { row := orsetWinsUptoRow, standIns := [], harness := (true, "927703b239a74285a4305d2ddad899c84b7d01194e9898cc9ea6d138865bfcda"), looks := false }, kinds := [], alts := [], laidByText := true, laidKinds := [.data], laidTests := true, laidLooks := .later }
def OrsetWinsUptoCardSaid : Prop := Claim7.holds Tryz.pinned (.plain (OpenSpec.upto orsetWinsSpec)) orsetWinsUptoCard

/-- THE SECOND FORM's CARD OF 'braidlaw21.OrsetApplies'. -/
def orsetAppliesUptoCard : Claim7 := { stood := { row := orsetAppliesUptoRow, standIns := [], harness := (true, "927703b239a74285a4305d2ddad899c84b7d01194e9898cc9ea6d138865bfcda"), looks := false }, kinds := [], alts := [], laidByText := true, laidKinds := [.data], laidTests := true, laidLooks := .later }
def OrsetAppliesUptoCardSaid : Prop := Claim7.holds Tryz.pinned (.plain (OpenSpec.upto orsetAppliesSpec)) orsetAppliesUptoCard

/-- THE SECOND FORM's CARD OF 'braidlaw21.OrsetOrder'. -/
def orsetOrderUptoCard : Claim7 := { stood := { row := orsetOrderUptoRow, standIns := [], harness := (true, "927703b239a74285a4305d2ddad899c84b7d01194e9898cc9ea6d138865bfcda"), looks := false }, kinds := [], alts := [], laidByText := true, laidKinds := [.data], laidTests := true, laidLooks := .later }
def OrsetOrderUptoCardSaid : Prop := Claim7.holds Tryz.pinned (.plain (OpenSpec.upto orsetOrderSpec)) orsetOrderUptoCard

/-- THE SECOND FORM's CARD OF 'braidlaw21.OrsetNames'. -/
def orsetNamesUptoCard : Claim7 := { stood := { row := orsetNamesUptoRow, standIns := [], harness := (true, "927703b239a74285a4305d2ddad899c84b7d01194e9898cc9ea6d138865bfcda"), looks := false }, kinds := [], alts := [], laidByText := true, laidKinds := [.data], laidTests := true, laidLooks := .later }
def OrsetNamesUptoCardSaid : Prop := Claim7.holds Tryz.pinned (.plain (OpenSpec.upto orsetNamesSpec)) orsetNamesUptoCard
end Rows
end Go.Proofs.YtboebmmklamaeaaGreatDoor
