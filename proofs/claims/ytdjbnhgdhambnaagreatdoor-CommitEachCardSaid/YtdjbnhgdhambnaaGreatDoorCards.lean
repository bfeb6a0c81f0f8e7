/-
  DERIVED. GIVEN WITH THE SEED: THE CARDS: each row of YtdjbnhgdhambnaaGreatDoorRows.lean that lists a variable, with what it lists TIED to the program's text (the seventh form; the later family's looks); each row that meets fmt, with fmt's text TOLD by the authors' own Lean function (tested against real Go, not proved from fmt's source: count such statements apart). THE CARD IS WHAT COUNTS. Prove the row's statement (the work); the ties are given (YtdjbnhgdhambnaaGreatDoorTie.lean); close each card by the builder's one call (the guide's Derived/Test/ToyasCard.lean, 'card_holds'). Laid BY PROGRAM, IN A SANDBOX (cutbox-door.mjs). By AI agents, Wed Nov 11 2026. No macro, syntax, notation, axiom, sorry.
-/
import Derived.Test.YtdjbnhgdhambnaaGreatDoorRows
import GoSem.ClaimSeven
namespace Go.Proofs.YtdjbnhgdhambnaaGreatDoor
namespace Rows

/-- THE TIED CARD OF 'braidlaw19.CommitRuns'. -/
def commitRunsCard : Claim7 := { stood := { row := commitRunsRow, standIns := [], harness := (true, "460a1bf21ab365d8b34b59d9a489baedc9787b42bd0061ed2cfb25e1dc925766"), looks := false }, kinds := [], alts := [], laidByText := true, laidKinds := [.data], laidTests := true, laidLooks := .later }
def CommitRunsCardSaid : Prop := Claim7.holds Tryz.pinned (.plain (OpenSpec.ofChange commitRunsSpec)) commitRunsCard

/-- THE TIED CARD OF 'braidlaw19.CommitDoes'. -/
def commitDoesCard : Claim7 := { stood := { row := commitDoesRow, standIns := [], harness := (true, "460a1bf21ab365d8b34b59d9a489baedc9787b42bd0061ed2cfb25e1dc925766"), looks := false }, kinds := [], alts := [], laidByText := true, laidKinds := [.data], laidTests := true, laidLooks := .later }
def CommitDoesCardSaid : Prop := Claim7.holds Tryz.pinned (.plain (OpenSpec.ofChange commitDoesSpec)) commitDoesCard

/-- THE TIED CARD OF 'braidlaw19.CommitAny'. -/
def commitAnyCard : Claim7 := { stood := { row := commitAnyRow, standIns := [], harness := (true, "460a1bf21ab365d8b34b59d9a489baedc9787b42bd0061ed2cfb25e1dc925766"), looks := false }, kinds := [], alts := [], laidByText := true, laidKinds := [.data], laidTests := true, laidLooks := .later }
def CommitAnyCardSaid : Prop := Claim7.holds Tryz.pinned (.plain (OpenSpec.ofChange commitAnySpec)) commitAnyCard

/-- THE TIED CARD OF 'braidlaw19.CommitEach'. -/
def commitEachCard : Claim7 := { stood := { row := commitEachRow, standIns := [], harness := (true, "460a1bf21ab365d8b34b59d9a489baedc9787b42bd0061ed2cfb25e1dc925766"), looks := false }, kinds := [], alts := [], laidByText := true, laidKinds := [.data], laidTests := true, laidLooks := .later }
def CommitEachCardSaid : Prop := Claim7.holds Tryz.pinned (.plain (OpenSpec.ofChange commitEachSpec)) commitEachCard

/-- THE TIED CARD OF 'braidlaw19.CommitParts'. -/
def commitPartsCard : Claim7 := { stood := { row := commitPartsRow, standIns := [], harness := (true, "460a1bf21ab365d8b34b59d9a489baedc9787b42bd0061ed2cfb25e1dc925766"), looks := false }, kinds := [], alts := [], laidByText := true, laidKinds := [.data], laidTests := true, laidLooks := .later }
def CommitPartsCardSaid : Prop := Claim7.holds Tryz.pinned (.plain (OpenSpec.ofChange commitPartsSpec)) commitPartsCard

/-- THE TIED CARD OF 'braidlaw19.CommitNames'. -/
def commitNamesCard : Claim7 := { stood := { row := commitNamesRow, standIns := [], harness := (true, "460a1bf21ab365d8b34b59d9a489baedc9787b42bd0061ed2cfb25e1dc925766"), looks := false }, kinds := [], alts := [], laidByText := true, laidKinds := [.data], laidTests := true, laidLooks := .later }
def CommitNamesCardSaid : Prop := Claim7.holds Tryz.pinned (.plain (OpenSpec.ofChange commitNamesSpec)) commitNamesCard

/-- THE SECOND FORM's CARD OF 'braidlaw19.CommitRuns'. -/
def commitRunsUptoCard : Claim7 := { stood := { row := commitRunsUptoRow, standIns := [], harness := (true, "460a1bf21ab365d8b34b59d9a489baedc9787b42bd0061ed2cfb25e1dc925766"), looks := false }, kinds := [], alts := [], laidByText := true, laidKinds := [.data], laidTests := true, laidLooks := .later }
def CommitRunsUptoCardSaid : Prop := Claim7.holds Tryz.pinned (.plain (OpenSpec.upto commitRunsSpec)) commitRunsUptoCard

/-- THE SECOND FORM's CARD OF 'braidlaw19.CommitDoes'. -/
def commitDoesUptoCard : Claim7 := { stood := { row := commitDoesUptoRow, standIns := [], harness := (true, "460a1bf21ab365d8b34b59d9a489baedc9787b42bd0061ed2cfb25e1dc925766"), looks := false }, kinds := [], alts := [], laidByText := true, laidKinds := [.data], laidTests := true, laidLooks := .later }
def CommitDoesUptoCardSaid : Prop := Claim7.holds Tryz.pinned (.plain (OpenSpec.upto commitDoesSpec)) commitDoesUptoCard

/-- THE SECOND FORM's CARD OF 'braidlaw19.CommitAny'. -/
def commitAnyUptoCard : Claim7 := { stood := { row := commitAnyUptoRow, standIns := [], harness := (true, "460a1bf21ab365d8b34b59d9a489baedc9787b42bd0061ed2cfb25e1dc925766"), looks := false }, kinds := [], alts := [], laidByText := true, laidKinds := [.data], laidTests := true, laidLooks := .later }
def CommitAnyUptoCardSaid : Prop := Claim7.holds Tryz.pinned (.plain (OpenSpec.upto commitAnySpec)) commitAnyUptoCard

/-- THE SECOND FORM's CARD OF 'braidlaw19.CommitEach'. -/
def commitEachUptoCard : Claim7 := { stood := { row := commitEachUptoRow, standIns := [], harness := (true, "460a1bf21ab365d8b34b59d9a489baedc9787b42bd0061ed2cfb25e1dc925766"), looks := false }, kinds := [], alts := [], laidByText := true, laidKinds := [.data], laidTests := true, laidLooks := .later }
def CommitEachUptoCardSaid : Prop := Claim7.holds Tryz.pinned (.plain (OpenSpec.upto commitEachSpec)) commitEachUptoCard

/-- THE SECOND FORM's CARD OF 'braidlaw19.CommitParts'. -/
def commitPartsUptoCard : Claim7 := { stood := { row := commitPartsUptoRow, standIns := [], harness := (true, "460a1bf21ab365d8b34b59d9a489baedc9787b42bd0061ed2cfb25e1dc925766"), looks := false }, kinds := [], alts := [], laidByText := true, laidKinds := [.data], laidTests := true, laidLooks := .later }
def CommitPartsUptoCardSaid : Prop := Claim7.holds Tryz.pinned (.plain (OpenSpec.upto commitPartsSpec)) commitPartsUptoCard

/-- THE SECOND FORM's CARD OF 'braidlaw19.CommitNames'. -/
def commitNamesUptoCard : Claim7 := { stood := { row := commitNamesUptoRow, standIns := [], harness := (true, "460a1bf21ab365d8b34b59d9a489baedc9787b42bd0061ed2cfb25e1dc925766"), looks := false }, kinds := [], alts := [], laidByText := true, laidKinds := [.data], laidTests := true, laidLooks := .later }
def CommitNamesUptoCardSaid : Prop := Claim7.holds Tryz.pinned (.plain (OpenSpec.upto commitNamesSpec)) commitNamesUptoCard
end Rows
end Go.Proofs.YtdjbnhgdhambnaaGreatDoor
