/-
  DERIVED. GIVEN WITH THE SEED: THE CARDS: each row of YtcoanbhfelfigaaGreatDoorRows.lean that lists a variable, with what it lists TIED to the program's text (the seventh form; the later family's looks); each row that meets fmt, with fmt's text TOLD by the authors' own Lean function (tested against real Go, not proved from fmt's source: count such statements apart). THE CARD IS WHAT COUNTS. Prove the row's statement (the work); the ties are given (YtcoanbhfelfigaaGreatDoorTie.lean); close each card by the builder's one call (the guide's Derived/Test/ToyasCard.lean, 'card_holds'). Laid BY PROGRAM, IN A SANDBOX (cutbox-door.mjs). By AI agents, Wed Nov 11 2026. No macro, syntax, notation, axiom, sorry.
-/
import Derived.Test.YtcoanbhfelfigaaGreatDoorRows
import GoSem.ClaimSeven
namespace Go.Proofs.YtcoanbhfelfigaaGreatDoor
namespace Rows

/-- THE TIED CARD OF 'braidlaw17.PendingFrees'. -/
def pendingFreesCard : Claim7 := { stood := { row := pendingFreesRow, standIns := [], harness := (true, "73a54e38398f461606521637f1978f5ba5aef78db7ecc7e39a1d3189e1aeccc1"), looks := false }, kinds := [], alts := [], laidByText := true, laidKinds := [.data], laidTests := true, laidLooks := .later }
def PendingFreesCardSaid : Prop := Claim7.holds Tryz.pinned (.plain (OpenSpec.ofChange pendingFreesSpec)) pendingFreesCard

/-- THE TIED CARD OF 'braidlaw17.PendingEnds'. -/
def pendingEndsCard : Claim7 := { stood := { row := pendingEndsRow, standIns := [], harness := (true, "73a54e38398f461606521637f1978f5ba5aef78db7ecc7e39a1d3189e1aeccc1"), looks := false }, kinds := [], alts := [], laidByText := true, laidKinds := [.data], laidTests := true, laidLooks := .later }
def PendingEndsCardSaid : Prop := Claim7.holds Tryz.pinned (.plain (OpenSpec.ofChange pendingEndsSpec)) pendingEndsCard

/-- THE TIED CARD OF 'braidlaw17.PendingDoes'. -/
def pendingDoesCard : Claim7 := { stood := { row := pendingDoesRow, standIns := [], harness := (true, "73a54e38398f461606521637f1978f5ba5aef78db7ecc7e39a1d3189e1aeccc1"), looks := false }, kinds := [], alts := [], laidByText := true, laidKinds := [.data], laidTests := true, laidLooks := .later }
def PendingDoesCardSaid : Prop := Claim7.holds Tryz.pinned (.plain (OpenSpec.ofChange pendingDoesSpec)) pendingDoesCard

/-- THE TIED CARD OF 'braidlaw17.PendingNames'. -/
def pendingNamesCard : Claim7 := { stood := { row := pendingNamesRow, standIns := [], harness := (true, "73a54e38398f461606521637f1978f5ba5aef78db7ecc7e39a1d3189e1aeccc1"), looks := false }, kinds := [], alts := [], laidByText := true, laidKinds := [.data], laidTests := true, laidLooks := .later }
def PendingNamesCardSaid : Prop := Claim7.holds Tryz.pinned (.plain (OpenSpec.ofChange pendingNamesSpec)) pendingNamesCard

/-- THE TIED CARD OF 'braidlaw17.PendingPuts'. -/
def pendingPutsCard : Claim7 := { stood := { row := pendingPutsRow, standIns := [], harness := (true, "73a54e38398f461606521637f1978f5ba5aef78db7ecc7e39a1d3189e1aeccc1"), looks := false }, kinds := [], alts := [], laidByText := true, laidKinds := [.data], laidTests := true, laidLooks := .later }
def PendingPutsCardSaid : Prop := Claim7.holds Tryz.pinned (.plain (OpenSpec.ofChange pendingPutsSpec)) pendingPutsCard

/-- THE SECOND FORM's CARD OF 'braidlaw17.PendingFrees'. -/
def pendingFreesUptoCard : Claim7 := { stood := { row := pendingFreesUptoRow, standIns := [], harness := (true, "73a54e38398f461606521637f1978f5ba5aef78db7ecc7e39a1d3189e1aeccc1"), looks := false }, kinds := [], alts := [], laidByText := true, laidKinds := [.data], laidTests := true, laidLooks := .later }
def PendingFreesUptoCardSaid : Prop := Claim7.holds Tryz.pinned (.plain (OpenSpec.upto pendingFreesSpec)) pendingFreesUptoCard

/-- THE SECOND FORM's CARD OF 'braidlaw17.PendingEnds'. -/
def pendingEndsUptoCard : Claim7 := { stood := { row := pendingEndsUptoRow, standIns := [], harness := (true, "73a54e38398f461606521637f1978f5ba5aef78db7ecc7e39a1d3189e1aeccc1"), looks := false }, kinds := [], alts := [], laidByText := true, laidKinds := [.data], laidTests := true, laidLooks := .later }
def PendingEndsUptoCardSaid : Prop := Claim7.holds Tryz.pinned (.plain (OpenSpec.upto pendingEndsSpec)) pendingEndsUptoCard

/-- THE SECOND FORM's CARD OF 'braidlaw17.PendingDoes'. -/
def pendingDoesUptoCard : Claim7 := { stood := { row := pendingDoesUptoRow, standIns := [], harness := (true, "73a54e38398f461606521637f1978f5ba5aef78db7ecc7e39a1d3189e1aeccc1"), looks := false }, kinds := [], alts := [], laidByText := true, laidKinds := [.data], laidTests := true, laidLooks := .later }
def PendingDoesUptoCardSaid : Prop := Claim7.holds Tryz.pinned (.plain (OpenSpec.upto pendingDoesSpec)) pendingDoesUptoCard

/-- THE SECOND FORM's CARD OF 'braidlaw17.PendingNames'. -/
def pendingNamesUptoCard : Claim7 := { stood := { row := pendingNamesUptoRow, standIns := [], harness := (true, "73a54e38398f461606521637f1978f5ba5aef78db7ecc7e39a1d3189e1aeccc1"), looks := false }, kinds := [], alts := [], laidByText := true, laidKinds := [.data], laidTests := true, laidLooks := .later }
def PendingNamesUptoCardSaid : Prop := Claim7.holds Tryz.pinned (.plain (OpenSpec.upto pendingNamesSpec)) pendingNamesUptoCard

/-- THE SECOND FORM's CARD OF 'braidlaw17.PendingPuts'. -/
def pendingPutsUptoCard : Claim7 := { stood := { row := pendingPutsUptoRow, standIns := [], harness := (true, "73a54e38398f461606521637f1978f5ba5aef78db7ecc7e39a1d3189e1aeccc1"), looks := false }, kinds := [], alts := [], laidByText := true, laidKinds := [.data], laidTests := true, laidLooks := .later }
def PendingPutsUptoCardSaid : Prop := Claim7.holds Tryz.pinned (.plain (OpenSpec.upto pendingPutsSpec)) pendingPutsUptoCard
end Rows
end Go.Proofs.YtcoanbhfelfigaaGreatDoor
