/-
  DERIVED. GIVEN WITH THE SEED: THE CARDS: each row of YtobphgccoalchaaGreatDoorRows.lean that lists a variable, with what it lists TIED to the program's text (the seventh form; the later family's looks); each row that meets fmt, with fmt's text TOLD by the authors' own Lean function (tested against real Go, not proved from fmt's source: count such statements apart). THE CARD IS WHAT COUNTS. Prove the row's statement (the work); the ties are given (YtobphgccoalchaaGreatDoorTie.lean); close each card by the builder's one call (the guide's Derived/Test/ToyasCard.lean, 'card_holds'). Laid BY PROGRAM, IN A SANDBOX (cutbox-door.mjs). By AI agents, Wed Nov 11 2026. No macro, syntax, notation, axiom, sorry.
-/
import Derived.Test.YtobphgccoalchaaGreatDoorRows
import GoSem.ClaimSeven
namespace Go.Proofs.YtobphgccoalchaaGreatDoor
namespace Rows

/-- THE TIED CARD OF 'braidlaw23.FoldReads'. -/
def foldReadsCard : Claim7 := { stood := { row := foldReadsRow, standIns := [], harness := (true, "7b3df127d049ebee9736ca6335ce2eecfb335e020b6bfbc2c24b080bd2ae72ee"), looks := false }, kinds := [], alts := [], laidByText := true, laidKinds := [.data], laidTests := true, laidLooks := .later }
def FoldReadsCardSaid : Prop := Claim7.holds Tryz.pinned (.plain (OpenSpec.ofChange foldReadsSpec)) foldReadsCard

/-- THE TIED CARD OF 'braidlaw23.FoldDoes'. -/
def foldDoesCard : Claim7 := { stood := { row := foldDoesRow, standIns := [], harness := (true, "7b3df127d049ebee9736ca6335ce2eecfb335e020b6bfbc2c24b080bd2ae72ee"), looks := false }, kinds := [], alts := [], laidByText := true, laidKinds := [.data], laidTests := true, laidLooks := .later }
def FoldDoesCardSaid : Prop := Claim7.holds Tryz.pinned (.plain (OpenSpec.ofChange foldDoesSpec)) foldDoesCard

/-- THE TIED CARD OF 'braidlaw23.FoldRuns'. -/
def foldRunsCard : Claim7 := { stood := { row := foldRunsRow, standIns := [], harness := (true, "7b3df127d049ebee9736ca6335ce2eecfb335e020b6bfbc2c24b080bd2ae72ee"), looks := false }, kinds := [], alts := [], laidByText := true, laidKinds := [.data], laidTests := true, laidLooks := .later }
def FoldRunsCardSaid : Prop := Claim7.holds Tryz.pinned (.plain (OpenSpec.ofChange foldRunsSpec)) foldRunsCard

/-- THE TIED CARD OF 'braidlaw23.FoldNames'. -/
def foldNamesCard : Claim7 := { stood := { row := foldNamesRow, standIns := [], harness := (true, "7b3df127d049ebee9736ca6335ce2eecfb335e020b6bfbc2c24b080bd2ae72ee"), looks := false }, kinds := [], alts := [], laidByText := true, laidKinds := [.data], laidTests := true, laidLooks := .later }
def FoldNamesCardSaid : Prop := Claim7.holds Tryz.pinned (.plain (OpenSpec.ofChange foldNamesSpec)) foldNamesCard

/-- THE TIED CARD OF 'braidlaw23.FoldFirst'. -/
def foldFirstCard : Claim7 := { stood := { row := foldFirstRow, standIns := [], harness := (true, "7b3df127d049ebee9736ca6335ce2eecfb335e020b6bfbc2c24b080bd2ae72ee"), looks := false }, kinds := [], alts := [], laidByText := true, laidKinds := [.data], laidTests := true, laidLooks := .later }
def FoldFirstCardSaid : Prop := Claim7.holds Tryz.pinned (.plain (OpenSpec.ofChange foldFirstSpec)) foldFirstCard

/-- THE TIED CARD OF 'braidlaw23.FoldOrder'. -/
def foldOrderCard : Claim7 := { stood := { row := foldOrderRow, standIns := [], harness := (true, "7b3df127d049ebee9736ca6335ce2eecfb335e020b6bfbc2c24b080bd2ae72ee"), looks := false }, kinds := [], alts := [], laidByText := true, laidKinds := [.data], laidTests := true, laidLooks := .later }
def FoldOrderCardSaid : Prop := Claim7.holds Tryz.pinned (.plain (OpenSpec.ofChange foldOrderSpec)) foldOrderCard

/-- THE SECOND FORM's CARD OF 'braidlaw23.FoldReads'. -/
def foldReadsUptoCard : Claim7 := { stood := { row := foldReadsUptoRow, standIns := [], harness := (true, "7b3df127d049ebee9736ca6335ce2eecfb335e020b6bfbc2c24b080bd2ae72ee"), looks := false }, kinds := [], alts := [], laidByText := true, laidKinds := [.data], laidTests := true, laidLooks := .later }
def FoldReadsUptoCardSaid : Prop := Claim7.holds Tryz.pinned (.plain (OpenSpec.upto foldReadsSpec)) foldReadsUptoCard

/-- THE SECOND FORM's CARD OF 'braidlaw23.FoldDoes'. -/
def foldDoesUptoCard : Claim7 := { stood := { row := foldDoesUptoRow, standIns := [], harness := (true, "7b3df127d049ebee9736ca6335ce2eecfb335e020b6bfbc2c24b080bd2ae72ee"), looks := false }, kinds := [], alts := [], laidByText := true, laidKinds := [.data], laidTests := true, laidLooks := .later }
def FoldDoesUptoCardSaid : Prop := Claim7.holds Tryz.pinned (.plain (OpenSpec.upto foldDoesSpec)) foldDoesUptoCard

/-- THE SECOND FORM's CARD OF 'braidlaw23.FoldRuns'. -/
def foldRunsUptoCard : Claim7 := { stood := { row := foldRunsUptoRow, standIns := [], harness := (true, "7b3df127d049ebee9736ca6335ce2eecfb335e020b6bfbc2c24b080bd2ae72ee"), looks := false }, kinds := [], alts := [], laidByText := true, laidKinds := [.data], laidTests := true, laidLooks := .later }
def FoldRunsUptoCardSaid : Prop := Claim7.holds Tryz.pinned (.plain (OpenSpec.upto foldRunsSpec)) foldRunsUptoCard

/-- THE SECOND FORM's CARD OF 'braidlaw23.FoldNames'. -/
def foldNamesUptoCard : Claim7 := { stood := { row := foldNamesUptoRow, standIns := [], harness := (true, "7b3df127d049ebee9736ca6335ce2eecfb335e020b6bfbc2c24b080bd2ae72ee"), looks := false }, kinds := [], alts := [], laidByText := true, laidKinds := [.data], laidTests := true, laidLooks := .later }
def FoldNamesUptoCardSaid : Prop := Claim7.holds Tryz.pinned (.plain (OpenSpec.upto foldNamesSpec)) foldNamesUptoCard

/-- THE SECOND FORM's CARD OF 'braidlaw23.FoldFirst'. -/
def foldFirstUptoCard : Claim7 := { stood := { row := foldFirstUptoRow, standIns := [], harness := (true, "7b3df127d049ebee9736ca6335ce2eecfb335e020b6bfbc2c24b080bd2ae72ee"), looks := false }, kinds := [], alts := [], laidByText := true, laidKinds := [.data], laidTests := true, laidLooks := .later }
def FoldFirstUptoCardSaid : Prop := Claim7.holds Tryz.pinned (.plain (OpenSpec.upto foldFirstSpec)) foldFirstUptoCard

/-- THE SECOND FORM's CARD OF 'braidlaw23.FoldOrder'. -/
def foldOrderUptoCard : Claim7 := { stood := { row := foldOrderUptoRow, standIns := [], harness := (true, "7b3df127d049ebee9736ca6335ce2eecfb335e020b6bfbc2c24b080bd2ae72ee"), looks := false }, kinds := [], alts := [], laidByText := true, laidKinds := [.data], laidTests := true, laidLooks := .later }
def FoldOrderUptoCardSaid : Prop := Claim7.holds Tryz.pinned (.plain (OpenSpec.upto foldOrderSpec)) foldOrderUptoCard
end Rows
end Go.Proofs.YtobphgccoalchaaGreatDoor
