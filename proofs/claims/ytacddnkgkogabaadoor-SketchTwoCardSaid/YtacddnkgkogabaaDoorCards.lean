/-
  DERIVED. GIVEN WITH THE SEED: THE CARDS: each row of YtacddnkgkogabaaDoorRows.lean that lists a variable, with what it lists TIED to the program's text (the seventh form; the later family's looks); each row that meets fmt, with fmt's text TOLD by the authors' own Lean function (tested against real Go, not proved from fmt's source: count such statements apart). THE CARD IS WHAT COUNTS. Prove the row's statement (the work); the ties are given (YtacddnkgkogabaaDoorTie.lean); close each card by the builder's one call (the guide's Derived/Test/ToyasCard.lean, 'card_holds'). Laid BY PROGRAM, IN A SANDBOX (cutbox-door.mjs). By AI agents, Wed Nov 11 2026. No macro, syntax, notation, axiom, sorry.
-/
import Derived.Test.YtacddnkgkogabaaDoorRows
import GoSem.ClaimSeven
namespace Go.Proofs.YtacddnkgkogabaaDoor
namespace Rows

/-- THE TIED CARD OF 'braidlaw39.SketchTells'. -/
def sketchTellsCard : Claim7 := { stood := { row := sketchTellsRow, standIns := [], harness := (true, "ef8b0c586be6090a19455217804c7f640ae01d94847e53ebd39f8eecba276a29"), looks := false }, kinds := [], alts := [], laidByText := true, laidKinds := [.data], laidTests := true, laidLooks := .later }
def SketchTellsCardSaid : Prop := Claim7.holds Tryd.pinned (.plain (OpenSpec.ofChange sketchTellsSpec)) sketchTellsCard

/-- THE TIED CARD OF 'braidlaw39.SketchPeels'. -/
def sketchPeelsCard : Claim7 := { stood := { row := sketchPeelsRow, standIns := [], harness := (true, "ef8b0c586be6090a19455217804c7f640ae01d94847e53ebd39f8eecba276a29"), looks := false }, kinds := [], alts := [], laidByText := true, laidKinds := [.data], laidTests := true, laidLooks := .later }
def SketchPeelsCardSaid : Prop := Claim7.holds Tryd.pinned (.plain (OpenSpec.ofChange sketchPeelsSpec)) sketchPeelsCard

/-- THE TIED CARD OF 'braidlaw39.SketchDiffers'. -/
def sketchDiffersCard : Claim7 := { stood := { row := sketchDiffersRow, standIns := [], harness := (true, "ef8b0c586be6090a19455217804c7f640ae01d94847e53ebd39f8eecba276a29"), looks := false }, kinds := [], alts := [], laidByText := true, laidKinds := [.data], laidTests := true, laidLooks := .later }
def SketchDiffersCardSaid : Prop := Claim7.holds Tryd.pinned (.plain (OpenSpec.ofChange sketchDiffersSpec)) sketchDiffersCard

/-- THE TIED CARD OF 'braidlaw39.SketchTwo'. -/
def sketchTwoCard : Claim7 := { stood := { row := sketchTwoRow, standIns := [], harness := (true, "ef8b0c586be6090a19455217804c7f640ae01d94847e53ebd39f8eecba276a29"), looks := false }, kinds := [], alts := [], laidByText := true, laidKinds := [.data], laidTests := true, laidLooks := .later }
def SketchTwoCardSaid : Prop := Claim7.holds Tryd.pinned (.plain (OpenSpec.ofChange sketchTwoSpec)) sketchTwoCard

/-- THE TIED CARD OF 'braidlaw39.SketchNames'. -/
def sketchNamesCard : Claim7 := { stood := { row := sketchNamesRow, standIns := [], harness := (true, "ef8b0c586be6090a19455217804c7f640ae01d94847e53ebd39f8eecba276a29"), looks := false }, kinds := [], alts := [], laidByText := true, laidKinds := [.data], laidTests := true, laidLooks := .later }
def SketchNamesCardSaid : Prop := Claim7.holds Tryd.pinned (.plain (OpenSpec.ofChange sketchNamesSpec)) sketchNamesCard

/-- THE TIED CARD OF 'braidlaw39.SketchBack'. -/
def sketchBackCard : Claim7 := { stood := { row := sketchBackRow, standIns := [], harness := (true, "ef8b0c586be6090a19455217804c7f640ae01d94847e53ebd39f8eecba276a29"), looks := false }, kinds := [], alts := [], laidByText := true, laidKinds := [.data], laidTests := true, laidLooks := .later }
def SketchBackCardSaid : Prop := Claim7.holds Tryd.pinned (.plain (OpenSpec.ofChange sketchBackSpec)) sketchBackCard

/-- THE TIED CARD OF 'braidlaw39.SketchOrder'. -/
def sketchOrderCard : Claim7 := { stood := { row := sketchOrderRow, standIns := [], harness := (true, "ef8b0c586be6090a19455217804c7f640ae01d94847e53ebd39f8eecba276a29"), looks := false }, kinds := [], alts := [], laidByText := true, laidKinds := [.data], laidTests := true, laidLooks := .later }
def SketchOrderCardSaid : Prop := Claim7.holds Tryd.pinned (.plain (OpenSpec.ofChange sketchOrderSpec)) sketchOrderCard

/-- THE SECOND FORM's CARD OF 'braidlaw39.SketchTells'. -/
def sketchTellsUptoCard : Claim7 := { stood := { row := sketchTellsUptoRow, standIns := [], harness := (true, "ef8b0c586be6090a19455217804c7f640ae01d94847e53ebd39f8eecba276a29"), looks := false }, kinds := [], alts := [], laidByText := true, laidKinds := [.data], laidTests := true, laidLooks := .later }
def SketchTellsUptoCardSaid : Prop := Claim7.holds Tryd.pinned (.plain (OpenSpec.upto sketchTellsSpec)) sketchTellsUptoCard

/-- THE SECOND FORM's CARD OF 'braidlaw39.SketchPeels'. -/
def sketchPeelsUptoCard : Claim7 := { stood := { row := sketchPeelsUptoRow, standIns := [], harness := (true, "ef8b0c586be6090a19455217804c7f640ae01d94847e53ebd39f8eecba276a29"), looks := false }, kinds := [], alts := [], laidByText := true, laidKinds := [.data], laidTests := true, laidLooks := .later }
def SketchPeelsUptoCardSaid : Prop := Claim7.holds Tryd.pinned (.plain (OpenSpec.upto sketchPeelsSpec)) sketchPeelsUptoCard

/-- THE SECOND FORM's CARD OF 'braidlaw39.SketchDiffers'. -/
def sketchDiffersUptoCard : Claim7 := { stood := { row := sketchDiffersUptoRow, standIns := [], harness := (true, "ef8b0c586be6090a19455217804c7f640ae01d94847e53ebd39f8eecba276a29"), looks := false }, kinds := [], alts := [], laidByText := true, laidKinds := [.data], laidTests := true, laidLooks := .later }
def SketchDiffersUptoCardSaid : Prop := Claim7.holds Tryd.pinned (.plain (OpenSpec.upto sketchDiffersSpec)) sketchDiffersUptoCard

/-- THE SECOND FORM's CARD OF 'braidlaw39.SketchTwo'. -/
def sketchTwoUptoCard : Claim7 := { stood := { row := sketchTwoUptoRow, standIns := [], harness := (true, "ef8b0c586be6090a19455217804c7f640ae01d94847e53ebd39f8eecba276a29"), looks := false }, kinds := [], alts := [], laidByText := true, laidKinds := [.data], laidTests := true, laidLooks := .later }
def SketchTwoUptoCardSaid : Prop := Claim7.holds Tryd.pinned (.plain (OpenSpec.upto sketchTwoSpec)) sketchTwoUptoCard

/-- THE SECOND FORM's CARD OF 'braidlaw39.SketchNames'. -/
def sketchNamesUptoCard : Claim7 := { stood := { row := sketchNamesUptoRow, standIns := [], harness := (true, "ef8b0c586be6090a19455217804c7f640ae01d94847e53ebd39f8eecba276a29"), looks := false }, kinds := [], alts := [], laidByText := true, laidKinds := [.data], laidTests := true, laidLooks := .later }
def SketchNamesUptoCardSaid : Prop := Claim7.holds Tryd.pinned (.plain (OpenSpec.upto sketchNamesSpec)) sketchNamesUptoCard

/-- THE SECOND FORM's CARD OF 'braidlaw39.SketchBack'. -/
def sketchBackUptoCard : Claim7 := { stood := { row := sketchBackUptoRow, standIns := [], harness := (true, "ef8b0c586be6090a19455217804c7f640ae01d94847e53ebd39f8eecba276a29"), looks := false }, kinds := [], alts := [], laidByText := true, laidKinds := [.data], laidTests := true, laidLooks := .later }
def SketchBackUptoCardSaid : Prop := Claim7.holds Tryd.pinned (.plain (OpenSpec.upto sketchBackSpec)) sketchBackUptoCard

/-- THE SECOND FORM's CARD OF 'braidlaw39.SketchOrder'. -/
def sketchOrderUptoCard : Claim7 := { stood := { row := sketchOrderUptoRow, standIns := [], harness := (true, "ef8b0c586be6090a19455217804c7f640ae01d94847e53ebd39f8eecba276a29"), looks := false }, kinds := [], alts := [], laidByText := true, laidKinds := [.data], laidTests := true, laidLooks := .later }
def SketchOrderUptoCardSaid : Prop := Claim7.holds Tryd.pinned (.plain (OpenSpec.upto sketchOrderSpec)) sketchOrderUptoCard
end Rows
end Go.Proofs.YtacddnkgkogabaaDoor
