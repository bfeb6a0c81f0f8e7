/-
  DERIVED. GIVEN WITH THE SEED: THE CARDS: each row of YtginfboibgolaaaGreatDoorRows.lean that lists a variable, with what it lists TIED to the program's text (the seventh form; the later family's looks); each row that meets fmt, with fmt's text TOLD by the authors' own Lean function (tested against real Go, not proved from fmt's source: count such statements apart). THE CARD IS WHAT COUNTS. Prove the row's statement (the work); the ties are given (YtginfboibgolaaaGreatDoorTie.lean); close each card by the builder's one call (the guide's Derived/Test/ToyasCard.lean, 'card_holds'). Laid BY PROGRAM, IN A SANDBOX (cutbox-door.mjs). By AI agents, Wed Nov 11 2026. No macro, syntax, notation, axiom, sorry.
-/
import Derived.Test.YtginfboibgolaaaGreatDoorRows
import GoSem.ClaimSeven
namespace Go.Proofs.YtginfboibgolaaaGreatDoor
namespace Rows

/-- THE TIED CARD OF 'braidlaw28.CallsSteps'. -/
def callsStepsCard : Claim7 := { stood := { row := callsStepsRow, standIns := [], harness := (true, "672df3c46ae3632db6bb183a190b0bde5263f788e5407b1d59227ec7b0f4c5bc"), looks := true }, kinds := [], alts := [], laidByText := true, laidKinds := [.data], laidTests := true, laidLooks := .later }
def CallsStepsCardSaid : Prop := Claim7.holds Tryz.pinned (.plain (OpenSpec.ofChange callsStepsSpec)) callsStepsCard

/-- THE TIED CARD OF 'braidlaw28.CallsBuilt'. -/
def callsBuiltCard : Claim7 := { stood := { row := callsBuiltRow, standIns := [], harness := (true, "672df3c46ae3632db6bb183a190b0bde5263f788e5407b1d59227ec7b0f4c5bc"), looks := true }, kinds := [], alts := [], laidByText := true, laidKinds := [.data], laidTests := true, laidLooks := .later }
def CallsBuiltCardSaid : Prop := Claim7.holds Tryz.pinned (.plain (OpenSpec.ofChange callsBuiltSpec)) callsBuiltCard

/-- THE TIED CARD OF 'braidlaw28.CallsNames'. -/
def callsNamesCard : Claim7 := { stood := { row := callsNamesRow, standIns := [], harness := (true, "672df3c46ae3632db6bb183a190b0bde5263f788e5407b1d59227ec7b0f4c5bc"), looks := true }, kinds := [], alts := [], laidByText := true, laidKinds := [.data], laidTests := true, laidLooks := .later }
def CallsNamesCardSaid : Prop := Claim7.holds Tryz.pinned (.plain (OpenSpec.ofChange callsNamesSpec)) callsNamesCard

/-- THE TIED CARD OF 'braidlaw28.CallsOnce'. -/
def callsOnceCard : Claim7 := { stood := { row := callsOnceRow, standIns := [], harness := (true, "672df3c46ae3632db6bb183a190b0bde5263f788e5407b1d59227ec7b0f4c5bc"), looks := true }, kinds := [], alts := [], laidByText := true, laidKinds := [.data], laidTests := true, laidLooks := .later }
def CallsOnceCardSaid : Prop := Claim7.holds Tryz.pinned (.plain (OpenSpec.ofChange callsOnceSpec)) callsOnceCard

/-- THE TIED CARD OF 'braidlaw28.CallsReads'. -/
def callsReadsCard : Claim7 := { stood := { row := callsReadsRow, standIns := [], harness := (true, "672df3c46ae3632db6bb183a190b0bde5263f788e5407b1d59227ec7b0f4c5bc"), looks := true }, kinds := [], alts := [], laidByText := true, laidKinds := [.data], laidTests := true, laidLooks := .later }
def CallsReadsCardSaid : Prop := Claim7.holds Tryz.pinned (.plain (OpenSpec.ofChange callsReadsSpec)) callsReadsCard

/-- THE SECOND FORM's CARD OF 'braidlaw28.CallsSteps'. -/
def callsStepsUptoCard : Claim7 := { stood := { row := callsStepsUptoRow, standIns := [], harness := (true, "672df3c46ae3632db6bb183a190b0bde5263f788e5407b1d59227ec7b0f4c5bc"), looks := true }, kinds := [], alts := [], laidByText := true, laidKinds := [.data], laidTests := true, laidLooks := .later }
def CallsStepsUptoCardSaid : Prop := Claim7.holds Tryz.pinned (.plain (OpenSpec.upto callsStepsSpec)) callsStepsUptoCard

/-- THE SECOND FORM's CARD OF 'braidlaw28.CallsBuilt'. -/
def callsBuiltUptoCard : Claim7 := { stood := { row := callsBuiltUptoRow, standIns := [], harness := (true, "672df3c46ae3632db6bb183a190b0bde5263f788e5407b1d59227ec7b0f4c5bc"), looks := true }, kinds := [], alts := [], laidByText := true, laidKinds := [.data], laidTests := true, laidLooks := .later }
def CallsBuiltUptoCardSaid : Prop := Claim7.holds Tryz.pinned (.plain (OpenSpec.upto callsBuiltSpec)) callsBuiltUptoCard

/-- THE SECOND FORM's CARD OF 'braidlaw28.CallsNames'. -/
def callsNamesUptoCard : Claim7 := { stood := { row := callsNamesUptoRow, standIns := [], harness := (true, "672df3c46ae3632db6bb183a190b0bde5263f788e5407b1d59227ec7b0f4c5bc"), looks := true }, kinds := [], alts := [], laidByText := true, laidKinds := [.data], laidTests := true, laidLooks := .later }
def CallsNamesUptoCardSaid : Prop := Claim7.holds Tryz.pinned (.plain (OpenSpec.upto callsNamesSpec)) callsNamesUptoCard

/-- THE SECOND FORM's CARD OF 'braidlaw28.CallsOnce'. -/
def callsOnceUptoCard : Claim7 := { stood := { row := callsOnceUptoRow, standIns := [], harness := (true, "672df3c46ae3632db6bb183a190b0bde5263f788e5407b1d59227ec7b0f4c5bc"), looks := true }, kinds := [], alts := [], laidByText := true, laidKinds := [.data], laidTests := true, laidLooks := .later }
def CallsOnceUptoCardSaid : Prop := Claim7.holds Tryz.pinned (.plain (OpenSpec.upto callsOnceSpec)) callsOnceUptoCard

/-- THE SECOND FORM's CARD OF 'braidlaw28.CallsReads'. -/
def callsReadsUptoCard : Claim7 := { stood := { row := callsReadsUptoRow, standIns := [], harness := (true, "672df3c46ae3632db6bb183a190b0bde5263f788e5407b1d59227ec7b0f4c5bc"), looks := true }, kinds := [], alts := [], laidByText := true, laidKinds := [.data], laidTests := true, laidLooks := .later }
def CallsReadsUptoCardSaid : Prop := Claim7.holds Tryz.pinned (.plain (OpenSpec.upto callsReadsSpec)) callsReadsUptoCard
end Rows
end Go.Proofs.YtginfboibgolaaaGreatDoor
