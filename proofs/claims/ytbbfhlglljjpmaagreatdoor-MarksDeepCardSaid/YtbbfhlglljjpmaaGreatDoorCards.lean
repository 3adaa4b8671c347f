/-
  DERIVED. GIVEN WITH THE SEED: THE CARDS: each row of YtbbfhlglljjpmaaGreatDoorRows.lean that lists a variable, with what it lists TIED to the program's text (the seventh form; the later family's looks); each row that meets fmt, with fmt's text TOLD by the authors' own Lean function (tested against real Go, not proved from fmt's source: count such statements apart). THE CARD IS WHAT COUNTS. Prove the row's statement (the work); the ties are given (YtbbfhlglljjpmaaGreatDoorTie.lean); close each card by the builder's one call (the guide's Derived/Test/ToyasCard.lean, 'card_holds'). Laid BY PROGRAM, IN A SANDBOX (cutbox-door.mjs). By AI agents, Wed Nov 11 2026. No macro, syntax, notation, axiom, sorry.
-/
import Derived.Test.YtbbfhlglljjpmaaGreatDoorRows
import GoSem.ClaimSeven
namespace Go.Proofs.YtbbfhlglljjpmaaGreatDoor
namespace Rows

/-- THE TIED CARD OF 'cadencelaw9.MarksLoads'. -/
def marksLoadsCard : Claim7 := { stood := { row := marksLoadsRow, standIns := [], harness := (true, "9c3e42cfd78c515cdc6dedc74b77104cacbfe960cc9a2a850ba2625c304702d8"), looks := true }, kinds := [], alts := [], laidByText := true, laidKinds := [.data, .pinned], laidTests := true, laidLooks := .later }
def MarksLoadsCardSaid : Prop := Claim7.holds Tryz.pinned (.plain (OpenSpec.ofChange marksLoadsSpec)) marksLoadsCard

/-- THE TIED CARD OF 'cadencelaw9.MarksKnown'. -/
def marksKnownCard : Claim7 := { stood := { row := marksKnownRow, standIns := [], harness := (true, "9c3e42cfd78c515cdc6dedc74b77104cacbfe960cc9a2a850ba2625c304702d8"), looks := true }, kinds := [], alts := [], laidByText := true, laidKinds := [.data, .pinned], laidTests := true, laidLooks := .later }
def MarksKnownCardSaid : Prop := Claim7.holds Tryz.pinned (.plain (OpenSpec.ofChange marksKnownSpec)) marksKnownCard

/-- THE TIED CARD OF 'cadencelaw9.MarksNames'. -/
def marksNamesCard : Claim7 := { stood := { row := marksNamesRow, standIns := [], harness := (true, "9c3e42cfd78c515cdc6dedc74b77104cacbfe960cc9a2a850ba2625c304702d8"), looks := true }, kinds := [], alts := [], laidByText := true, laidKinds := [.data, .pinned], laidTests := true, laidLooks := .later }
def MarksNamesCardSaid : Prop := Claim7.holds Tryz.pinned (.plain (OpenSpec.ofChange marksNamesSpec)) marksNamesCard

/-- THE TIED CARD OF 'cadencelaw9.MarksEnds'. -/
def marksEndsCard : Claim7 := { stood := { row := marksEndsRow, standIns := [], harness := (true, "9c3e42cfd78c515cdc6dedc74b77104cacbfe960cc9a2a850ba2625c304702d8"), looks := true }, kinds := [], alts := [], laidByText := true, laidKinds := [.data, .pinned], laidTests := true, laidLooks := .later }
def MarksEndsCardSaid : Prop := Claim7.holds Tryz.pinned (.plain (OpenSpec.ofChange marksEndsSpec)) marksEndsCard

/-- THE TIED CARD OF 'cadencelaw9.MarksWrites'. -/
def marksWritesCard : Claim7 := { stood := { row := marksWritesRow, standIns := [], harness := (true, "9c3e42cfd78c515cdc6dedc74b77104cacbfe960cc9a2a850ba2625c304702d8"), looks := true }, kinds := [], alts := [], laidByText := true, laidKinds := [.data, .pinned], laidTests := true, laidLooks := .later }
def MarksWritesCardSaid : Prop := Claim7.holds Tryz.pinned (.plain (OpenSpec.ofChange marksWritesSpec)) marksWritesCard

/-- THE TIED CARD OF 'cadencelaw9.MarksPuts'. -/
def marksPutsCard : Claim7 := { stood := { row := marksPutsRow, standIns := [], harness := (true, "9c3e42cfd78c515cdc6dedc74b77104cacbfe960cc9a2a850ba2625c304702d8"), looks := true }, kinds := [], alts := [], laidByText := true, laidKinds := [.data, .pinned], laidTests := true, laidLooks := .later }
def MarksPutsCardSaid : Prop := Claim7.holds Tryz.pinned (.plain (OpenSpec.ofChange marksPutsSpec)) marksPutsCard

/-- THE TIED CARD OF 'cadencelaw9.MarksBack'. -/
def marksBackCard : Claim7 := { stood := { row := marksBackRow, standIns := [], harness := (true, "9c3e42cfd78c515cdc6dedc74b77104cacbfe960cc9a2a850ba2625c304702d8"), looks := true }, kinds := [], alts := [], laidByText := true, laidKinds := [.data, .pinned], laidTests := true, laidLooks := .later }
def MarksBackCardSaid : Prop := Claim7.holds Tryz.pinned (.plain (OpenSpec.ofChange marksBackSpec)) marksBackCard

/-- THE TIED CARD OF 'cadencelaw9.MarksDeep'. -/
def marksDeepCard : Claim7 := { stood := { row := marksDeepRow, standIns := [], harness := (true, "9c3e42cfd78c515cdc6dedc74b77104cacbfe960cc9a2a850ba2625c304702d8"), looks := true }, kinds := [], alts := [], laidByText := true, laidKinds := [.data, .pinned], laidTests := true, laidLooks := .later }
def MarksDeepCardSaid : Prop := Claim7.holds Tryz.pinned (.plain (OpenSpec.ofChange marksDeepSpec)) marksDeepCard

/-- THE SECOND FORM's CARD OF 'cadencelaw9.MarksLoads'. -/
def marksLoadsUptoCard : Claim7 := { stood := { row := marksLoadsUptoRow, standIns := [], harness := (true, "9c3e42cfd78c515cdc6dedc74b77104cacbfe960cc9a2a850ba2625c304702d8"), looks := true }, kinds := [], alts := [], laidByText := true, laidKinds := [.data, .pinned], laidTests := true, laidLooks := .later }
def MarksLoadsUptoCardSaid : Prop := Claim7.holds Tryz.pinned (.plain (OpenSpec.upto marksLoadsSpec)) marksLoadsUptoCard

/-- THE SECOND FORM's CARD OF 'cadencelaw9.MarksKnown'. -/
def marksKnownUptoCard : Claim7 := { stood := { row := marksKnownUptoRow, standIns := [], harness := (true, "9c3e42cfd78c515cdc6dedc74b77104cacbfe960cc9a2a850ba2625c304702d8"), looks := true }, kinds := [], alts := [], laidByText := true, laidKinds := [.data, .pinned], laidTests := true, laidLooks := .later }
def MarksKnownUptoCardSaid : Prop := Claim7.holds Tryz.pinned (.plain (OpenSpec.upto marksKnownSpec)) marksKnownUptoCard

/-- THE SECOND FORM's CARD OF 'cadencelaw9.MarksNames'. -/
def marksNamesUptoCard : Claim7 := { stood := { row := marksNamesUptoRow, standIns := [], harness := (true, "9c3e42cfd78c515cdc6dedc74b77104cacbfe960cc9a2a850ba2625c304702d8"), looks := true }, kinds := [], alts := [], laidByText := true, laidKinds := [.data, .pinned], laidTests := true, laidLooks := .later }
def MarksNamesUptoCardSaid : Prop := Claim7.holds Tryz.pinned (.plain (OpenSpec.upto marksNamesSpec)) marksNamesUptoCard

/-- THE SECOND FORM's CARD OF 'cadencelaw9.MarksEnds'. -/
def marksEndsUptoCard : Claim7 := { stood := { row := marksEndsUptoRow, standIns := [], harness := (true, "9c3e42cfd78c515cdc6dedc74b77104cacbfe960cc9a2a850ba2625c304702d8"), looks := true }, kinds := [], alts := [], laidByText := true, laidKinds := [.data, .pinned], laidTests := true, laidLooks := .later }
def MarksEndsUptoCardSaid : Prop := Claim7.holds Tryz.pinned (.plain (OpenSpec.upto marksEndsSpec)) marksEndsUptoCard

/-- THE SECOND FORM's CARD OF 'cadencelaw9.MarksWrites'. -/
def marksWritesUptoCard : Claim7 := { stood := { row := marksWritesUptoRow, standIns := [], harness := (true, "9c3e42cfd78c515cdc6dedc74b77104cacbfe960cc9a2a850ba2625c304702d8"), looks := true }, kinds := [], alts := [], laidByText := true, laidKinds := [.data, .pinned], laidTests := true, laidLooks := .later }
def MarksWritesUptoCardSaid : Prop := Claim7.holds Tryz.pinned (.plain (OpenSpec.upto marksWritesSpec)) marksWritesUptoCard

/-- THE SECOND FORM's CARD OF 'cadencelaw9.MarksPuts'. -/
def marksPutsUptoCard : Claim7 := { stood := { row := marksPutsUptoRow, standIns := [], harness := (true, "9c3e42cfd78c515cdc6dedc74b77104cacbfe960cc9a2a850ba2625c304702d8"), looks := true }, kinds := [], alts := [], laidByText := true, laidKinds := [.data, .pinned], laidTests := true, laidLooks := .later }
def MarksPutsUptoCardSaid : Prop := Claim7.holds Tryz.pinned (.plain (OpenSpec.upto marksPutsSpec)) marksPutsUptoCard

/-- THE SECOND FORM's CARD OF 'cadencelaw9.MarksBack'. -/
def marksBackUptoCard : Claim7 := { stood := { row := marksBackUptoRow, standIns := [], harness := (true, "9c3e42cfd78c515cdc6dedc74b77104cacbfe960cc9a2a850ba2625c304702d8"), looks := true }, kinds := [], alts := [], laidByText := true, laidKinds := [.data, .pinned], laidTests := true, laidLooks := .later }
def MarksBackUptoCardSaid : Prop := Claim7.holds Tryz.pinned (.plain (OpenSpec.upto marksBackSpec)) marksBackUptoCard

/-- THE SECOND FORM's CARD OF 'cadencelaw9.MarksDeep'. -/
def marksDeepUptoCard : Claim7 := { stood := { row := marksDeepUptoRow, standIns := [], harness := (true, "9c3e42cfd78c515cdc6dedc74b77104cacbfe960cc9a2a850ba2625c304702d8"), looks := true }, kinds := [], alts := [], laidByText := true, laidKinds := [.data, .pinned], laidTests := true, laidLooks := .later }
def MarksDeepUptoCardSaid : Prop := Claim7.holds Tryz.pinned (.plain (OpenSpec.upto marksDeepSpec)) marksDeepUptoCard
end Rows
end Go.Proofs.YtbbfhlglljjpmaaGreatDoor
