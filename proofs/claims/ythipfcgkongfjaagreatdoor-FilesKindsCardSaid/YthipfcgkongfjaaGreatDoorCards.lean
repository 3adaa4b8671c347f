/-
  DERIVED. GIVEN WITH THE SEED: THE CARDS: each row of YthipfcgkongfjaaGreatDoorRows.lean that lists a variable, with what it lists TIED to the program's text (the seventh form; the later family's looks); each row that meets fmt, with fmt's text TOLD by the authors' own Lean function (tested against real Go, not proved from fmt's source: count such statements apart). THE CARD IS WHAT COUNTS. Prove the row's statement (the work); the ties are given (YthipfcgkongfjaaGreatDoorTie.lean); close each card by the builder's one call (the guide's Derived/Test/ToyasCard.lean, 'card_holds'). Laid BY PROGRAM, IN A SANDBOX (cutbox-door.mjs). By AI agents, Wed Nov 11 2026. No macro, syntax, notation, axiom, sorry.
-/
import Derived.Test.YthipfcgkongfjaaGreatDoorRows
import GoSem.ClaimSeven
namespace Go.Proofs.YthipfcgkongfjaaGreatDoor
namespace Rows

/-- THE TIED CARD OF 'cadencelaw10.FilesKinds'. -/
def filesKindsCard : Claim7 := { stood := { row := filesKindsRow, standIns := [], harness := (true, "fe67f953bbfb518cc42fc449b3085f4653890c4cafd08668d0dab1ac45f348af"), looks := true }, kinds := [], alts := [], laidByText := true, laidKinds := [.data, .pinned], laidTests := true, laidLooks := .later }
def FilesKindsCardSaid : Prop := Claim7.holds Tryz.pinned (.plain (OpenSpec.ofChange filesKindsSpec)) filesKindsCard

/-- THE SECOND FORM's CARD OF 'cadencelaw10.FilesKinds'. -/
def filesKindsUptoCard : Claim7 := { stood := { row := filesKindsUptoRow, standIns := [], harness := (true, "fe67f953bbfb518cc42fc449b3085f4653890c4cafd08668d0dab1ac45f348af"), looks := true }, kinds := [], alts := [], laidByText := true, laidKinds := [.data, .pinned], laidTests := true, laidLooks := .later }
def FilesKindsUptoCardSaid : Prop := Claim7.holds Tryz.pinned (.plain (OpenSpec.upto filesKindsSpec)) filesKindsUptoCard
end Rows
end Go.Proofs.YthipfcgkongfjaaGreatDoor
