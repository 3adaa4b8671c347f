/-
  DERIVED. GIVEN WITH THE SEED: THE CARDS: each row of YtpacfelhjjmmkaaDoorRows.lean that lists a variable, with what it lists TIED to the program's text (the seventh form; the later family's looks); each row that meets fmt, with fmt's text TOLD by the authors' own Lean function (tested against real Go, not proved from fmt's source: count such statements apart). THE CARD IS WHAT COUNTS. Prove the row's statement (the work); the ties are given (YtpacfelhjjmmkaaDoorTie.lean); close each card by the builder's one call (the guide's Derived/Test/ToyasCard.lean, 'card_holds'). Laid BY PROGRAM, IN A SANDBOX (cutbox-door.mjs). By AI agents, Wed Nov 11 2026. No macro, syntax, notation, axiom, sorry.
-/
import Derived.Test.YtpacfelhjjmmkaaDoorRows
import GoSem.ClaimSeven
namespace Go.Proofs.YtpacfelhjjmmkaaDoor
namespace Rows

/-- THE TIED CARD OF 'cadencelaw8.CardLoads'. -/
def cardLoadsCard : Claim7 := { stood := { row := cardLoadsRow, standIns := [], harness := (true, "811cd2c715fb9d895e89836c95053ba5fd26101686c2f1c2c9208abff2361b99"), looks := false }, kinds := [], alts := [], laidByText := true, laidKinds := [.data, .pinned], laidTests := true, laidLooks := .later }
def CardLoadsCardSaid : Prop := Claim7.holds Tryd.pinned (.plain (OpenSpec.ofChange cardLoadsSpec)) cardLoadsCard

/-- THE TIED CARD OF 'cadencelaw8.CardKnown'. -/
def cardKnownCard : Claim7 := { stood := { row := cardKnownRow, standIns := [], harness := (true, "811cd2c715fb9d895e89836c95053ba5fd26101686c2f1c2c9208abff2361b99"), looks := false }, kinds := [], alts := [], laidByText := true, laidKinds := [.data, .pinned], laidTests := true, laidLooks := .later }
def CardKnownCardSaid : Prop := Claim7.holds Tryd.pinned (.plain (OpenSpec.ofChange cardKnownSpec)) cardKnownCard

/-- THE TIED CARD OF 'cadencelaw8.CardNames'. -/
def cardNamesCard : Claim7 := { stood := { row := cardNamesRow, standIns := [], harness := (true, "811cd2c715fb9d895e89836c95053ba5fd26101686c2f1c2c9208abff2361b99"), looks := false }, kinds := [], alts := [], laidByText := true, laidKinds := [.data, .pinned], laidTests := true, laidLooks := .later }
def CardNamesCardSaid : Prop := Claim7.holds Tryd.pinned (.plain (OpenSpec.ofChange cardNamesSpec)) cardNamesCard

/-- THE SECOND FORM's CARD OF 'cadencelaw8.CardLoads'. -/
def cardLoadsUptoCard : Claim7 := { stood := { row := cardLoadsUptoRow, standIns := [], harness := (true, "811cd2c715fb9d895e89836c95053ba5fd26101686c2f1c2c9208abff2361b99"), looks := false }, kinds := [], alts := [], laidByText := true, laidKinds := [.data, .pinned], laidTests := true, laidLooks := .later }
def CardLoadsUptoCardSaid : Prop := Claim7.holds Tryd.pinned (.plain (OpenSpec.upto cardLoadsSpec)) cardLoadsUptoCard

/-- THE SECOND FORM's CARD OF 'cadencelaw8.CardKnown'. -/
def cardKnownUptoCard : Claim7 := { stood := { row := cardKnownUptoRow, standIns := [], harness := (true, "811cd2c715fb9d895e89836c95053ba5fd26101686c2f1c2c9208abff2361b99"), looks := false }, kinds := [], alts := [], laidByText := true, laidKinds := [.data, .pinned], laidTests := true, laidLooks := .later }
def CardKnownUptoCardSaid : Prop := Claim7.holds Tryd.pinned (.plain (OpenSpec.upto cardKnownSpec)) cardKnownUptoCard

/-- THE SECOND FORM's CARD OF 'cadencelaw8.CardNames'. -/
def cardNamesUptoCard : Claim7 := { stood := { row := cardNamesUptoRow, standIns := [], harness := (true, "811cd2c715fb9d895e89836c95053ba5fd26101686c2f1c2c9208abff2361b99"), looks := false }, kinds := [], alts := [], laidByText := true, laidKinds := [.data, .pinned], laidTests := true, laidLooks := .later }
def CardNamesUptoCardSaid : Prop := Claim7.holds Tryd.pinned (.plain (OpenSpec.upto cardNamesSpec)) cardNamesUptoCard
end Rows
end Go.Proofs.YtpacfelhjjmmkaaDoor
