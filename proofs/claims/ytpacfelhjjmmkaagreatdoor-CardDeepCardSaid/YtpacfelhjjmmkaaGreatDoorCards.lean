/-
  DERIVED. GIVEN WITH THE SEED: THE CARDS: each row of YtpacfelhjjmmkaaGreatDoorRows.lean that lists a variable, with what it lists TIED to the program's text (the seventh form; the later family's looks); each row that meets fmt, with fmt's text TOLD by the authors' own Lean function (tested against real Go, not proved from fmt's source: count such statements apart). THE CARD IS WHAT COUNTS. Prove the row's statement (the work); the ties are given (YtpacfelhjjmmkaaGreatDoorTie.lean); close each card by the builder's one call (the guide's Derived/Test/ToyasCard.lean, 'card_holds'). Laid BY PROGRAM, IN A SANDBOX (cutbox-door.mjs). By AI agents, Wed Nov 11 2026. No macro, syntax, notation, axiom, sorry.
-/
import Derived.Test.YtpacfelhjjmmkaaGreatDoorRows
import GoSem.ClaimSeven
namespace Go.Proofs.YtpacfelhjjmmkaaGreatDoor
namespace Rows

/-- THE TIED CARD OF 'cadencelaw8.CardBlank'. -/
def cardBlankCard : Claim7 := { stood := { row := cardBlankRow, standIns := [], harness := (true, "8c7d380db5a2b8b37827a185662da1832b406b43f24d94125205f2ad621b5040"), looks := true }, kinds := [], alts := [], laidByText := true, laidKinds := [.data, .pinned], laidTests := true, laidLooks := .later }
def CardBlankCardSaid : Prop := Claim7.holds Tryz.pinned (.plain (OpenSpec.ofChange cardBlankSpec)) cardBlankCard

/-- THE TIED CARD OF 'cadencelaw8.CardWrites'. -/
def cardWritesCard : Claim7 := { stood := { row := cardWritesRow, standIns := [], harness := (true, "8c7d380db5a2b8b37827a185662da1832b406b43f24d94125205f2ad621b5040"), looks := true }, kinds := [], alts := [], laidByText := true, laidKinds := [.data, .pinned], laidTests := true, laidLooks := .later }
def CardWritesCardSaid : Prop := Claim7.holds Tryz.pinned (.plain (OpenSpec.ofChange cardWritesSpec)) cardWritesCard

/-- THE TIED CARD OF 'cadencelaw8.CardPuts'. -/
def cardPutsCard : Claim7 := { stood := { row := cardPutsRow, standIns := [], harness := (true, "8c7d380db5a2b8b37827a185662da1832b406b43f24d94125205f2ad621b5040"), looks := true }, kinds := [], alts := [], laidByText := true, laidKinds := [.data, .pinned], laidTests := true, laidLooks := .later }
def CardPutsCardSaid : Prop := Claim7.holds Tryz.pinned (.plain (OpenSpec.ofChange cardPutsSpec)) cardPutsCard

/-- THE TIED CARD OF 'cadencelaw8.CardBack'. -/
def cardBackCard : Claim7 := { stood := { row := cardBackRow, standIns := [], harness := (true, "8c7d380db5a2b8b37827a185662da1832b406b43f24d94125205f2ad621b5040"), looks := true }, kinds := [], alts := [], laidByText := true, laidKinds := [.data, .pinned], laidTests := true, laidLooks := .later }
def CardBackCardSaid : Prop := Claim7.holds Tryz.pinned (.plain (OpenSpec.ofChange cardBackSpec)) cardBackCard

/-- THE TIED CARD OF 'cadencelaw8.CardDeep'. -/
def cardDeepCard : Claim7 := { stood := { row := cardDeepRow, standIns := [], harness := (true, "8c7d380db5a2b8b37827a185662da1832b406b43f24d94125205f2ad621b5040"), looks := true }, kinds := [], alts := [], laidByText := true, laidKinds := [.data, .pinned], laidTests := true, laidLooks := .later }
def CardDeepCardSaid : Prop := Claim7.holds Tryz.pinned (.plain (OpenSpec.ofChange cardDeepSpec)) cardDeepCard

/-- THE SECOND FORM's CARD OF 'cadencelaw8.CardBlank'. -/
def cardBlankUptoCard : Claim7 := { stood := { row := cardBlankUptoRow, standIns := [], harness := (true, "8c7d380db5a2b8b37827a185662da1832b406b43f24d94125205f2ad621b5040"), looks := true }, kinds := [], alts := [], laidByText := true, laidKinds := [.data, .pinned], laidTests := true, laidLooks := .later }
def CardBlankUptoCardSaid : Prop := Claim7.holds Tryz.pinned (.plain (OpenSpec.upto cardBlankSpec)) cardBlankUptoCard

/-- THE SECOND FORM's CARD OF 'cadencelaw8.CardWrites'. -/
def cardWritesUptoCard : Claim7 := { stood := { row := cardWritesUptoRow, standIns := [], harness := (true, "8c7d380db5a2b8b37827a185662da1832b406b43f24d94125205f2ad621b5040"), looks := true }, kinds := [], alts := [], laidByText := true, laidKinds := [.data, .pinned], laidTests := true, laidLooks := .later }
def CardWritesUptoCardSaid : Prop := Claim7.holds Tryz.pinned (.plain (OpenSpec.upto cardWritesSpec)) cardWritesUptoCard

/-- THE SECOND FORM's CARD OF 'cadencelaw8.CardPuts'. -/
def cardPutsUptoCard : Claim7 := { stood := { row := cardPutsUptoRow, standIns := [], harness := (true, "8c7d380db5a2b8b37827a185662da1832b406b43f24d94125205f2ad621b5040"), looks := true }, kinds := [], alts := [], laidByText := true, laidKinds := [.data, .pinned], laidTests := true, laidLooks := .later }
def CardPutsUptoCardSaid : Prop := Claim7.holds Tryz.pinned (.plain (OpenSpec.upto cardPutsSpec)) cardPutsUptoCard

/-- THE SECOND FORM's CARD OF 'cadencelaw8.CardBack'. -/
def cardBackUptoCard : Claim7 := { stood := { row := cardBackUptoRow, standIns := [], harness := (true, "8c7d380db5a2b8b37827a185662da1832b406b43f24d94125205f2ad621b5040"), looks := true }, kinds := [], alts := [], laidByText := true, laidKinds := [.data, .pinned], laidTests := true, laidLooks := .later }
def CardBackUptoCardSaid : Prop := Claim7.holds Tryz.pinned (.plain (OpenSpec.upto cardBackSpec)) cardBackUptoCard

/-- THE SECOND FORM's CARD OF 'cadencelaw8.CardDeep'. -/
def cardDeepUptoCard : Claim7 := { stood := { row := cardDeepUptoRow, standIns := [], harness := (true, "8c7d380db5a2b8b37827a185662da1832b406b43f24d94125205f2ad621b5040"), looks := true }, kinds := [], alts := [], laidByText := true, laidKinds := [.data, .pinned], laidTests := true, laidLooks := .later }
def CardDeepUptoCardSaid : Prop := Claim7.holds Tryz.pinned (.plain (OpenSpec.upto cardDeepSpec)) cardDeepUptoCard
end Rows
end Go.Proofs.YtpacfelhjjmmkaaGreatDoor
