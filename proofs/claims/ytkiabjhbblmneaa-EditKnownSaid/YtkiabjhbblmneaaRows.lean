/-
  No cell of these rows narrows 'for every input' (looked for: loops, veiled, ifaces, maps, wideKeys, modest, calm, conditions, laid).
  DERIVED. THE GIVEN ROWS OF THIS SEAT. 6 by the template 'for every input the law returns true; each argument reads behind the call as it read before'; 0 by the template 'total and deterministic' (their statements: YtkiabjhbblmneaaTotals.lean).
  GIVEN WITH THE SEED: the statements are not yours to turn. If you find one false, say at which input.
  Laid BY PROGRAM, IN A SANDBOX (cutbox-rows.mjs): the forced cells as the released guide's own fill.sh prints them over the translation 195ae8b807014a7d… (all of the seat's roots in one cut). By AI agents, Wed Nov 11 2026. No macro, syntax, notation, axiom, sorry.
-/
import Derived.Test.YtkiabjhbblmneaaChecked
import GoSem.Claim
import GoSem.ClaimJoined
import GoSem.ClaimMapViews
import Derived.JoinedTies
import Derived.KernelRfl
namespace Go.Proofs.Ytkiabjhbblmneaa
/- THE CELL 'sum', in the pinned program and in every row, IS THE sha256 OF THE DUMP (.gsa) THAT YtkiabjhbblmneaaProg.lean LOADS. Nothing in Lean hashes anything: it is a label: what it is worth is what the hold of that sum in a sandbox is worth. -/
noncomputable def Try.pinned : Pinned := { name := "ytkiabjhbblmneaa", sum := "195ae8b807014a7d821f9930587bc43279ce93214cbafd1f37530a5a61e2f807", checked := Try.checked }
namespace Rows
def none {H : Type} : Left H := { results := [], args := [] }

/-- 'cadencelaw18.EditApplies': WHATEVER THE INPUT: true; the input reads as it did. -/
def editAppliesSpec : ChangeSpec := { name := "editApplies", fn := fun _ => fun
  | [d1, d2] => { results := [.lit (.bool true)], args := [d1, d2] }
  | _ => none }
def editAppliesRow : OpenClaim := { program := "ytkiabjhbblmneaa", sum := "195ae8b807014a7d821f9930587bc43279ce93214cbafd1f37530a5a61e2f807", func := "cadence/cadencelaw18.EditApplies", spec := "editApplies", apart := false }
def EditAppliesSaid : Prop := editAppliesRow.holds Try.pinned (OpenSpec.ofChange editAppliesSpec)

/-- ITS FALSE NEIGHBOUR: 'it returns false'. Refute it at one input. -/
def editAppliesWrong : ChangeSpec := { name := "editApplies", fn := fun _ => fun
  | [d1, d2] => { results := [.lit (.bool false)], args := [d1, d2] }
  | _ => none }
def EditAppliesWrongFalsely : Prop := editAppliesRow.holds Try.pinned (OpenSpec.ofChange editAppliesWrong)

/-- 'cadencelaw18.EditBetween': WHATEVER THE INPUT: true; the input reads as it did. -/
def editBetweenSpec : ChangeSpec := { name := "editBetween", fn := fun _ => fun
  | [d1, d2, d3] => { results := [.lit (.bool true)], args := [d1, d2, d3] }
  | _ => none }
def editBetweenRow : OpenClaim := { program := "ytkiabjhbblmneaa", sum := "195ae8b807014a7d821f9930587bc43279ce93214cbafd1f37530a5a61e2f807", func := "cadence/cadencelaw18.EditBetween", spec := "editBetween", apart := false }
def EditBetweenSaid : Prop := editBetweenRow.holds Try.pinned (OpenSpec.ofChange editBetweenSpec)

/-- ITS FALSE NEIGHBOUR: 'it returns false'. Refute it at one input. -/
def editBetweenWrong : ChangeSpec := { name := "editBetween", fn := fun _ => fun
  | [d1, d2, d3] => { results := [.lit (.bool false)], args := [d1, d2, d3] }
  | _ => none }
def EditBetweenWrongFalsely : Prop := editBetweenRow.holds Try.pinned (OpenSpec.ofChange editBetweenWrong)

/-- 'cadencelaw18.EditParts': WHATEVER THE INPUT: true; the input reads as it did. -/
def editPartsSpec : ChangeSpec := { name := "editParts", fn := fun _ => fun
  | [d1, d2, d3] => { results := [.lit (.bool true)], args := [d1, d2, d3] }
  | _ => none }
def editPartsRow : OpenClaim := { program := "ytkiabjhbblmneaa", sum := "195ae8b807014a7d821f9930587bc43279ce93214cbafd1f37530a5a61e2f807", func := "cadence/cadencelaw18.EditParts", spec := "editParts", apart := false }
def EditPartsSaid : Prop := editPartsRow.holds Try.pinned (OpenSpec.ofChange editPartsSpec)

/-- ITS FALSE NEIGHBOUR: 'it returns false'. Refute it at one input. -/
def editPartsWrong : ChangeSpec := { name := "editParts", fn := fun _ => fun
  | [d1, d2, d3] => { results := [.lit (.bool false)], args := [d1, d2, d3] }
  | _ => none }
def EditPartsWrongFalsely : Prop := editPartsRow.holds Try.pinned (OpenSpec.ofChange editPartsWrong)

/-- 'cadencelaw18.EditLong': WHATEVER THE INPUT: true; the input reads as it did. -/
def editLongSpec : ChangeSpec := { name := "editLong", fn := fun _ => fun
  | [d1, d2] => { results := [.lit (.bool true)], args := [d1, d2] }
  | _ => none }
def editLongRow : OpenClaim := { program := "ytkiabjhbblmneaa", sum := "195ae8b807014a7d821f9930587bc43279ce93214cbafd1f37530a5a61e2f807", func := "cadence/cadencelaw18.EditLong", spec := "editLong", apart := false }
def EditLongSaid : Prop := editLongRow.holds Try.pinned (OpenSpec.ofChange editLongSpec)

/-- ITS FALSE NEIGHBOUR: 'it returns false'. Refute it at one input. -/
def editLongWrong : ChangeSpec := { name := "editLong", fn := fun _ => fun
  | [d1, d2] => { results := [.lit (.bool false)], args := [d1, d2] }
  | _ => none }
def EditLongWrongFalsely : Prop := editLongRow.holds Try.pinned (OpenSpec.ofChange editLongWrong)

/-- 'cadencelaw18.EditKnown': WHATEVER THE INPUT: true; the input reads as it did. -/
def editKnownSpec : ChangeSpec := { name := "editKnown", fn := fun _ => fun
  | [d] => { results := [.lit (.bool true)], args := [d] }
  | _ => none }
def editKnownRow : OpenClaim := { program := "ytkiabjhbblmneaa", sum := "195ae8b807014a7d821f9930587bc43279ce93214cbafd1f37530a5a61e2f807", func := "cadence/cadencelaw18.EditKnown", spec := "editKnown", apart := false }
def EditKnownSaid : Prop := editKnownRow.holds Try.pinned (OpenSpec.ofChange editKnownSpec)

/-- ITS FALSE NEIGHBOUR: 'it returns false'. Refute it at one input. -/
def editKnownWrong : ChangeSpec := { name := "editKnown", fn := fun _ => fun
  | [d] => { results := [.lit (.bool false)], args := [d] }
  | _ => none }
def EditKnownWrongFalsely : Prop := editKnownRow.holds Try.pinned (OpenSpec.ofChange editKnownWrong)

/-- 'cadencelaw18.EditTurns': WHATEVER THE INPUT: true; the input reads as it did. -/
def editTurnsSpec : ChangeSpec := { name := "editTurns", fn := fun _ => fun
  | [d1, d2] => { results := [.lit (.bool true)], args := [d1, d2] }
  | _ => none }
def editTurnsRow : OpenClaim := { program := "ytkiabjhbblmneaa", sum := "195ae8b807014a7d821f9930587bc43279ce93214cbafd1f37530a5a61e2f807", func := "cadence/cadencelaw18.EditTurns", spec := "editTurns", apart := false }
def EditTurnsSaid : Prop := editTurnsRow.holds Try.pinned (OpenSpec.ofChange editTurnsSpec)

/-- ITS FALSE NEIGHBOUR: 'it returns false'. Refute it at one input. -/
def editTurnsWrong : ChangeSpec := { name := "editTurns", fn := fun _ => fun
  | [d1, d2] => { results := [.lit (.bool false)], args := [d1, d2] }
  | _ => none }
def EditTurnsWrongFalsely : Prop := editTurnsRow.holds Try.pinned (OpenSpec.ofChange editTurnsWrong)

/- THE SECOND FORM. 'bulk': how many values and letters a reading holds, each counted each time it is reached (what is shared counts as often as it is met; a slice's spare places count too). A statement '..UptoSaid' is the law's where the arguments, and the package variables that the reading takes, are together of bulk at most 1048576: NARROWER than '..Said'. Prove '..Said' where nothing that the law and all that it calls make is longer than what came in: it says more and counts as full. Else prove '..UptoSaid'. A law counts once. -/
mutual
def uptoBulk {H : Type} : DataW H → Nat
  | .lit (.string bytes) => bytes.length + 1
  | .lit _ => 1
  | .nil => 1
  | .ptr d => uptoBulk d + 1
  | .slice elems spare => uptoBulkAll elems + uptoBulkAll spare + 1
  | .agg parts => uptoBulkAll parts + 1
  | .iface _ d => uptoBulk d + 1
  | .map entries => uptoBulkEntries entries + 1
  | .held _ => 1
def uptoBulkAll {H : Type} : List (DataW H) → Nat
  | [] => 0
  | d :: r => uptoBulk d + uptoBulkAll r
def uptoBulkEntries {H : Type} : List (Lit × DataW H) → Nat
  | [] => 0
  | x :: r => uptoBulkEntry x + uptoBulkEntries r
def uptoBulkEntry {H : Type} : Lit × DataW H → Nat
  | (.string bytes, d) => bytes.length + uptoBulk d + 1
  | (_, d) => uptoBulk d + 1
 end
def uptoSmall : (H : Type) → List (DataW H) → Bool := fun _ ds => decide (uptoBulkAll ds ≤ 1048576)
def OpenSpec.upto (s : _root_.Go.ChangeSpec) : _root_.Go.OpenSpec := { _root_.Go.OpenSpec.ofChange s with cond := some uptoSmall }

/-- 'cadencelaw18.EditApplies', WHERE WHAT IT READS IS OF BULK AT MOST 1048576: true; the input reads as it did. -/
def editAppliesUptoRow : OpenClaim := { program := "ytkiabjhbblmneaa", sum := "195ae8b807014a7d821f9930587bc43279ce93214cbafd1f37530a5a61e2f807", func := "cadence/cadencelaw18.EditApplies", spec := "editApplies", apart := false, narrowed := true }
def EditAppliesUptoSaid : Prop := editAppliesUptoRow.holds Try.pinned (OpenSpec.upto editAppliesSpec)

/-- 'cadencelaw18.EditBetween', WHERE WHAT IT READS IS OF BULK AT MOST 1048576: true; the input reads as it did. -/
def editBetweenUptoRow : OpenClaim := { program := "ytkiabjhbblmneaa", sum := "195ae8b807014a7d821f9930587bc43279ce93214cbafd1f37530a5a61e2f807", func := "cadence/cadencelaw18.EditBetween", spec := "editBetween", apart := false, narrowed := true }
def EditBetweenUptoSaid : Prop := editBetweenUptoRow.holds Try.pinned (OpenSpec.upto editBetweenSpec)

/-- 'cadencelaw18.EditParts', WHERE WHAT IT READS IS OF BULK AT MOST 1048576: true; the input reads as it did. -/
def editPartsUptoRow : OpenClaim := { program := "ytkiabjhbblmneaa", sum := "195ae8b807014a7d821f9930587bc43279ce93214cbafd1f37530a5a61e2f807", func := "cadence/cadencelaw18.EditParts", spec := "editParts", apart := false, narrowed := true }
def EditPartsUptoSaid : Prop := editPartsUptoRow.holds Try.pinned (OpenSpec.upto editPartsSpec)

/-- 'cadencelaw18.EditLong', WHERE WHAT IT READS IS OF BULK AT MOST 1048576: true; the input reads as it did. -/
def editLongUptoRow : OpenClaim := { program := "ytkiabjhbblmneaa", sum := "195ae8b807014a7d821f9930587bc43279ce93214cbafd1f37530a5a61e2f807", func := "cadence/cadencelaw18.EditLong", spec := "editLong", apart := false, narrowed := true }
def EditLongUptoSaid : Prop := editLongUptoRow.holds Try.pinned (OpenSpec.upto editLongSpec)

/-- 'cadencelaw18.EditKnown', WHERE WHAT IT READS IS OF BULK AT MOST 1048576: true; the input reads as it did. -/
def editKnownUptoRow : OpenClaim := { program := "ytkiabjhbblmneaa", sum := "195ae8b807014a7d821f9930587bc43279ce93214cbafd1f37530a5a61e2f807", func := "cadence/cadencelaw18.EditKnown", spec := "editKnown", apart := false, narrowed := true }
def EditKnownUptoSaid : Prop := editKnownUptoRow.holds Try.pinned (OpenSpec.upto editKnownSpec)

/-- 'cadencelaw18.EditTurns', WHERE WHAT IT READS IS OF BULK AT MOST 1048576: true; the input reads as it did. -/
def editTurnsUptoRow : OpenClaim := { program := "ytkiabjhbblmneaa", sum := "195ae8b807014a7d821f9930587bc43279ce93214cbafd1f37530a5a61e2f807", func := "cadence/cadencelaw18.EditTurns", spec := "editTurns", apart := false, narrowed := true }
def EditTurnsUptoSaid : Prop := editTurnsUptoRow.holds Try.pinned (OpenSpec.upto editTurnsSpec)

end Rows
end Go.Proofs.Ytkiabjhbblmneaa
