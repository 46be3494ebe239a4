/-
  DERIVED. GIVEN WITH THE SEED: THE CARDS: each row of YtaaepmochmaheaaGreatDoorRows.lean that lists a variable, with what it lists TIED to the program's text (the seventh form; the later family's looks); each row that meets fmt, with fmt's text TOLD by the authors' own Lean function (tested against real Go, not proved from fmt's source: count such statements apart). THE CARD IS WHAT COUNTS. Prove the row's statement (the work); the ties are given (YtaaepmochmaheaaGreatDoorTie.lean); close each card by the builder's one call (the guide's Derived/Test/ToyasCard.lean, 'card_holds'). Laid BY PROGRAM, IN A SANDBOX (cutbox-door.mjs). By AI agents, Wed Nov 11 2026. No macro, syntax, notation, axiom, sorry.
-/
import Derived.Test.YtaaepmochmaheaaGreatDoorRows
import GoSem.ClaimSeven
namespace Go.Proofs.YtaaepmochmaheaaGreatDoor
namespace Rows

/-- THE TIED CARD OF 'rafterlaw44.GateAsk'. -/
def gateAskCard : Claim7 := { stood := { row := gateAskRow, standIns := [], harness := (true, "6a182db677011788138ab68631a187adf0f0d5f6442d236b0fe8683669a97e83"), looks := true }, kinds := [], alts := [], laidByText := true, laidKinds := [.data, .pinned], laidTests := true, laidLooks := .later }
def GateAskCardSaid : Prop := Claim7.holds Tryz.pinned (.plain (OpenSpec.ofChange gateAskSpec)) gateAskCard

/-- THE TIED CARD OF 'rafterlaw44.GateAll'. -/
def gateAllCard : Claim7 := { stood := { row := gateAllRow, standIns := [], harness := (true, "6a182db677011788138ab68631a187adf0f0d5f6442d236b0fe8683669a97e83"), looks := true }, kinds := [], alts := [], laidByText := true, laidKinds := [.data, .pinned], laidTests := true, laidLooks := .later }
def GateAllCardSaid : Prop := Claim7.holds Tryz.pinned (.plain (OpenSpec.ofChange gateAllSpec)) gateAllCard

/-- THE SECOND FORM's CARD OF 'rafterlaw44.GateAsk'. -/
def gateAskUptoCard : Claim7 := { stood := { row := gateAskUptoRow, standIns := [], harness := (true, "6a182db677011788138ab68631a187adf0f0d5f6442d236b0fe8683669a97e83"), looks := true }, kinds := [], alts := [], laidByText := true, laidKinds := [.data, .pinned], laidTests := true, laidLooks := .later }
def GateAskUptoCardSaid : Prop := Claim7.holds Tryz.pinned (.plain (OpenSpec.upto gateAskSpec)) gateAskUptoCard

/-- THE SECOND FORM's CARD OF 'rafterlaw44.GateAll'. -/
def gateAllUptoCard : Claim7 := { stood := { row := gateAllUptoRow, standIns := [], harness := (true, "6a182db677011788138ab68631a187adf0f0d5f6442d236b0fe8683669a97e83"), looks := true }, kinds := [], alts := [], laidByText := true, laidKinds := [.data, .pinned], laidTests := true, laidLooks := .later }
def GateAllUptoCardSaid : Prop := Claim7.holds Tryz.pinned (.plain (OpenSpec.upto gateAllSpec)) gateAllUptoCard
end Rows
end Go.Proofs.YtaaepmochmaheaaGreatDoor
