/-
  DERIVED. GIVEN WITH THE SEED: THE CARDS: each row of YtbnkcpbdpgjjbaaGreatDoorRows.lean that lists a variable, with what it lists TIED to the program's text (the seventh form; the later family's looks); each row that meets fmt, with fmt's text TOLD by the authors' own Lean function (tested against real Go, not proved from fmt's source: count such statements apart). THE CARD IS WHAT COUNTS. Prove the row's statement (the work); the ties are given (YtbnkcpbdpgjjbaaGreatDoorTie.lean); close each card by the builder's one call (the guide's Derived/Test/ToyasCard.lean, 'card_holds'). Laid BY PROGRAM, IN A SANDBOX (cutbox-door.mjs). By AI agents, Wed Nov 11 2026. No macro, syntax, notation, axiom, sorry.
-/
import Derived.Test.YtbnkcpbdpgjjbaaGreatDoorRows
import GoSem.ClaimSeven
namespace Go.Proofs.YtbnkcpbdpgjjbaaGreatDoor
namespace Rows

/-- THE TIED CARD OF 'rafterlaw18.NodesPaths'. -/
def nodesPathsCard : Claim7 := { stood := { row := nodesPathsRow, standIns := [], harness := (true, "2bbbbe3efacba890dcd75f6b0e6cd1eacee842c2081873a0ff799326ffae9993"), looks := false }, kinds := [], alts := [], laidByText := true, laidKinds := [.data, .pinned], laidTests := true, laidLooks := .later }
def NodesPathsCardSaid : Prop := Claim7.holds Tryz.pinned (.plain (OpenSpec.ofChange nodesPathsSpec)) nodesPathsCard

/-- THE SECOND FORM's CARD OF 'rafterlaw18.NodesPaths'. -/
def nodesPathsUptoCard : Claim7 := { stood := { row := nodesPathsUptoRow, standIns := [], harness := (true, "2bbbbe3efacba890dcd75f6b0e6cd1eacee842c2081873a0ff799326ffae9993"), looks := false }, kinds := [], alts := [], laidByText := true, laidKinds := [.data, .pinned], laidTests := true, laidLooks := .later }
def NodesPathsUptoCardSaid : Prop := Claim7.holds Tryz.pinned (.plain (OpenSpec.upto nodesPathsSpec)) nodesPathsUptoCard
end Rows
end Go.Proofs.YtbnkcpbdpgjjbaaGreatDoor
