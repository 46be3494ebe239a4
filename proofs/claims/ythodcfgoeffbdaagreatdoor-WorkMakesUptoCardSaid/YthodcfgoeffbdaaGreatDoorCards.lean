/-
  DERIVED. GIVEN WITH THE SEED: THE CARDS: each row of YthodcfgoeffbdaaGreatDoorRows.lean that lists a variable, with what it lists TIED to the program's text (the seventh form; the later family's looks); each row that meets fmt, with fmt's text TOLD by the authors' own Lean function (tested against real Go, not proved from fmt's source: count such statements apart). THE CARD IS WHAT COUNTS. Prove the row's statement (the work); the ties are given (YthodcfgoeffbdaaGreatDoorTie.lean); close each card by the builder's one call (the guide's Derived/Test/ToyasCard.lean, 'card_holds'). Laid BY PROGRAM, IN A SANDBOX (cutbox-door.mjs). By AI agents, Wed Nov 11 2026. No macro, syntax, notation, axiom, sorry.
-/
import Derived.Test.YthodcfgoeffbdaaGreatDoorRows
import GoSem.ClaimSeven
namespace Go.Proofs.YthodcfgoeffbdaaGreatDoor
namespace Rows

/-- THE TIED CARD OF 'rafterlaw22.WorkMakes'. -/
def workMakesCard : Claim7 := { stood := { row := workMakesRow, standIns := [], harness := (true, "46c7ab93a6ff633926e34e8b0daa6fba871cc9c2496a09fc806c4c26f2ec352c"), looks := false }, kinds := [], alts := [], laidByText := true, laidKinds := [.data, .pinned], laidTests := true, laidLooks := .later }
def WorkMakesCardSaid : Prop := Claim7.holds Tryz.pinned (.plain (OpenSpec.ofChange workMakesSpec)) workMakesCard

/-- THE SECOND FORM's CARD OF 'rafterlaw22.WorkMakes'. -/
def workMakesUptoCard : Claim7 := { stood := { row := workMakesUptoRow, standIns := [], harness := (true, "46c7ab93a6ff633926e34e8b0daa6fba871cc9c2496a09fc806c4c26f2ec352c"), looks := false }, kinds := [], alts := [], laidByText := true, laidKinds := [.data, .pinned], laidTests := true, laidLooks := .later }
def WorkMakesUptoCardSaid : Prop := Claim7.holds Tryz.pinned (.plain (OpenSpec.upto workMakesSpec)) workMakesUptoCard
end Rows
end Go.Proofs.YthodcfgoeffbdaaGreatDoor
