/-
  DERIVED. GIVEN WITH THE SEED: THE CARDS: each row of YtciahohaonhdgaaGreatDoorRows.lean that lists a variable, with what it lists TIED to the program's text (the seventh form; the later family's looks); each row that meets fmt, with fmt's text TOLD by the authors' own Lean function (tested against real Go, not proved from fmt's source: count such statements apart). THE CARD IS WHAT COUNTS. Prove the row's statement (the work); the ties are given (YtciahohaonhdgaaGreatDoorTie.lean); close each card by the builder's one call (the guide's Derived/Test/ToyasCard.lean, 'card_holds'). Laid BY PROGRAM, IN A SANDBOX (cutbox-door.mjs). By AI agents, Wed Nov 11 2026. No macro, syntax, notation, axiom, sorry.
-/
import Derived.Test.YtciahohaonhdgaaGreatDoorRows
import GoSem.ClaimSeven
namespace Go.Proofs.YtciahohaonhdgaaGreatDoor
namespace Rows

/-- THE TIED CARD OF 'rafterlaw33.SaveTexts'. -/
def saveTextsCard : Claim7 := { stood := { row := saveTextsRow, standIns := [], harness := (true, "2637f5b9cfc43e7303286c03b71ce8bae4173c6a7e234a1f6ae2b616d232a95d"), looks := true }, kinds := [], alts := [], laidByText := true, laidKinds := [.data, .pinned], laidTests := true, laidLooks := .later }
def SaveTextsCardSaid : Prop := Claim7.holds Tryz.pinned (.plain (OpenSpec.ofChange saveTextsSpec)) saveTextsCard

/-- THE SECOND FORM's CARD OF 'rafterlaw33.SaveTexts'. -/
def saveTextsUptoCard : Claim7 := { stood := { row := saveTextsUptoRow, standIns := [], harness := (true, "2637f5b9cfc43e7303286c03b71ce8bae4173c6a7e234a1f6ae2b616d232a95d"), looks := true }, kinds := [], alts := [], laidByText := true, laidKinds := [.data, .pinned], laidTests := true, laidLooks := .later }
def SaveTextsUptoCardSaid : Prop := Claim7.holds Tryz.pinned (.plain (OpenSpec.upto saveTextsSpec)) saveTextsUptoCard
end Rows
end Go.Proofs.YtciahohaonhdgaaGreatDoor
