/-
  DERIVED. GIVEN WITH THE SEED: THE CARDS: each row of YtngfenfmhbfcaaaGreatDoorRows.lean that lists a variable, with what it lists TIED to the program's text (the seventh form; the later family's looks); each row that meets fmt, with fmt's text TOLD by the authors' own Lean function (tested against real Go, not proved from fmt's source: count such statements apart). THE CARD IS WHAT COUNTS. Prove the row's statement (the work); the ties are given (YtngfenfmhbfcaaaGreatDoorTie.lean); close each card by the builder's one call (the guide's Derived/Test/ToyasCard.lean, 'card_holds'). Laid BY PROGRAM, IN A SANDBOX (cutbox-door.mjs). By AI agents, Wed Nov 11 2026. No macro, syntax, notation, axiom, sorry.
-/
import Derived.Test.YtngfenfmhbfcaaaGreatDoorRows
import GoSem.ClaimSeven
namespace Go.Proofs.YtngfenfmhbfcaaaGreatDoor
namespace Rows

/-- THE TIED CARD OF 'rafterlaw34.RepoNone'. -/
def repoNoneCard : Claim7 := { stood := { row := repoNoneRow, standIns := [], harness := (true, "111d2b91338a02fbdedde26d7a3f38a6c31b5f297b4babe428c7147dddffa5bf"), looks := true }, kinds := [], alts := [], laidByText := true, laidKinds := [.data, .pinned], laidTests := true, laidLooks := .later }
def RepoNoneCardSaid : Prop := Claim7.holds Tryz.pinned (.plain (OpenSpec.ofChange repoNoneSpec)) repoNoneCard

/-- THE TIED CARD OF 'rafterlaw37.DeskNone'. -/
def deskNoneCard : Claim7 := { stood := { row := deskNoneRow, standIns := [], harness := (true, "111d2b91338a02fbdedde26d7a3f38a6c31b5f297b4babe428c7147dddffa5bf"), looks := true }, kinds := [], alts := [], laidByText := true, laidKinds := [.data, .pinned], laidTests := true, laidLooks := .later }
def DeskNoneCardSaid : Prop := Claim7.holds Tryz.pinned (.plain (OpenSpec.ofChange deskNoneSpec)) deskNoneCard

/-- THE SECOND FORM's CARD OF 'rafterlaw34.RepoNone'. -/
def repoNoneUptoCard : Claim7 := { stood := { row := repoNoneUptoRow, standIns := [], harness := (true, "111d2b91338a02fbdedde26d7a3f38a6c31b5f297b4babe428c7147dddffa5bf"), looks := true }, kinds := [], alts := [], laidByText := true, laidKinds := [.data, .pinned], laidTests := true, laidLooks := .later }
def RepoNoneUptoCardSaid : Prop := Claim7.holds Tryz.pinned (.plain (OpenSpec.upto repoNoneSpec)) repoNoneUptoCard

/-- THE SECOND FORM's CARD OF 'rafterlaw37.DeskNone'. -/
def deskNoneUptoCard : Claim7 := { stood := { row := deskNoneUptoRow, standIns := [], harness := (true, "111d2b91338a02fbdedde26d7a3f38a6c31b5f297b4babe428c7147dddffa5bf"), looks := true }, kinds := [], alts := [], laidByText := true, laidKinds := [.data, .pinned], laidTests := true, laidLooks := .later }
def DeskNoneUptoCardSaid : Prop := Claim7.holds Tryz.pinned (.plain (OpenSpec.upto deskNoneSpec)) deskNoneUptoCard
end Rows
end Go.Proofs.YtngfenfmhbfcaaaGreatDoor
