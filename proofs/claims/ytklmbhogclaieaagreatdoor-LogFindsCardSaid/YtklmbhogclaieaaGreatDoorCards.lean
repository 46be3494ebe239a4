/-
  DERIVED. GIVEN WITH THE SEED: THE CARDS: each row of YtklmbhogclaieaaGreatDoorRows.lean that lists a variable, with what it lists TIED to the program's text (the seventh form; the later family's looks); each row that meets fmt, with fmt's text TOLD by the authors' own Lean function (tested against real Go, not proved from fmt's source: count such statements apart). THE CARD IS WHAT COUNTS. Prove the row's statement (the work); the ties are given (YtklmbhogclaieaaGreatDoorTie.lean); close each card by the builder's one call (the guide's Derived/Test/ToyasCard.lean, 'card_holds'). Laid BY PROGRAM, IN A SANDBOX (cutbox-door.mjs). By AI agents, Wed Nov 11 2026. No macro, syntax, notation, axiom, sorry.
-/
import Derived.Test.YtklmbhogclaieaaGreatDoorRows
import GoSem.ClaimSeven
namespace Go.Proofs.YtklmbhogclaieaaGreatDoor
namespace Rows

/-- THE TIED CARD OF 'rafterlaw29.MarkupNames'. -/
def markupNamesCard : Claim7 := { stood := { row := markupNamesRow, standIns := [], harness := (true, "64ced07efc6774e3d03dfacc812b0c1d229e29362f1833cecba6719907ef5c53"), looks := false }, kinds := [], alts := [], laidByText := true, laidKinds := [.data, .pinned], laidTests := true, laidLooks := .later }
def MarkupNamesCardSaid : Prop := Claim7.holds Tryz.pinned (.plain (OpenSpec.ofChange markupNamesSpec)) markupNamesCard

/-- THE TIED CARD OF 'rafterlaw46.LogFinds'. -/
def logFindsCard : Claim7 := { stood := { row := logFindsRow, standIns := [], harness := (true, "64ced07efc6774e3d03dfacc812b0c1d229e29362f1833cecba6719907ef5c53"), looks := false }, kinds := [], alts := [], laidByText := true, laidKinds := [.data, .pinned], laidTests := true, laidLooks := .later }
def LogFindsCardSaid : Prop := Claim7.holds Tryz.pinned (.plain (OpenSpec.ofChange logFindsSpec)) logFindsCard

/-- THE TIED CARD OF 'rafterlaw22.WorkMakes'. -/
def workMakesCard : Claim7 := { stood := { row := workMakesRow, standIns := [], harness := (true, "64ced07efc6774e3d03dfacc812b0c1d229e29362f1833cecba6719907ef5c53"), looks := false }, kinds := [], alts := [], laidByText := true, laidKinds := [.data, .pinned], laidTests := true, laidLooks := .later }
def WorkMakesCardSaid : Prop := Claim7.holds Tryz.pinned (.plain (OpenSpec.ofChange workMakesSpec)) workMakesCard

/-- THE TIED CARD OF 'rafterlaw29.MarkupLines'. -/
def markupLinesCard : Claim7 := { stood := { row := markupLinesRow, standIns := [], harness := (true, "64ced07efc6774e3d03dfacc812b0c1d229e29362f1833cecba6719907ef5c53"), looks := false }, kinds := [], alts := [], laidByText := true, laidKinds := [.data, .pinned], laidTests := true, laidLooks := .later }
def MarkupLinesCardSaid : Prop := Claim7.holds Tryz.pinned (.plain (OpenSpec.ofChange markupLinesSpec)) markupLinesCard

/-- THE TIED CARD OF 'rafterlaw46.LogTexts'. -/
def logTextsCard : Claim7 := { stood := { row := logTextsRow, standIns := [], harness := (true, "64ced07efc6774e3d03dfacc812b0c1d229e29362f1833cecba6719907ef5c53"), looks := false }, kinds := [], alts := [], laidByText := true, laidKinds := [.data, .pinned], laidTests := true, laidLooks := .later }
def LogTextsCardSaid : Prop := Claim7.holds Tryz.pinned (.plain (OpenSpec.ofChange logTextsSpec)) logTextsCard

/-- THE SECOND FORM's CARD OF 'rafterlaw29.MarkupNames'. -/
def markupNamesUptoCard : Claim7 := { stood := { row := markupNamesUptoRow, standIns := [], harness := (true, "64ced07efc6774e3d03dfacc812b0c1d229e29362f1833cecba6719907ef5c53"), looks := false }, kinds := [], alts := [], laidByText := true, laidKinds := [.data, .pinned], laidTests := true, laidLooks := .later }
def MarkupNamesUptoCardSaid : Prop := Claim7.holds Tryz.pinned (.plain (OpenSpec.upto markupNamesSpec)) markupNamesUptoCard

/-- THE SECOND FORM's CARD OF 'rafterlaw46.LogFinds'. -/
def logFindsUptoCard : Claim7 := { stood := { row := logFindsUptoRow, standIns := [], harness := (true, "64ced07efc6774e3d03dfacc812b0c1d229e29362f1833cecba6719907ef5c53"), looks := false }, kinds := [], alts := [], laidByText := true, laidKinds := [.data, .pinned], laidTests := true, laidLooks := .later }
def LogFindsUptoCardSaid : Prop := Claim7.holds Tryz.pinned (.plain (OpenSpec.upto logFindsSpec)) logFindsUptoCard

/-- THE SECOND FORM's CARD OF 'rafterlaw22.WorkMakes'. -/
def workMakesUptoCard : Claim7 := { stood := { row := workMakesUptoRow, standIns := [], harness := (true, "64ced07efc6774e3d03dfacc812b0c1d229e29362f1833cecba6719907ef5c53"), looks := false }, kinds := [], alts := [], laidByText := true, laidKinds := [.data, .pinned], laidTests := true, laidLooks := .later }
def WorkMakesUptoCardSaid : Prop := Claim7.holds Tryz.pinned (.plain (OpenSpec.upto workMakesSpec)) workMakesUptoCard

/-- THE SECOND FORM's CARD OF 'rafterlaw29.MarkupLines'. -/
def markupLinesUptoCard : Claim7 := { stood := { row := markupLinesUptoRow, standIns := [], harness := (true, "64ced07efc6774e3d03dfacc812b0c1d229e29362f1833cecba6719907ef5c53"), looks := false }, kinds := [], alts := [], laidByText := true, laidKinds := [.data, .pinned], laidTests := true, laidLooks := .later }
def MarkupLinesUptoCardSaid : Prop := Claim7.holds Tryz.pinned (.plain (OpenSpec.upto markupLinesSpec)) markupLinesUptoCard

/-- THE SECOND FORM's CARD OF 'rafterlaw46.LogTexts'. -/
def logTextsUptoCard : Claim7 := { stood := { row := logTextsUptoRow, standIns := [], harness := (true, "64ced07efc6774e3d03dfacc812b0c1d229e29362f1833cecba6719907ef5c53"), looks := false }, kinds := [], alts := [], laidByText := true, laidKinds := [.data, .pinned], laidTests := true, laidLooks := .later }
def LogTextsUptoCardSaid : Prop := Claim7.holds Tryz.pinned (.plain (OpenSpec.upto logTextsSpec)) logTextsUptoCard
end Rows
end Go.Proofs.YtklmbhogclaieaaGreatDoor
