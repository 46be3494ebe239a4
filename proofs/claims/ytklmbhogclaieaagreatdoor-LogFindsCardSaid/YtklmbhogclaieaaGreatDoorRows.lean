/-
  NARROWER THAN 'FOR EVERY INPUT', by the rows' own cells (each row's printed sentence says how): MarkupNames: laid · LogFinds: laid · WorkMakes: laid · MarkupLines: laid · LogTexts: laid.
  DERIVED. THE GIVEN ROWS OF THIS SEAT. 5 by the template 'for every input the law returns true; each argument reads behind the call as it read before'; 0 by the template 'total and deterministic' (their statements: YtklmbhogclaieaaGreatDoorTotals.lean).
  GIVEN WITH THE SEED: the statements are not yours to turn. If you find one false, say at which input.
  Laid BY PROGRAM, IN A SANDBOX (cutbox-rows.mjs): the forced cells as the released guide's own fill.sh prints them over the translation e0d4ea51b969049a… (all of the seat's roots in one cut). By AI agents, Wed Nov 11 2026. No macro, syntax, notation, axiom, sorry.
-/
import Derived.Test.YtklmbhogclaieaaGreatDoorChecked
import GoSem.PinnedTables
import GoSem.Claim
import GoSem.ClaimJoined
import GoSem.ClaimMapViews
import Derived.JoinedTies
import Derived.KernelRfl
namespace Go.Proofs.YtklmbhogclaieaaGreatDoor
/- THE CELL 'sum', in the pinned program and in every row, IS THE sha256 OF THE DUMP (.gsa) THAT YtklmbhogclaieaaGreatDoorProg.lean LOADS. Nothing in Lean hashes anything: it is a label: what it is worth is what the hold of that sum in a sandbox is worth. -/
noncomputable def Tryz.pinned : Pinned := { name := "ytklmbhogclaieaagreatdoor", sum := "e0d4ea51b969049a9fabbff66ecb99b8bbfdcc1ec886a994906dbd576a189cca", checked := Tryz.checked }
namespace Rows
def none {H : Type} : Left H := { results := [], args := [] }

/- WHAT THE LISTED PACKAGE-LEVEL VARIABLES READ AS WHEN THE CALL BEGINS. Each datum BY PROGRAM (the guide's laid-datum.mjs) off the statement by which the dump's own 'gosem.cut.vars' lays the variable. In a bare row this is a premise. The card (YtklmbhogclaieaaGreatDoorCards.lean) ties it to the program's text. -/
def laid_unicode_utf8_acceptRanges {H : Type} : DataW H := .agg [.agg [.lit (.int .u8 128), .lit (.int .u8 191)], .agg [.lit (.int .u8 160), .lit (.int .u8 191)], .agg [.lit (.int .u8 128), .lit (.int .u8 159)], .agg [.lit (.int .u8 144), .lit (.int .u8 191)], .agg [.lit (.int .u8 128), .lit (.int .u8 143)], .agg [.lit (.int .u8 0), .lit (.int .u8 0)], .agg [.lit (.int .u8 0), .lit (.int .u8 0)], .agg [.lit (.int .u8 0), .lit (.int .u8 0)], .agg [.lit (.int .u8 0), .lit (.int .u8 0)], .agg [.lit (.int .u8 0), .lit (.int .u8 0)], .agg [.lit (.int .u8 0), .lit (.int .u8 0)], .agg [.lit (.int .u8 0), .lit (.int .u8 0)], .agg [.lit (.int .u8 0), .lit (.int .u8 0)], .agg [.lit (.int .u8 0), .lit (.int .u8 0)], .agg [.lit (.int .u8 0), .lit (.int .u8 0)], .agg [.lit (.int .u8 0), .lit (.int .u8 0)]]
/-- One of Go's own tables, pinned by name: the form's constant. -/
def laid_unicode_utf8_first : DataW Unit := Go.Pinned.utf8First

/-- 'rafterlaw29.MarkupNames': WHATEVER THE INPUT: true; the input reads as it did. -/
def markupNamesSpec : ChangeSpec := { name := "markupNames", fn := fun _ => fun
  | [d] => { results := [.lit (.bool true)], args := [d] }
  | _ => none }
def markupNamesRow : OpenClaim := { program := "ytklmbhogclaieaagreatdoor", sum := "e0d4ea51b969049a9fabbff66ecb99b8bbfdcc1ec886a994906dbd576a189cca", func := "rafter/rafterlaw29.MarkupNames", spec := "markupNames", inPlace := ["internal/bytealg.CountString", "internal/bytealg.IndexByteString", "internal/bytealg.IndexString", "internal/abi.NoEscape", "internal/bytealg.MakeNoZero", "slices.overlaps[rafter/api.File]"], unfollowed := true, recurses := true, named := ["unicode/utf8.first", "unicode/utf8.acceptRanges", "internal/bytealg.MaxLen"], plainKeys := false, apart := false, laid := [("unicode/utf8.acceptRanges", laid_unicode_utf8_acceptRanges), ("unicode/utf8.first", laid_unicode_utf8_first)] }
def MarkupNamesSaid : Prop := markupNamesRow.holds Tryz.pinned (OpenSpec.ofChange markupNamesSpec)

/-- ITS FALSE NEIGHBOUR: 'it returns false'. Refute it at one input. -/
def markupNamesWrong : ChangeSpec := { name := "markupNames", fn := fun _ => fun
  | [d] => { results := [.lit (.bool false)], args := [d] }
  | _ => none }
def MarkupNamesWrongFalsely : Prop := markupNamesRow.holds Tryz.pinned (OpenSpec.ofChange markupNamesWrong)

/-- 'rafterlaw46.LogFinds': WHATEVER THE INPUT: true; the input reads as it did. -/
def logFindsSpec : ChangeSpec := { name := "logFinds", fn := fun _ => fun
  | [d1, d2] => { results := [.lit (.bool true)], args := [d1, d2] }
  | _ => none }
def logFindsRow : OpenClaim := { program := "ytklmbhogclaieaagreatdoor", sum := "e0d4ea51b969049a9fabbff66ecb99b8bbfdcc1ec886a994906dbd576a189cca", func := "rafter/rafterlaw46.LogFinds", spec := "logFinds", inPlace := ["slices.overlaps[rafter/api.Slot]", "internal/bytealg.CountString", "internal/bytealg.IndexByteString", "internal/bytealg.IndexString", "internal/abi.NoEscape", "internal/bytealg.MakeNoZero"], unfollowed := true, recurses := true, named := ["unicode/utf8.first", "unicode/utf8.acceptRanges", "internal/bytealg.MaxLen"], plainKeys := false, apart := false, laid := [("unicode/utf8.acceptRanges", laid_unicode_utf8_acceptRanges), ("unicode/utf8.first", laid_unicode_utf8_first)] }
def LogFindsSaid : Prop := logFindsRow.holds Tryz.pinned (OpenSpec.ofChange logFindsSpec)

/-- ITS FALSE NEIGHBOUR: 'it returns false'. Refute it at one input. -/
def logFindsWrong : ChangeSpec := { name := "logFinds", fn := fun _ => fun
  | [d1, d2] => { results := [.lit (.bool false)], args := [d1, d2] }
  | _ => none }
def LogFindsWrongFalsely : Prop := logFindsRow.holds Tryz.pinned (OpenSpec.ofChange logFindsWrong)

/-- 'rafterlaw22.WorkMakes': WHATEVER THE INPUT: true; the input reads as it did. -/
def workMakesSpec : ChangeSpec := { name := "workMakes", fn := fun _ => fun
  | [d1, d2] => { results := [.lit (.bool true)], args := [d1, d2] }
  | _ => none }
def workMakesRow : OpenClaim := { program := "ytklmbhogclaieaagreatdoor", sum := "e0d4ea51b969049a9fabbff66ecb99b8bbfdcc1ec886a994906dbd576a189cca", func := "rafter/rafterlaw22.WorkMakes", spec := "workMakes", inPlace := ["slices.overlaps[rafter/api.Slot]", "internal/abi.NoEscape", "internal/bytealg.MakeNoZero", "internal/bytealg.CountString", "internal/bytealg.IndexByteString", "internal/bytealg.IndexString", "slices.overlaps[rafter/api.File]"], unfollowed := true, recurses := true, named := ["unicode/utf8.first", "unicode/utf8.acceptRanges", "internal/bytealg.MaxLen"], plainKeys := false, apart := false, laid := [("unicode/utf8.acceptRanges", laid_unicode_utf8_acceptRanges), ("unicode/utf8.first", laid_unicode_utf8_first)] }
def WorkMakesSaid : Prop := workMakesRow.holds Tryz.pinned (OpenSpec.ofChange workMakesSpec)

/-- ITS FALSE NEIGHBOUR: 'it returns false'. Refute it at one input. -/
def workMakesWrong : ChangeSpec := { name := "workMakes", fn := fun _ => fun
  | [d1, d2] => { results := [.lit (.bool false)], args := [d1, d2] }
  | _ => none }
def WorkMakesWrongFalsely : Prop := workMakesRow.holds Tryz.pinned (OpenSpec.ofChange workMakesWrong)

/-- 'rafterlaw29.MarkupLines': WHATEVER THE INPUT: true; the input reads as it did. -/
def markupLinesSpec : ChangeSpec := { name := "markupLines", fn := fun _ => fun
  | [d1, d2, d3] => { results := [.lit (.bool true)], args := [d1, d2, d3] }
  | _ => none }
def markupLinesRow : OpenClaim := { program := "ytklmbhogclaieaagreatdoor", sum := "e0d4ea51b969049a9fabbff66ecb99b8bbfdcc1ec886a994906dbd576a189cca", func := "rafter/rafterlaw29.MarkupLines", spec := "markupLines", inPlace := ["internal/bytealg.CountString", "internal/bytealg.IndexByteString", "internal/bytealg.IndexString", "internal/abi.NoEscape", "internal/bytealg.MakeNoZero", "slices.overlaps[rafter/api.File]"], unfollowed := true, recurses := true, named := ["unicode/utf8.first", "unicode/utf8.acceptRanges", "internal/bytealg.MaxLen"], plainKeys := false, apart := false, laid := [("unicode/utf8.acceptRanges", laid_unicode_utf8_acceptRanges), ("unicode/utf8.first", laid_unicode_utf8_first)] }
def MarkupLinesSaid : Prop := markupLinesRow.holds Tryz.pinned (OpenSpec.ofChange markupLinesSpec)

/-- ITS FALSE NEIGHBOUR: 'it returns false'. Refute it at one input. -/
def markupLinesWrong : ChangeSpec := { name := "markupLines", fn := fun _ => fun
  | [d1, d2, d3] => { results := [.lit (.bool false)], args := [d1, d2, d3] }
  | _ => none }
def MarkupLinesWrongFalsely : Prop := markupLinesRow.holds Tryz.pinned (OpenSpec.ofChange markupLinesWrong)

/-- 'rafterlaw46.LogTexts': WHATEVER THE INPUT: true; the input reads as it did. -/
def logTextsSpec : ChangeSpec := { name := "logTexts", fn := fun _ => fun
  | [d1, d2] => { results := [.lit (.bool true)], args := [d1, d2] }
  | _ => none }
def logTextsRow : OpenClaim := { program := "ytklmbhogclaieaagreatdoor", sum := "e0d4ea51b969049a9fabbff66ecb99b8bbfdcc1ec886a994906dbd576a189cca", func := "rafter/rafterlaw46.LogTexts", spec := "logTexts", inPlace := ["slices.overlaps[rafter/api.Slot]", "internal/bytealg.CountString", "internal/bytealg.IndexByteString", "internal/bytealg.IndexString", "internal/abi.NoEscape", "internal/bytealg.MakeNoZero"], unfollowed := true, recurses := true, named := ["unicode/utf8.first", "unicode/utf8.acceptRanges", "internal/bytealg.MaxLen"], plainKeys := false, apart := false, laid := [("unicode/utf8.acceptRanges", laid_unicode_utf8_acceptRanges), ("unicode/utf8.first", laid_unicode_utf8_first)] }
def LogTextsSaid : Prop := logTextsRow.holds Tryz.pinned (OpenSpec.ofChange logTextsSpec)

/-- ITS FALSE NEIGHBOUR: 'it returns false'. Refute it at one input. -/
def logTextsWrong : ChangeSpec := { name := "logTexts", fn := fun _ => fun
  | [d1, d2] => { results := [.lit (.bool false)], args := [d1, d2] }
  | _ => none }
def LogTextsWrongFalsely : Prop := logTextsRow.holds Tryz.pinned (OpenSpec.ofChange logTextsWrong)

/- THE SECOND FORM. 'bulk': how many values and letters a reading holds, each counted each time it is reached (what is shared counts as often as it is met; a slice's spare places count too). A statement '..UptoSaid' is the law's where the arguments, and the package variables that the reading takes, are together of bulk at most 1048576: NARROWER than '..Said'. Prove '..Said' where nothing that the law and all that it calls make is longer than what came in: it says more and counts as full. Else prove '..UptoSaid'. A law counts once. -/
mutual
def uptoBulk {H : Type} : DataW H → Nat
  | .lit (.string bytes) => bytes.length + 1
  | .lit _ => 1
  | .nil => 1
  | .ptr d => uptoBulk d + 1
  | .slice elems spare => uptoBulkAll elems + uptoBulkAll spare + 1
  | .agg parts => uptoBulkAll parts + 1
  | .iface _ d => uptoBulk d + 1
  | .map entries => uptoBulkEntries entries + 1
  | .held _ => 1
def uptoBulkAll {H : Type} : List (DataW H) → Nat
  | [] => 0
  | d :: r => uptoBulk d + uptoBulkAll r
def uptoBulkEntries {H : Type} : List (Lit × DataW H) → Nat
  | [] => 0
  | x :: r => uptoBulkEntry x + uptoBulkEntries r
def uptoBulkEntry {H : Type} : Lit × DataW H → Nat
  | (.string bytes, d) => bytes.length + uptoBulk d + 1
  | (_, d) => uptoBulk d + 1
 end
def uptoSmall : (H : Type) → List (DataW H) → Bool := fun _ ds => decide (uptoBulkAll ds ≤ 1048576)
def OpenSpec.upto (s : _root_.Go.ChangeSpec) : _root_.Go.OpenSpec := { _root_.Go.OpenSpec.ofChange s with cond := some uptoSmall }

/-- 'rafterlaw29.MarkupNames', WHERE WHAT IT READS IS OF BULK AT MOST 1048576: true; the input reads as it did. -/
def markupNamesUptoRow : OpenClaim := { program := "ytklmbhogclaieaagreatdoor", sum := "e0d4ea51b969049a9fabbff66ecb99b8bbfdcc1ec886a994906dbd576a189cca", func := "rafter/rafterlaw29.MarkupNames", spec := "markupNames", inPlace := ["internal/bytealg.CountString", "internal/bytealg.IndexByteString", "internal/bytealg.IndexString", "internal/abi.NoEscape", "internal/bytealg.MakeNoZero", "slices.overlaps[rafter/api.File]"], unfollowed := true, recurses := true, named := ["unicode/utf8.first", "unicode/utf8.acceptRanges", "internal/bytealg.MaxLen"], plainKeys := false, apart := false, laid := [("unicode/utf8.acceptRanges", laid_unicode_utf8_acceptRanges), ("unicode/utf8.first", laid_unicode_utf8_first)], narrowed := true }
def MarkupNamesUptoSaid : Prop := markupNamesUptoRow.holds Tryz.pinned (OpenSpec.upto markupNamesSpec)

/-- 'rafterlaw46.LogFinds', WHERE WHAT IT READS IS OF BULK AT MOST 1048576: true; the input reads as it did. -/
def logFindsUptoRow : OpenClaim := { program := "ytklmbhogclaieaagreatdoor", sum := "e0d4ea51b969049a9fabbff66ecb99b8bbfdcc1ec886a994906dbd576a189cca", func := "rafter/rafterlaw46.LogFinds", spec := "logFinds", inPlace := ["slices.overlaps[rafter/api.Slot]", "internal/bytealg.CountString", "internal/bytealg.IndexByteString", "internal/bytealg.IndexString", "internal/abi.NoEscape", "internal/bytealg.MakeNoZero"], unfollowed := true, recurses := true, named := ["unicode/utf8.first", "unicode/utf8.acceptRanges", "internal/bytealg.MaxLen"], plainKeys := false, apart := false, laid := [("unicode/utf8.acceptRanges", laid_unicode_utf8_acceptRanges), ("unicode/utf8.first", laid_unicode_utf8_first)], narrowed := true }
def LogFindsUptoSaid : Prop := logFindsUptoRow.holds Tryz.pinned (OpenSpec.upto logFindsSpec)

/-- 'rafterlaw22.WorkMakes', WHERE WHAT IT READS IS OF BULK AT MOST 1048576: true; the input reads as it did. -/
def workMakesUptoRow : OpenClaim := { program := "ytklmbhogclaieaagreatdoor", sum := "e0d4ea51b969049a9fabbff66ecb99b8bbfdcc1ec886a994906dbd576a189cca", func := "rafter/rafterlaw22.WorkMakes", spec := "workMakes", inPlace := ["slices.overlaps[rafter/api.Slot]", "internal/abi.NoEscape", "internal/bytealg.MakeNoZero", "internal/bytealg.CountString", "internal/bytealg.IndexByteString", "internal/bytealg.IndexString", "slices.overlaps[rafter/api.File]"], unfollowed := true, recurses := true, named := ["unicode/utf8.first", "unicode/utf8.acceptRanges", "internal/bytealg.MaxLen"], plainKeys := false, apart := false, laid := [("unicode/utf8.acceptRanges", laid_unicode_utf8_acceptRanges), ("unicode/utf8.first", laid_unicode_utf8_first)], narrowed := true }
def WorkMakesUptoSaid : Prop := workMakesUptoRow.holds Tryz.pinned (OpenSpec.upto workMakesSpec)

/-- 'rafterlaw29.MarkupLines', WHERE WHAT IT READS IS OF BULK AT MOST 1048576: true; the input reads as it did. -/
def markupLinesUptoRow : OpenClaim := { program := "ytklmbhogclaieaagreatdoor", sum := "e0d4ea51b969049a9fabbff66ecb99b8bbfdcc1ec886a994906dbd576a189cca", func := "rafter/rafterlaw29.MarkupLines", spec := "markupLines", inPlace := ["internal/bytealg.CountString", "internal/bytealg.IndexByteString", "internal/bytealg.IndexString", "internal/abi.NoEscape", "internal/bytealg.MakeNoZero", "slices.overlaps[rafter/api.File]"], unfollowed := true, recurses := true, named := ["unicode/utf8.first", "unicode/utf8.acceptRanges", "internal/bytealg.MaxLen"], plainKeys := false, apart := false, laid := [("unicode/utf8.acceptRanges", laid_unicode_utf8_acceptRanges), ("unicode/utf8.first", laid_unicode_utf8_first)], narrowed := true }
def MarkupLinesUptoSaid : Prop := markupLinesUptoRow.holds Tryz.pinned (OpenSpec.upto markupLinesSpec)

/-- 'rafterlaw46.LogTexts', WHERE WHAT IT READS IS OF BULK AT MOST 1048576: true; the input reads as it did. -/
def logTextsUptoRow : OpenClaim := { program := "ytklmbhogclaieaagreatdoor", sum := "e0d4ea51b969049a9fabbff66ecb99b8bbfdcc1ec886a994906dbd576a189cca", func := "rafter/rafterlaw46.LogTexts", spec := "logTexts", inPlace := ["slices.overlaps[rafter/api.Slot]", "internal/bytealg.CountString", "internal/bytealg.IndexByteString", "internal/bytealg.IndexString", "internal/abi.NoEscape", "internal/bytealg.MakeNoZero"], unfollowed := true, recurses := true, named := ["unicode/utf8.first", "unicode/utf8.acceptRanges", "internal/bytealg.MaxLen"], plainKeys := false, apart := false, laid := [("unicode/utf8.acceptRanges", laid_unicode_utf8_acceptRanges), ("unicode/utf8.first", laid_unicode_utf8_first)], narrowed := true }
def LogTextsUptoSaid : Prop := logTextsUptoRow.holds Tryz.pinned (OpenSpec.upto logTextsSpec)

end Rows
end Go.Proofs.YtklmbhogclaieaaGreatDoor
