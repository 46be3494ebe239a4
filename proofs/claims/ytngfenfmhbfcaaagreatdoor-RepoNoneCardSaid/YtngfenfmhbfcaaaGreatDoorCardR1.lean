/- A PART OF THE PROOFS THAT ONE CALL OF A LAW (the nil repository of layer 34; no desk, no power of layer 37) returns true, whatever the input; the input reads as it did. No condition beyond the given statement. This part: CardR1. -/
import Derived.Test.YtngfenfmhbfcaaaGreatDoorCards
import Derived.Test.YtngfenfmhbfcaaaGreatDoorTie
import Derived.WalkKit
import Derived.ProofKit
import Derived.Deep.DeepHandedRow
import Derived.Lib.LaidTab
namespace Go.Proofs.Tr
open Go Go.ChangeShapes Go.WideShapes Go.ChangeAt Go.RowKit
open Go.Proofs.YtngfenfmhbfcaaaGreatDoor
set_option maxRecDepth 1000000

/-- No parameter wants a stand-in; the program's own looks. -/
theorem plain (f : FuncId) (fn : Func) (hf : Tryz.pinned.checked.prog.funcNamed "rafter/rafterlaw34.RepoNone" = some f) (hfn : Tryz.pinned.checked.prog.funcs[f]? = some fn) :
    true = Tryz.pinned.checked.prog.looks [] ∧ ∀ (j : Nat) t, fn.params[j]? = some t → Tryz.pinned.checked.prog.wantsStandIn t = false := by
  obtain rfl : f = 3 := Option.some.inj ((show Tryz.prog.funcNamed "rafter/rafterlaw34.RepoNone" = some 3 by kernel_rfl).symm.trans hf) |>.symm
  obtain rfl : fn = Tryz.f3 := (Option.some.inj (Tryz.func3.symm.trans hfn)).symm
  refine ⟨by kernel_rfl, fun j t ht => ?_⟩
  rw [Tryz.params3] at ht
  obtain rfl : t = 26 := by simpa using Array.mem_of_getElem? ht
  exact (show Tryz.prog.wantsStandIn 26 = false by kernel_rfl)

end Go.Proofs.Tr
namespace Go.Proofs.Tr
open Go Go.ChangeShapes Go.WideShapes Go.ChangeAt Go.RowKit
open Go.Proofs.YtngfenfmhbfcaaaGreatDoor
set_option maxRecDepth 1000000

theorem hw4 : Rows.repoNoneRow.wfByText (OpenSpec.ofChange Rows.repoNoneSpec) = true := by kernel_rfl
theorem hm4 : Tryz.prog.mainIs = some (true, ("111d2b91338a02fbdedde26d7a3f38a6c31b5f297b4babe428c7147dddffa5bf" : String).toList) := by kernel_rfl
theorem goes_none {P : Program} (h : P.funcs.any Func.goes = false) (f : FuncId) : P.goes f = false := by
  have h1 : ∀ g : Nat, (P.funcs[g]?).any Func.goes = false := fun g => by
    cases hg : P.funcs[g]? with
    | none => rfl
    | some fn =>
      have hm : fn ∈ P.funcs := Array.mem_of_getElem? hg
      cases hf : Func.goes fn with
      | false => simpa using hf
      | true =>
        have : P.funcs.any Func.goes = true := Array.any_eq_true'.2 ⟨fn, hm, hf⟩
        rw [h] at this; cases this
  unfold Program.goes
  simp [h1, h]

theorem goesBy_none {P : Program} {c : OpenClaim} (hs : c.start = .entering) (h : P.funcs.any Func.goes = false) : false = c.goesBy P := by
  unfold OpenClaim.goesBy Program.goesAt Program.goesFrom
  rw [hs]
  cases P.funcNamed c.func with
  | none => rfl
  | some f => simp [goes_none h f]

theorem noGo : Tryz.prog.funcs.any Func.goes = false := by kernel_rfl
theorem hg4 : false = Rows.repoNoneRow.goesBy Tryz.prog := goesBy_none rfl noGo
/-- THE CARD -/
theorem cardOf (hs : Rows.RepoNoneSaid) : Rows.RepoNoneCardSaid :=
  Claim7.holds_tied_plain_at .later [] _ _ _ _ hs (fun _ h => by cases h) hw4 (fun _ h => by cases h) repoNone_row_tie rfl ⟨rfl, rfl⟩ hm4 rfl plain hg4

end Go.Proofs.Tr
