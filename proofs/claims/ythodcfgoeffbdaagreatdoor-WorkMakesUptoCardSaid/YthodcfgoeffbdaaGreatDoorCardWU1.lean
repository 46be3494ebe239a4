/- A PART OF THE PROOF THAT WORKMAKES HOLDS FOR EVERY INPUT OF BULK AT MOST 1048576. No condition beyond the given statement. This part: CardWU1. -/
import Derived.Test.YthodcfgoeffbdaaGreatDoorCards
import Derived.Test.YthodcfgoeffbdaaGreatDoorTie
import Derived.WalkKit
import Derived.ProofKit
import Derived.Deep.DeepHandedRow
import Derived.Lib.LaidTab
namespace Go.Proofs.WWU
open Go Go.ChangeShapes Go.WideShapes Go.ChangeAt Go.RowKit
open Go.Proofs.YthodcfgoeffbdaaGreatDoor
set_option maxRecDepth 1000000

/-- No parameter wants a stand-in; the program's own looks. -/
theorem plain (f : FuncId) (fn : Func) (hf : Tryz.pinned.checked.prog.funcNamed "rafter/rafterlaw22.WorkMakes" = some f) (hfn : Tryz.pinned.checked.prog.funcs[f]? = some fn) :
    false = Tryz.pinned.checked.prog.looks [] ∧ ∀ (j : Nat) t, fn.params[j]? = some t → Tryz.pinned.checked.prog.wantsStandIn t = false := by
  obtain rfl : f = 3 := Option.some.inj ((show Tryz.prog.funcNamed "rafter/rafterlaw22.WorkMakes" = some 3 by kernel_rfl).symm.trans hf) |>.symm
  obtain rfl : fn = Tryz.f3 := (Option.some.inj (Tryz.func3.symm.trans hfn)).symm
  refine ⟨by kernel_rfl, fun j t ht => ?_⟩
  rw [Tryz.params3] at ht
  have hm : t ∈ #[22, 23] := Array.mem_of_getElem? ht
  simp only [List.mem_toArray, List.mem_cons, List.not_mem_nil, or_false] at hm
  rcases hm with rfl | rfl
  · exact (show Tryz.prog.wantsStandIn 22 = false by kernel_rfl)
  · exact (show Tryz.prog.wantsStandIn 23 = false by kernel_rfl)

end Go.Proofs.WWU
namespace Go.Proofs.WWU
open Go Go.ChangeShapes Go.WideShapes Go.ChangeAt Go.RowKit
open Go.Proofs.YthodcfgoeffbdaaGreatDoor
set_option maxRecDepth 1000000

theorem hw4 : Rows.workMakesUptoRow.wfByText (Rows.OpenSpec.upto Rows.workMakesSpec) = true := by kernel_rfl
theorem hm4 : Tryz.prog.mainIs = some (true, ("46c7ab93a6ff633926e34e8b0daa6fba871cc9c2496a09fc806c4c26f2ec352c" : String).toList) := by kernel_rfl
theorem goes_none {P : Program} (h : P.funcs.any Func.goes = false) (f : FuncId) : P.goes f = false := by
  have h1 : ∀ g : Nat, (P.funcs[g]?).any Func.goes = false := fun g => by
    cases hg : P.funcs[g]? with
    | none => rfl
    | some fn =>
      have hm : fn ∈ P.funcs := Array.mem_of_getElem? hg
      cases hf : Func.goes fn with
      | false => simpa using hf
      | true =>
        have : P.funcs.any Func.goes = true := Array.any_eq_true'.2 ⟨fn, hm, hf⟩
        rw [h] at this; cases this
  unfold Program.goes
  simp [h1, h]

theorem goesBy_none {P : Program} {c : OpenClaim} (hs : c.start = .entering) (h : P.funcs.any Func.goes = false) : false = c.goesBy P := by
  unfold OpenClaim.goesBy Program.goesAt Program.goesFrom
  rw [hs]
  cases P.funcNamed c.func with
  | none => rfl
  | some f => simp [goes_none h f]

theorem noGo : Tryz.prog.funcs.any Func.goes = false := by kernel_rfl
theorem hg4 : false = Rows.workMakesUptoRow.goesBy Tryz.prog := goesBy_none rfl noGo
/-- THE CARD -/
theorem cardOf (hs : Rows.WorkMakesUptoSaid) : Rows.WorkMakesUptoCardSaid :=
  Claim7.holds_tied_plain_at .later [] _ _ _ _ hs (fun _ h => by cases h) hw4 (fun _ h => by cases h) workMakesUpto_row_tie rfl ⟨rfl, rfl⟩ hm4 rfl plain hg4

end Go.Proofs.WWU
