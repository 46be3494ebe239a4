/- A PART OF THE PROOF THAT SHOWS THAT EACH OF rafterlaw44.GateAsk AND rafterlaw44.GateAll RETURNS TRUE FOR EVERY INPUT. No condition beyond the given statement. This part: CardGL1. -/
import Derived.Test.YtaaepmochmaheaaGreatDoorCards
import Derived.Test.YtaaepmochmaheaaGreatDoorTie
import Derived.WalkKit
import Derived.ProofKit
import Derived.Deep.DeepHandedRow
import Derived.Lib.LaidTab
namespace Go.Proofs.WGL
open Go Go.ChangeShapes Go.WideShapes Go.ChangeAt Go.RowKit
open Go.Proofs.YtaaepmochmaheaaGreatDoor
set_option maxRecDepth 1000000

/-- No parameter wants a stand-in; the program's own looks. -/
theorem plain (f : FuncId) (fn : Func) (hf : Tryz.pinned.checked.prog.funcNamed "rafter/rafterlaw44.GateAll" = some f) (hfn : Tryz.pinned.checked.prog.funcs[f]? = some fn) :
    true = Tryz.pinned.checked.prog.looks [] ∧ ∀ (j : Nat) t, fn.params[j]? = some t → Tryz.pinned.checked.prog.wantsStandIn t = false := by
  obtain rfl : f = 4 := Option.some.inj ((show Tryz.prog.funcNamed "rafter/rafterlaw44.GateAll" = some 4 by kernel_rfl).symm.trans hf) |>.symm
  obtain rfl : fn = Tryz.f4 := (Option.some.inj (Tryz.func4.symm.trans hfn)).symm
  refine ⟨by kernel_rfl, fun j t ht => ?_⟩
  rw [Tryz.params4] at ht
  have hm : t ∈ #[25, 38] := Array.mem_of_getElem? ht
  simp only [List.mem_toArray, List.mem_cons, List.not_mem_nil, or_false] at hm
  rcases hm with rfl | rfl
  · exact (show Tryz.prog.wantsStandIn 25 = false by kernel_rfl)
  · exact (show Tryz.prog.wantsStandIn 38 = false by kernel_rfl)

end Go.Proofs.WGL
namespace Go.Proofs.WGL
open Go Go.ChangeShapes Go.WideShapes Go.ChangeAt Go.RowKit
open Go.Proofs.YtaaepmochmaheaaGreatDoor
set_option maxRecDepth 1000000

theorem hw4 : Rows.gateAllRow.wfByText (OpenSpec.ofChange Rows.gateAllSpec) = true := by kernel_rfl
theorem hm4 : Tryz.prog.mainIs = some (true, ("6a182db677011788138ab68631a187adf0f0d5f6442d236b0fe8683669a97e83" : String).toList) := by kernel_rfl
theorem goes_none {P : Program} (h : P.funcs.any Func.goes = false) (f : FuncId) : P.goes f = false := by
  have h1 : ∀ g : Nat, (P.funcs[g]?).any Func.goes = false := fun g => by
    cases hg : P.funcs[g]? with
    | none => rfl
    | some fn =>
      have hm : fn ∈ P.funcs := Array.mem_of_getElem? hg
      cases hf : Func.goes fn with
      | false => simpa using hf
      | true =>
        have : P.funcs.any Func.goes = true := Array.any_eq_true'.2 ⟨fn, hm, hf⟩
        rw [h] at this; cases this
  unfold Program.goes
  simp [h1, h]

theorem goesBy_none {P : Program} {c : OpenClaim} (hs : c.start = .entering) (h : P.funcs.any Func.goes = false) : false = c.goesBy P := by
  unfold OpenClaim.goesBy Program.goesAt Program.goesFrom
  rw [hs]
  cases P.funcNamed c.func with
  | none => rfl
  | some f => simp [goes_none h f]

theorem noGo : Tryz.prog.funcs.any Func.goes = false := by kernel_rfl
theorem hg4 : false = Rows.gateAllRow.goesBy Tryz.prog := goesBy_none rfl noGo
/-- THE CARD -/
theorem cardOf (hs : Rows.GateAllSaid) : Rows.GateAllCardSaid :=
  Claim7.holds_tied_plain_at .later [] _ _ _ _ hs (fun _ h => by cases h) hw4 (fun _ h => by cases h) gateAll_row_tie rfl ⟨rfl, rfl⟩ hm4 rfl plain hg4

end Go.Proofs.WGL
