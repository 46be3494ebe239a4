/- A PART OF THE PROOF THAT SAVETEXTS HOLDS FOR EVERY INPUT OF BULK AT MOST 1048576. No condition beyond the given statement. This part: CardST1. -/
import Derived.Test.YtciahohaonhdgaaGreatDoorCards
import Derived.Test.YtciahohaonhdgaaGreatDoorTie
import Derived.WalkKit
import Derived.ProofKit
import Derived.Deep.DeepHandedRow
import Derived.Lib.LaidTab
namespace Go.Proofs.WST
open Go Go.ChangeShapes Go.WideShapes Go.ChangeAt Go.RowKit
open Go.Proofs.YtciahohaonhdgaaGreatDoor
set_option maxRecDepth 1000000
theorem hLaid : laidOutB Tryz.prog = true := by kernel_rfl
theorem hMaps : mapsRowed Tryz.prog = true := by kernel_rfl
theorem hIn : (Rows.saveTextsUptoRow.inPlace == Tryz.prog.inPlace 3) = true := by kernel_rfl
theorem hUnf : (Rows.saveTextsUptoRow.unfollowed == Tryz.prog.unfollowed 3) = true := by kernel_rfl
theorem hRec : (Rows.saveTextsUptoRow.recurses == Tryz.prog.recurses 3) = true := by kernel_rfl
theorem hNam : (Rows.saveTextsUptoRow.named == Tryz.prog.varsNamed 3) = true := by kernel_rfl
theorem hKeys : (Rows.saveTextsUptoRow.plainKeys == Tryz.prog.plainKeys) = true := by kernel_rfl
theorem closed : joinedFacts Tryz.prog 3 Tryz.f3 (Rows.OpenSpec.upto Rows.saveTextsSpec).bare Rows.saveTextsUptoRow = true := by
 unfold joinedFacts
 rw [hLaid, hMaps, hIn, hUnf, hRec, hNam, hKeys]
 kernel_rfl
theorem named3 : Tryz.prog.funcNamed Rows.saveTextsUptoRow.func = some 3 := by kernel_rfl
theorem saidOf (hl : ∀ (os : Os) (_ : os.Started) (H : Type) (enc : TypeId × Value → H) (F : Stop.Interp), ReturnsInHanded {} Tryz.checked os 3 .any ((Rows.OpenSpec.upto Rows.saveTextsSpec).preRow enc Tryz.prog Tryz.f3 Rows.saveTextsUptoRow.domain false Rows.saveTextsUptoRow.laid) (((Rows.OpenSpec.upto Rows.saveTextsSpec).at F).post enc Tryz.prog Tryz.f3 false true false false)) : Rows.SaveTextsUptoSaid :=
 OpenClaim.holds_of_cond 3 Tryz.f3 rfl rfl rfl rfl rfl rfl rfl ⟨rfl, rfl, rfl, rfl, rfl⟩ rfl rfl rfl rfl rfl named3 Tryz.func3 closed
  (of_decide_eq_true (by kernel_rfl)) (by unfold Func.isWrapper; first | (rw [if_pos (by decide +kernel)]; kernel_rfl) | (rw [if_neg (by decide +kernel)]; exact ⟨rfl, rfl⟩))
  (fun os started H enc _ F => by rw [OpenClaim.pre_eq_preRow]; exact hl os started H enc F)
end Go.Proofs.WST
namespace Go.Proofs.WST
open Go Go.ChangeShapes Go.WideShapes Go.ChangeAt Go.RowKit
open Go.Proofs.YtciahohaonhdgaaGreatDoor
set_option maxRecDepth 1000000
theorem plain (f : FuncId) (fn : Func) (hf : Tryz.pinned.checked.prog.funcNamed "rafter/rafterlaw33.SaveTexts" = some f) (hfn : Tryz.pinned.checked.prog.funcs[f]? = some fn) :
  true = Tryz.pinned.checked.prog.looks [] ∧ ∀ (j : Nat) t, fn.params[j]? = some t → Tryz.pinned.checked.prog.wantsStandIn t = false := by
 obtain rfl : f = 3 := Option.some.inj ((show Tryz.prog.funcNamed "rafter/rafterlaw33.SaveTexts" = some 3 by kernel_rfl).symm.trans hf) |>.symm
 obtain rfl : fn = Tryz.f3 := (Option.some.inj (Tryz.func3.symm.trans hfn)).symm
 refine ⟨by kernel_rfl, fun j t ht => ?_⟩
 rw [Tryz.params3] at ht
 have hm : t ∈ #[22, 23, 9] := Array.mem_of_getElem? ht
 simp only [List.mem_toArray, List.mem_cons, List.not_mem_nil, or_false] at hm
 rcases hm with rfl | rfl | rfl
 ·exact (show Tryz.prog.wantsStandIn 22 = false by kernel_rfl)
 ·exact (show Tryz.prog.wantsStandIn 23 = false by kernel_rfl)
 ·exact (show Tryz.prog.wantsStandIn 9 = false by kernel_rfl)
end Go.Proofs.WST
namespace Go.Proofs.WST
open Go Go.ChangeShapes Go.WideShapes Go.ChangeAt Go.RowKit
open Go.Proofs.YtciahohaonhdgaaGreatDoor
set_option maxRecDepth 1000000
theorem hw4 : Rows.saveTextsUptoRow.wfByText (Rows.OpenSpec.upto Rows.saveTextsSpec) = true := by kernel_rfl
theorem hm4 : Tryz.prog.mainIs = some (true, ("2637f5b9cfc43e7303286c03b71ce8bae4173c6a7e234a1f6ae2b616d232a95d" : String).toList) := by kernel_rfl
theorem goes_none {P : Program} (h : P.funcs.any Func.goes = false) (f : FuncId) : P.goes f = false := by
 have h1 : ∀ g : Nat, (P.funcs[g]?).any Func.goes = false := fun g => by
  cases hg : P.funcs[g]? with
  | none => rfl
  | some fn =>
   have hm : fn ∈ P.funcs := Array.mem_of_getElem? hg
   cases hf : Func.goes fn with
   | false => simpa using hf
   | true =>
    have : P.funcs.any Func.goes = true := Array.any_eq_true'.2 ⟨fn, hm, hf⟩
    rw [h] at this; cases this
 unfold Program.goes
 simp [h1, h]
theorem goesBy_none {P : Program} {c : OpenClaim} (hs : c.start = .entering) (h : P.funcs.any Func.goes = false) : false = c.goesBy P := by
 unfold OpenClaim.goesBy Program.goesAt Program.goesFrom
 rw [hs]
 cases P.funcNamed c.func with
 | none => rfl
 | some f => simp [goes_none h f]
theorem noGo : Tryz.prog.funcs.any Func.goes = false := by kernel_rfl
theorem hg4 : false = Rows.saveTextsUptoRow.goesBy Tryz.prog := goesBy_none rfl noGo
theorem cardOf (hs : Rows.SaveTextsUptoSaid) : Rows.SaveTextsUptoCardSaid :=
 Claim7.holds_tied_plain_at .later [] _ _ _ _ hs (fun _ h => by cases h) hw4 (fun _ h => by cases h) saveTextsUpto_row_tie rfl ⟨rfl, rfl⟩ hm4 rfl plain hg4
end Go.Proofs.WST
