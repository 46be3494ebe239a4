/- A PART OF THE PROOF THAT SHOWS THAT EACH OF rafterlaw44.GateAsk AND rafterlaw44.GateAll RETURNS TRUE FOR EVERY INPUT. No condition beyond the given statement. This part: CardGA3. -/
import Derived.Test.YtaaepmochmaheaaGreatDoorCards
import Derived.Test.YtaaepmochmaheaaGreatDoorTie
import Derived.WalkKit
import Derived.ProofKit
import Derived.Deep.DeepHandedRow
import Derived.Lib.LaidTab
namespace Go.Proofs.WGA
open Go Go.ChangeShapes Go.WideShapes Go.ChangeAt Go.RowKit
open Go.Proofs.YtaaepmochmaheaaGreatDoor
set_option maxRecDepth 1000000

theorem hLaid : laidOutB Tryz.prog = true := by kernel_rfl
theorem hMaps : mapsRowed Tryz.prog = true := by kernel_rfl
theorem hIn : (Rows.gateAskRow.inPlace == Tryz.prog.inPlace 3) = true := by kernel_rfl
theorem hUnf : (Rows.gateAskRow.unfollowed == Tryz.prog.unfollowed 3) = true := by kernel_rfl
theorem hRec : (Rows.gateAskRow.recurses == Tryz.prog.recurses 3) = true := by kernel_rfl
theorem hNam : (Rows.gateAskRow.named == Tryz.prog.varsNamed 3) = true := by kernel_rfl
theorem hKeys : (Rows.gateAskRow.plainKeys == Tryz.prog.plainKeys) = true := by kernel_rfl
theorem closed : joinedFacts Tryz.prog 3 Tryz.f3 (OpenSpec.ofChange Rows.gateAskSpec).bare Rows.gateAskRow = true := by
  unfold joinedFacts
  rw [hLaid, hMaps, hIn, hUnf, hRec, hNam, hKeys]
  kernel_rfl
theorem named3 : Tryz.prog.funcNamed Rows.gateAskRow.func = some 3 := by kernel_rfl
theorem saidOf (hl : ∀ (os : Os) (_ : os.Started) (H : Type) (enc : TypeId × Value → H) (F : Stop.Interp), ReturnsInHanded {} Tryz.checked os 3 .any ((OpenSpec.ofChange Rows.gateAskSpec).preRow enc Tryz.prog Tryz.f3 Rows.gateAskRow.domain false Rows.gateAskRow.laid) (((OpenSpec.ofChange Rows.gateAskSpec).at F).post enc Tryz.prog Tryz.f3 false true false false)) : Rows.GateAskSaid :=
  OpenClaim.holds_of_cond 3 Tryz.f3 rfl rfl rfl rfl rfl rfl rfl ⟨rfl, rfl, rfl, rfl, rfl⟩ rfl rfl rfl rfl rfl named3 Tryz.func3 closed
    (of_decide_eq_true (by kernel_rfl)) (by unfold Func.isWrapper; first | (rw [if_pos (by decide +kernel)]; kernel_rfl) | (rw [if_neg (by decide +kernel)]; exact ⟨rfl, rfl⟩))
    (fun os started H enc _ F => by rw [OpenClaim.pre_eq_preRow]; exact hl os started H enc F)

end Go.Proofs.WGA
