/- A PART OF THE PROOF THAT SHOWS THAT EACH OF rafterlaw44.GateAsk AND rafterlaw44.GateAll RETURNS TRUE FOR EVERY INPUT. No condition beyond the given statement. This part: CardGL3. -/
import Derived.Test.YtaaepmochmaheaaGreatDoorCards
import Derived.Test.YtaaepmochmaheaaGreatDoorTie
import Derived.WalkKit
import Derived.ProofKit
import Derived.Deep.DeepHandedRow
import Derived.Lib.LaidTab
namespace Go.Proofs.WGL
open Go Go.ChangeShapes Go.WideShapes Go.ChangeAt Go.RowKit
open Go.Proofs.YtaaepmochmaheaaGreatDoor
set_option maxRecDepth 1000000

theorem hLaid : laidOutB Tryz.prog = true := by kernel_rfl
theorem hMaps : mapsRowed Tryz.prog = true := by kernel_rfl
theorem hIn : (Rows.gateAllRow.inPlace == Tryz.prog.inPlace 4) = true := by kernel_rfl
theorem hUnf : (Rows.gateAllRow.unfollowed == Tryz.prog.unfollowed 4) = true := by kernel_rfl
theorem hRec : (Rows.gateAllRow.recurses == Tryz.prog.recurses 4) = true := by kernel_rfl
theorem hNam : (Rows.gateAllRow.named == Tryz.prog.varsNamed 4) = true := by kernel_rfl
theorem hKeys : (Rows.gateAllRow.plainKeys == Tryz.prog.plainKeys) = true := by kernel_rfl
theorem closed : joinedFacts Tryz.prog 4 Tryz.f4 (OpenSpec.ofChange Rows.gateAllSpec).bare Rows.gateAllRow = true := by
  unfold joinedFacts
  rw [hLaid, hMaps, hIn, hUnf, hRec, hNam, hKeys]
  kernel_rfl
theorem named3 : Tryz.prog.funcNamed Rows.gateAllRow.func = some 4 := by kernel_rfl
theorem saidOf (hl : ∀ (os : Os) (_ : os.Started) (H : Type) (enc : TypeId × Value → H) (F : Stop.Interp), ReturnsInHanded {} Tryz.checked os 4 .any ((OpenSpec.ofChange Rows.gateAllSpec).preRow enc Tryz.prog Tryz.f4 Rows.gateAllRow.domain false Rows.gateAllRow.laid) (((OpenSpec.ofChange Rows.gateAllSpec).at F).post enc Tryz.prog Tryz.f4 false true false false)) : Rows.GateAllSaid :=
  OpenClaim.holds_of_cond 4 Tryz.f4 rfl rfl rfl rfl rfl rfl rfl ⟨rfl, rfl, rfl, rfl, rfl⟩ rfl rfl rfl rfl rfl named3 Tryz.func4 closed
    (of_decide_eq_true (by kernel_rfl)) (by unfold Func.isWrapper; first | (rw [if_pos (by decide +kernel)]; kernel_rfl) | (rw [if_neg (by decide +kernel)]; exact ⟨rfl, rfl⟩))
    (fun os started H enc _ F => by rw [OpenClaim.pre_eq_preRow]; exact hl os started H enc F)

end Go.Proofs.WGL
