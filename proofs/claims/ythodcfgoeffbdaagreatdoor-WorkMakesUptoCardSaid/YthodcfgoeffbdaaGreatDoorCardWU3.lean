/- A PART OF THE PROOF THAT WORKMAKES HOLDS FOR EVERY INPUT OF BULK AT MOST 1048576. No condition beyond the given statement. This part: CardWU3. -/
import Derived.Test.YthodcfgoeffbdaaGreatDoorCards
import Derived.Test.YthodcfgoeffbdaaGreatDoorTie
import Derived.WalkKit
import Derived.ProofKit
import Derived.Deep.DeepHandedRow
import Derived.Lib.LaidTab
namespace Go.Proofs.WWU
open Go Go.ChangeShapes Go.WideShapes Go.ChangeAt Go.RowKit
open Go.Proofs.YthodcfgoeffbdaaGreatDoor
set_option maxRecDepth 1000000

theorem hLaid : laidOutB Tryz.prog = true := by kernel_rfl
theorem hMaps : mapsRowed Tryz.prog = true := by kernel_rfl
theorem hIn : (Rows.workMakesUptoRow.inPlace == Tryz.prog.inPlace 3) = true := by kernel_rfl
theorem hUnf : (Rows.workMakesUptoRow.unfollowed == Tryz.prog.unfollowed 3) = true := by kernel_rfl
theorem hRec : (Rows.workMakesUptoRow.recurses == Tryz.prog.recurses 3) = true := by kernel_rfl
theorem hNam : (Rows.workMakesUptoRow.named == Tryz.prog.varsNamed 3) = true := by kernel_rfl
theorem hKeys : (Rows.workMakesUptoRow.plainKeys == Tryz.prog.plainKeys) = true := by kernel_rfl
theorem closed : joinedFacts Tryz.prog 3 Tryz.f3 (Rows.OpenSpec.upto Rows.workMakesSpec).bare Rows.workMakesUptoRow = true := by
  unfold joinedFacts
  rw [hLaid, hMaps, hIn, hUnf, hRec, hNam, hKeys]
  kernel_rfl
theorem named3 : Tryz.prog.funcNamed Rows.workMakesUptoRow.func = some 3 := by kernel_rfl
theorem saidOf (hl : ∀ (os : Os) (_ : os.Started) (H : Type) (enc : TypeId × Value → H) (F : Stop.Interp), ReturnsInHanded {} Tryz.checked os 3 .any ((Rows.OpenSpec.upto Rows.workMakesSpec).preRow enc Tryz.prog Tryz.f3 Rows.workMakesUptoRow.domain false Rows.workMakesUptoRow.laid) (((Rows.OpenSpec.upto Rows.workMakesSpec).at F).post enc Tryz.prog Tryz.f3 false true false false)) : Rows.WorkMakesUptoSaid :=
  OpenClaim.holds_of_cond 3 Tryz.f3 rfl rfl rfl rfl rfl rfl rfl ⟨rfl, rfl, rfl, rfl, rfl⟩ rfl rfl rfl rfl rfl named3 Tryz.func3 closed
    (of_decide_eq_true (by kernel_rfl)) (by unfold Func.isWrapper; first | (rw [if_pos (by decide +kernel)]; kernel_rfl) | (rw [if_neg (by decide +kernel)]; exact ⟨rfl, rfl⟩))
    (fun os started H enc _ F => by rw [OpenClaim.pre_eq_preRow]; exact hl os started H enc F)

end Go.Proofs.WWU
