/- A PART OF THE PROOF THAT ONE CALL OF A LAW OF LAYER 18 (of nodes that may be, each path leads there) returns true, whatever the input; the input reads as it did. No condition beyond the given statement. This part: CardN3. -/
import Derived.Test.YtbnkcpbdpgjjbaaGreatDoorCards
import Derived.Test.YtbnkcpbdpgjjbaaGreatDoorTie
import Derived.WalkKit
import Derived.ProofKit
import Derived.Deep.DeepHandedRow
import Derived.Lib.LaidTab
namespace Go.Proofs.Np
open Go Go.ChangeShapes Go.WideShapes Go.ChangeAt Go.RowKit
open Go.Proofs.YtbnkcpbdpgjjbaaGreatDoor
set_option maxRecDepth 1000000

theorem hLaid : laidOutB Tryz.prog = true := by kernel_rfl
theorem hMaps : mapsRowed Tryz.prog = true := by kernel_rfl
theorem hIn : (Rows.nodesPathsRow.inPlace == Tryz.prog.inPlace 3) = true := by kernel_rfl
theorem hUnf : (Rows.nodesPathsRow.unfollowed == Tryz.prog.unfollowed 3) = true := by kernel_rfl
theorem hRec : (Rows.nodesPathsRow.recurses == Tryz.prog.recurses 3) = true := by kernel_rfl
theorem hNam : (Rows.nodesPathsRow.named == Tryz.prog.varsNamed 3) = true := by kernel_rfl
theorem hKeys : (Rows.nodesPathsRow.plainKeys == Tryz.prog.plainKeys) = true := by kernel_rfl
theorem closed : joinedFacts Tryz.prog 3 Tryz.f3 (OpenSpec.ofChange Rows.nodesPathsSpec).bare Rows.nodesPathsRow = true := by
  unfold joinedFacts
  rw [hLaid, hMaps, hIn, hUnf, hRec, hNam, hKeys]
  kernel_rfl
theorem named3 : Tryz.prog.funcNamed Rows.nodesPathsRow.func = some 3 := by kernel_rfl
theorem saidOf (hl : ∀ (os : Os) (_ : os.Started) (H : Type) (enc : TypeId × Value → H) (F : Stop.Interp), ReturnsInHanded {} Tryz.checked os 3 .any ((OpenSpec.ofChange Rows.nodesPathsSpec).preRow enc Tryz.prog Tryz.f3 Rows.nodesPathsRow.domain false Rows.nodesPathsRow.laid) (((OpenSpec.ofChange Rows.nodesPathsSpec).at F).post enc Tryz.prog Tryz.f3 false true false false)) : Rows.NodesPathsSaid :=
  OpenClaim.holds_of_cond 3 Tryz.f3 rfl rfl rfl rfl rfl rfl rfl ⟨rfl, rfl, rfl, rfl, rfl⟩ rfl rfl rfl rfl rfl named3 Tryz.func3 closed
    (of_decide_eq_true (by kernel_rfl)) (by unfold Func.isWrapper; first | (rw [if_pos (by decide +kernel)]; kernel_rfl) | (rw [if_neg (by decide +kernel)]; exact ⟨rfl, rfl⟩))
    (fun os started H enc _ F => by rw [OpenClaim.pre_eq_preRow]; exact hl os started H enc F)

end Go.Proofs.Np
