/- A PART OF THE PROOFS THAT ONE CALL OF A LAW (the nil repository of layer 34; no desk, no power of layer 37) returns true, whatever the input; the input reads as it did. No condition beyond the given statement. This part: CardR3. -/
import Derived.Test.YtngfenfmhbfcaaaGreatDoorCards
import Derived.Test.YtngfenfmhbfcaaaGreatDoorTie
import Derived.WalkKit
import Derived.ProofKit
import Derived.Deep.DeepHandedRow
import Derived.Lib.LaidTab
namespace Go.Proofs.Tr
open Go Go.ChangeShapes Go.WideShapes Go.ChangeAt Go.RowKit
open Go.Proofs.YtngfenfmhbfcaaaGreatDoor
set_option maxRecDepth 1000000

theorem hLaid : laidOutB Tryz.prog = true := by kernel_rfl
theorem hMaps : mapsRowed Tryz.prog = true := by kernel_rfl
theorem hIn : (Rows.repoNoneRow.inPlace == Tryz.prog.inPlace 3) = true := by kernel_rfl
theorem hUnf : (Rows.repoNoneRow.unfollowed == Tryz.prog.unfollowed 3) = true := by kernel_rfl
theorem hRec : (Rows.repoNoneRow.recurses == Tryz.prog.recurses 3) = true := by kernel_rfl
theorem hNam : (Rows.repoNoneRow.named == Tryz.prog.varsNamed 3) = true := by kernel_rfl
theorem hKeys : (Rows.repoNoneRow.plainKeys == Tryz.prog.plainKeys) = true := by kernel_rfl
theorem closed : joinedFacts Tryz.prog 3 Tryz.f3 (OpenSpec.ofChange Rows.repoNoneSpec).bare Rows.repoNoneRow = true := by
  unfold joinedFacts
  rw [hLaid, hMaps, hIn, hUnf, hRec, hNam, hKeys]
  kernel_rfl
theorem named3 : Tryz.prog.funcNamed Rows.repoNoneRow.func = some 3 := by kernel_rfl
theorem saidOf (hl : ∀ (os : Os) (_ : os.Started) (H : Type) (enc : TypeId × Value → H) (F : Stop.Interp), ReturnsInHanded {} Tryz.checked os 3 .any ((OpenSpec.ofChange Rows.repoNoneSpec).preRow enc Tryz.prog Tryz.f3 Rows.repoNoneRow.domain false Rows.repoNoneRow.laid) (((OpenSpec.ofChange Rows.repoNoneSpec).at F).post enc Tryz.prog Tryz.f3 false true false false)) : Rows.RepoNoneSaid :=
  OpenClaim.holds_of_cond 3 Tryz.f3 rfl rfl rfl rfl rfl rfl rfl ⟨rfl, rfl, rfl, rfl, rfl⟩ rfl rfl rfl rfl rfl named3 Tryz.func3 closed
    (of_decide_eq_true (by kernel_rfl)) (by unfold Func.isWrapper; first | (rw [if_pos (by decide +kernel)]; kernel_rfl) | (rw [if_neg (by decide +kernel)]; exact ⟨rfl, rfl⟩))
    (fun os started H enc _ F => by rw [OpenClaim.pre_eq_preRow]; exact hl os started H enc F)

end Go.Proofs.Tr
