/- A PART OF THE PROOFS THAT ONE CALL OF A LAW (the nil repository of layer 34; no desk, no power of layer 37) returns true, whatever the input; the input reads as it did. No condition beyond the given statement. This part: CardD3. -/
import Derived.Test.YtngfenfmhbfcaaaGreatDoorCards
import Derived.Test.YtngfenfmhbfcaaaGreatDoorTie
import Derived.WalkKit
import Derived.ProofKit
import Derived.Deep.DeepHandedRow
import Derived.Lib.LaidTab
namespace Go.Proofs.Tr
open Go Go.ChangeShapes Go.WideShapes Go.ChangeAt Go.RowKit
open Go.Proofs.YtngfenfmhbfcaaaGreatDoor
set_option maxRecDepth 1000000

theorem hLaid : laidOutB Tryz.prog = true := by kernel_rfl
theorem hMaps : mapsRowed Tryz.prog = true := by kernel_rfl
theorem hIn : (Rows.deskNoneRow.inPlace == Tryz.prog.inPlace 4) = true := by kernel_rfl
theorem hUnf : (Rows.deskNoneRow.unfollowed == Tryz.prog.unfollowed 4) = true := by kernel_rfl
theorem hRec : (Rows.deskNoneRow.recurses == Tryz.prog.recurses 4) = true := by kernel_rfl
theorem hNam : (Rows.deskNoneRow.named == Tryz.prog.varsNamed 4) = true := by kernel_rfl
theorem hKeys : (Rows.deskNoneRow.plainKeys == Tryz.prog.plainKeys) = true := by kernel_rfl
theorem closed : joinedFacts Tryz.prog 4 Tryz.f4 (OpenSpec.ofChange Rows.deskNoneSpec).bare Rows.deskNoneRow = true := by
  unfold joinedFacts
  rw [hLaid, hMaps, hIn, hUnf, hRec, hNam, hKeys]
  kernel_rfl
theorem named4 : Tryz.prog.funcNamed Rows.deskNoneRow.func = some 4 := by kernel_rfl
theorem saidOf (hl : ∀ (os : Os) (_ : os.Started) (H : Type) (enc : TypeId × Value → H) (F : Stop.Interp), ReturnsInHanded {} Tryz.checked os 4 .any ((OpenSpec.ofChange Rows.deskNoneSpec).preRow enc Tryz.prog Tryz.f4 Rows.deskNoneRow.domain false Rows.deskNoneRow.laid) (((OpenSpec.ofChange Rows.deskNoneSpec).at F).post enc Tryz.prog Tryz.f4 false true false false)) : Rows.DeskNoneSaid :=
  OpenClaim.holds_of_cond 4 Tryz.f4 rfl rfl rfl rfl rfl rfl rfl ⟨rfl, rfl, rfl, rfl, rfl⟩ rfl rfl rfl rfl rfl named4 Tryz.func4 closed
    (of_decide_eq_true (by kernel_rfl)) (by unfold Func.isWrapper; first | (rw [if_pos (by decide +kernel)]; kernel_rfl) | (rw [if_neg (by decide +kernel)]; exact ⟨rfl, rfl⟩))
    (fun os started H enc _ F => by rw [OpenClaim.pre_eq_preRow]; exact hl os started H enc F)

end Go.Proofs.Tr
