/- A PART OF THE PROOF THAT SAVETEXTS HOLDS FOR EVERY INPUT OF BULK AT MOST 1048576. No condition beyond the given statement. This part: CardST0. -/
import Derived.Test.YtciahohaonhdgaaGreatDoorCards
import Derived.Test.YtciahohaonhdgaaGreatDoorTie
import Derived.WalkKit
import Derived.ProofKit
import Derived.Deep.DeepHandedRow
import Derived.Lib.LaidTab
namespace Go.Proofs.WST
open Go Go.ChangeShapes Go.WideShapes Go.ChangeAt Go.RowKit
open Go.Proofs.YtciahohaonhdgaaGreatDoor
set_option maxRecDepth 1000000
theorem own : ownKnob Tryz.prog.godebug = none := by kernel_rfl
mutual
def flatW : DataW Unit → List Value
 | .lit (.int k n) => [.int k n]
 | .agg l => flatWs l
 | _ => []
def flatWs : List (DataW Unit) → List Value
 | [] => []
 | d :: r => flatW d ++ flatWs r
end
def laying (l : List Value) : Obj → Obj
 | .cells _ t frozen => .cells l.toArray t frozen
 | o => o
noncomputable def laidWorld (os : Os) : World :=
 { World.holding Tryz.prog os ⟨#[], #[], []⟩ with heap := ((World.holding Tryz.prog os ⟨#[], #[], []⟩).heap.modify 1 (laying (flatW Rows.laid_unicode_utf8_acceptRanges))).modify 0 (laying (flatW Rows.laid_unicode_utf8_first)) }
noncomputable def witArgs : Array Value := #[.slice none 0 0, .slice none 0 0, .string ⟨#[]⟩]
theorem laid_met (os : Os) : laidMet Tryz.prog Rows.saveTextsUptoRow.laid ((laidWorld os).forCall (fun _ _ => 0) ⟨#[], witArgs, []⟩).memory :=
 laidMet_of_run' 8 (by kernel_rfl) (by kernel_rfl)
theorem reads (os : Os) {H : Type} (enc : TypeId × Value → H) : ∃ places, DataW.whole enc Tryz.prog ((laidWorld os).forCall (fun _ _ => 0) ⟨#[], witArgs, []⟩).memory Tryz.f3.params.toList Rows.saveTextsSpec.vars false witArgs.toList 8 = some ([.nil, .nil, .lit (.string [])], [], places) :=
 ⟨[], by kernel_rfl⟩
end Go.Proofs.WST
namespace Go.Proofs.WST
open Go Go.ChangeShapes Go.WideShapes Go.ChangeAt Go.RowKit
open Go.Proofs.YtciahohaonhdgaaGreatDoor
set_option maxRecDepth 1000000
def Contract : Prop := ∀ (H : Type) (enc : TypeId × Value → H) (W : World) (base : Nat) (args : Array Value) (ds gs : List (DataW H)) (before : List MemPlace),
  (∀ (j : Nat) t v, Tryz.f3.params[j]? = some t → args[j]? = some v → Value.okWide Tryz.prog W .any base t v) →
  DataW.Whole enc Tryz.prog Tryz.f3.params.toList Rows.saveTextsSpec.vars false W args.toList ds gs before → Rows.uptoSmall H (ds ++ gs) = true → laidMetH Tryz.prog Rows.saveTextsUptoRow.laid W → W.ShapedOpen Tryz.prog →
  Calls Tryz.prog 3 args W fun e W' => ∃ v, e = .returned v ∧ Rows.saveTextsSpec.post enc Tryz.prog Tryz.f3 false true false false W args v W'
theorem liftedOf (hcontract : Contract) (os : Os) (started : os.Started) (H : Type) (enc : TypeId × Value → H) (F : Stop.Interp) :
  ReturnsInHanded {} Tryz.checked os 3 .any ((Rows.OpenSpec.upto Rows.saveTextsSpec).preRow enc Tryz.prog Tryz.f3 Rows.saveTextsUptoRow.domain false Rows.saveTextsUptoRow.laid) (((Rows.OpenSpec.upto Rows.saveTextsSpec).at F).post enc Tryz.prog Tryz.f3 false true false false) := by
 obtain ⟨places, hx⟩ := reads os enc
 refine returnsInHanded_of_row (C := Tryz.checked) (s := Rows.OpenSpec.upto Rows.saveTextsSpec) own started (by kernel_rfl) Tryz.func3
  (witness_row_at (enc := enc) (C := Tryz.checked) false (laidWorld os) witArgs rfl (by kernel_rfl) (by kernel_rfl) (by kernel_rfl)
   (OpenSpec.preRow_of_cond 8 hx (by kernel_rfl) (fun k hk => by cases hk; kernel_rfl) (by kernel_rfl) (laid_met os))) ?_
 intro W base args ds gs before hval hW _ hcond _ hL hsh _
 exact hcontract H enc W base args ds gs before hval hW (hcond _ rfl) hL hsh
end Go.Proofs.WST
