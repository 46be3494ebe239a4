/- A PART OF THE PROOF THAT ONE CALL OF A LAW OF LAYER 29 (whose alternatives any lines have, and whether they have marks) returns true, whatever the input; the input reads as it did. No condition beyond the given statement. This part: ClaimMN. -/
import Derived.Test.YtklmbhogclaieaaGreatDoorWLawMN
import Derived.Test.YtklmbhogclaieaaGreatDoorWPatch
import Derived.Test.YtklmbhogclaieaaGreatDoorBaseG
import Derived.Test.YtklmbhogclaieaaGreatDoorCards
import Derived.Test.YtklmbhogclaieaaGreatDoorTie
import Derived.Deep.DeepHandedRow
import Derived.Lib.LaidTab
namespace Go.Proofs.WMN
open Go Go.ChangeShapes Go.WideShapes Go.ChangeAt Go.RowKit
open Go.Proofs.W
open Go.Proofs.YtklmbhogclaieaaGreatDoor
set_option maxRecDepth 1000000

/-- WHAT THE WALK GIVES, FOR EVERY ARGUMENT AND EVERY WORLD. -/
theorem contract (H : Type) (enc : TypeId × Value → H) (W : World) (base : Nat) (args : Array Value) (ds gs : List (DataW H)) (before : List MemPlace)
    (hval : ∀ (j : Nat) t v, Tryz.f3.params[j]? = some t → args[j]? = some v → Value.okWide Tryz.prog W .any base t v)
    (hW : DataW.Whole enc Tryz.prog Tryz.f3.params.toList Rows.markupNamesSpec.vars false W args.toList ds gs before) (_hsh : W.ShapedOpen Tryz.prog) :
    Calls Tryz.prog 3 args W fun e W' => ∃ v, e = .returned v ∧ Rows.markupNamesSpec.post enc Tryz.prog Tryz.f3 false true false false W args v W' := by
  have hW' := hW
  have hlt := hW.lt
  obtain ⟨p, q, hA0, hV, rfl, hfz, hnd⟩ := hW
  have hA : DataW.TrodAll enc Tryz.prog W 0 (fun _ => true) true Tryz.f3.params.toList args.toList ds p := hA0
  rw [Tryz.params3] at hA hval
  obtain ⟨v0, vs0, d0, ds0, p0, q0, hargs, rfl, rfl, h0, r0⟩ := trodAll_cons hA
  obtain ⟨rfl, rfl, rfl⟩ := trodAll_nil r0
  obtain rfl : args = #[v0] := by cases args; simp_all
  obtain ⟨rfl, rfl⟩ := trodVars_none hV
  have hv0 := hval 0 22 v0 rfl rfl
  obtain ⟨fuel, hf⟩ := h0
  have hcells : v0.cells.toList = [v0] := by
    simp only [Value.okWide, Tryz.underlying22] at hv0
    cases v0 <;> first | rfl | (simp [Cell.okWide, Cell.ok, Tryz.underlying22] at hv0)
  have hf2 : DataW.trod enc Tryz.prog W 0 (fun _ => true) true fuel 22 [v0] = some (d0, p0) := by
    rw [← hcells]; exact hf
  obtain ⟨a, c, xs, rfl, hlen, hN⟩ := openTexts hf2
  clear hA0
  simp only [List.append_nil] at hW' hlt
  refine (lawMN Go.Proofs.Wc.awakeM_calls a c xs W hN hlen).mono fun e W' ⟨he, hg⟩ => ?_
  subst he
  have hb : DataW.Trod enc Tryz.prog W 0 (fun _ => true) true 22 (.slice a xs.length c) d0 p0 := ⟨fuel, hf⟩
  have hback := Below.trod (P := Tryz.prog) (by kernel_rfl) (by kernel_rfl) (of_decide_eq_true (by kernel_rfl)) hb hg (fun x hx => hlt x (by simpa using hx))
  have hargs : DataW.TrodAll enc Tryz.prog W' 0 (fun b => decide (b < W.heap.size)) true Tryz.f3.params.toList [.slice a xs.length c] [d0] (p0 ++ []) := by
    rw [Tryz.params3]
    exact trodAll_cons_mk hback trodAll_mk0
  exact ⟨_, rfl, [d0], [], p0, [], p0 ++ [], [], by simpa using hW', trodAll_cons_mk (shut_bool Tryz.underlying4 _) trodAll_mk0, hargs, rfl, hg.frame _, fun h => by cases h⟩
end Go.Proofs.WMN
