/- A PART OF THE PROOF THAT ONE CALL OF A LAW OF LAYER 46 (which of any patches have a line with any word) returns true, whatever the input; the input reads as it did. No condition beyond the given statement. This part: ClaimLF. -/
import Derived.Test.YtklmbhogclaieaaGreatDoorWLawLF
import Derived.Test.YtklmbhogclaieaaGreatDoorWPatch
import Derived.Test.YtklmbhogclaieaaGreatDoorCards
import Derived.Test.YtklmbhogclaieaaGreatDoorTie
import Derived.Deep.DeepHandedRow
import Derived.Lib.LaidTab
namespace Go.Proofs.WLF
open Go Go.ChangeShapes Go.WideShapes Go.ChangeAt Go.RowKit
open Go.Proofs.W
open Go.Proofs.Wc (HasM)
open Go.Proofs.YtklmbhogclaieaaGreatDoor
set_option maxRecDepth 1000000

/-- WHAT THE WALK GIVES, FOR EVERY ARGUMENT AND EVERY WORLD. -/
theorem contract (H : Type) (enc : TypeId × Value → H) (W : World) (base : Nat) (args : Array Value) (ds gs : List (DataW H)) (before : List MemPlace)
    (hval : ∀ (j : Nat) t v, Tryz.f4.params[j]? = some t → args[j]? = some v → Value.okWide Tryz.prog W .any base t v)
    (hW : DataW.Whole enc Tryz.prog Tryz.f4.params.toList Rows.logFindsSpec.vars false W args.toList ds gs before) (hsh : W.ShapedOpen Tryz.prog) :
    Calls Tryz.prog 4 args W fun e W' => ∃ v, e = .returned v ∧ Rows.logFindsSpec.post enc Tryz.prog Tryz.f4 false true false false W args v W' := by
  have hW' := hW
  have hlt := hW.lt
  obtain ⟨p, q, hA0, hV, rfl, hfz, hnd⟩ := hW
  have hA : DataW.TrodAll enc Tryz.prog W 0 (fun _ => true) true Tryz.f4.params.toList args.toList ds p := hA0
  rw [Tryz.params4] at hA hval
  obtain ⟨v0, vs0, d0, ds0, p0, q0, hargs, rfl, rfl, h0, r0⟩ := trodAll_cons hA
  obtain ⟨v1, vs1, d1, ds1, p1, q1, hargs1, rfl, rfl, h1, r1⟩ := trodAll_cons r0
  obtain ⟨rfl, rfl, rfl⟩ := trodAll_nil r1
  obtain rfl : args = #[v0, v1] := by cases args; simp_all
  obtain ⟨rfl, rfl⟩ := trodVars_none hV
  have hv0 := hval 0 28 v0 rfl rfl
  have hv1 := hval 1 9 v1 rfl rfl
  have hm : HasM W := by
    obtain ⟨m, h⟩ := Tryz.laysM144.s1_3 W hsh
    exact ⟨m, h, World.block_lt_of_cell? W _ h⟩
  obtain ⟨fuel, hf⟩ := h0
  obtain ⟨fuel1, hf1⟩ := h1
  have hcells : v0.cells.toList = [v0] := by
    simp only [Value.okWide, Tryz.underlying28] at hv0
    cases v0 <;> first | rfl | (simp [Cell.okWide, Cell.ok, Tryz.underlying28] at hv0)
  have hcells1 : v1.cells.toList = [v1] := by
    simp only [Value.okWide, Tryz.underlying9] at hv1
    cases v1 <;> first | rfl | (simp [Cell.okWide, Cell.ok, Tryz.underlying9] at hv1)
  have hf2 : DataW.trod enc Tryz.prog W 0 (fun _ => true) true fuel 28 [v0] = some (d0, p0) := by
    rw [← hcells]; exact hf
  have hf3 : DataW.trod enc Tryz.prog W 0 (fun _ => true) true fuel1 9 [v1] = some (d1, p1) := by
    rw [← hcells1]; exact hf1
  obtain ⟨a, c, xs, rfl, hlen, hN⟩ := openPatches hf2
  obtain ⟨s, hs, _⟩ := DataW.trod_string Tryz.underlying9 hf3
  simp only [List.cons.injEq, and_true] at hs
  subst hs
  clear hA0
  simp only [List.append_nil] at hW' hlt
  refine (lawLF a c xs s W hN hlen hm).mono fun e W' ⟨he, hg⟩ => ?_
  subst he
  have hb : DataW.Trod enc Tryz.prog W 0 (fun _ => true) true 28 (.slice a xs.length c) d0 p0 := ⟨fuel, hf⟩
  have hb1 : DataW.Trod enc Tryz.prog W 0 (fun _ => true) true 9 (.string s) d1 p1 := ⟨fuel1, hf1⟩
  have hback := Below.trod (P := Tryz.prog) (by kernel_rfl) (by kernel_rfl) (of_decide_eq_true (by kernel_rfl)) hb hg (fun x hx => hlt x (by simp [hx]))
  have hback1 := Below.trod (P := Tryz.prog) (by kernel_rfl) (by kernel_rfl) (of_decide_eq_true (by kernel_rfl)) hb1 hg (fun x hx => hlt x (by simp [hx]))
  have hargs : DataW.TrodAll enc Tryz.prog W' 0 (fun b => decide (b < W.heap.size)) true Tryz.f4.params.toList [.slice a xs.length c, .string s] [d0, d1] (p0 ++ (p1 ++ [])) := by
    rw [Tryz.params4]
    exact trodAll_cons_mk hback (trodAll_cons_mk hback1 trodAll_mk0)
  exact ⟨_, rfl, [d0, d1], [], p0 ++ p1, [], p0 ++ (p1 ++ []), [], by simpa using hW', trodAll_cons_mk (shut_bool Tryz.underlying4 _) trodAll_mk0, hargs, rfl, hg.frame _, fun h => by cases h⟩
end Go.Proofs.WLF
