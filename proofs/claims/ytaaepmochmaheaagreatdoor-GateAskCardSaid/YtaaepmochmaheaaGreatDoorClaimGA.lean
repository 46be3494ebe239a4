/- A PART OF THE PROOF THAT SHOWS THAT EACH OF rafterlaw44.GateAsk AND rafterlaw44.GateAll RETURNS TRUE FOR EVERY INPUT. No condition beyond the given statement. This part: ClaimGA. -/
import Derived.Test.YtaaepmochmaheaaGreatDoorWLawGA
import Derived.Test.YtaaepmochmaheaaGreatDoorWPatch
import Derived.Test.YtaaepmochmaheaaGreatDoorCards
import Derived.Test.YtaaepmochmaheaaGreatDoorTie
import Derived.Deep.DeepHandedRow
import Derived.Lib.LaidTab
namespace Go.Proofs.WGA
open Go Go.ChangeShapes Go.WideShapes Go.ChangeAt Go.RowKit
open Go.Proofs.W
open Go.Proofs.YtaaepmochmaheaaGreatDoor
set_option maxRecDepth 1000000

/-- WHAT THE WALK GIVES, FOR EVERY ARGUMENT AND EVERY WORLD. -/
theorem contract (H : Type) (enc : TypeId × Value → H) (W : World) (base : Nat) (args : Array Value) (ds gs : List (DataW H)) (before : List MemPlace)
    (hval : ∀ (j : Nat) t v, Tryz.f3.params[j]? = some t → args[j]? = some v → Value.okWide Tryz.prog W .any base t v)
    (hW : DataW.Whole enc Tryz.prog Tryz.f3.params.toList Rows.gateAskSpec.vars false W args.toList ds gs before) (_hsh : W.ShapedOpen Tryz.prog) :
    Calls Tryz.prog 3 args W fun e W' => ∃ v, e = .returned v ∧ Rows.gateAskSpec.post enc Tryz.prog Tryz.f3 false true false false W args v W' := by
  have hW' := hW
  have hlt := hW.lt
  obtain ⟨p, q, hA0, hV, rfl, hfz, hnd⟩ := hW
  have hA : DataW.TrodAll enc Tryz.prog W 0 (fun _ => true) true Tryz.f3.params.toList args.toList ds p := hA0
  rw [Tryz.params3] at hA hval
  obtain ⟨v0, vs0, d0, ds0, p0, q0, hargs, rfl, rfl, h0, r0⟩ := trodAll_cons hA
  obtain ⟨v1, vs1, d1, ds1, p1, q1, hargs1, rfl, rfl, h1, r1⟩ := trodAll_cons r0
  obtain ⟨rfl, rfl, rfl⟩ := trodAll_nil r1
  obtain rfl : args = #[v0, v1] := by cases args; simp_all
  obtain ⟨rfl, rfl⟩ := trodVars_none hV
  have hv0 := hval 0 25 v0 rfl rfl
  have hv1 := hval 1 3 v1 rfl rfl
  have hb1 := h1
  obtain ⟨n, rfl, rfl, rfl, _⟩ := open_int Tryz.underlying3 hv1 h1
  simp only [Value.okWide, Tryz.underlying25] at hv0
  obtain ⟨cs, rfl, _⟩ := hv0
  obtain ⟨fuel, hf⟩ := h0
  have hf2 : DataW.trod enc Tryz.prog W 0 (fun _ => true) true fuel 25 cs.toList = some (d0, p0) := hf
  obtain ⟨d, hd, hs1, hs2, hs3, hs4⟩ := openPatch hf2
  obtain rfl : cs = #[.string d.name, .slice d.pa d.deps.length d.pc, .slice d.oa d.ops.length d.oc] := by cases cs; simp only at hd; rw [hd]; rfl
  clear hA0
  simp only [List.append_nil] at hW' hlt
  refine (law_GateAsk d n W hs1 hs2 hs3 hs4).mono fun e W' ⟨he, hg⟩ => ?_
  subst he
  have hb : DataW.Trod enc Tryz.prog W 0 (fun _ => true) true 25 (.agg #[.string d.name, .slice d.pa d.deps.length d.pc, .slice d.oa d.ops.length d.oc]) d0 p0 := ⟨fuel, hf⟩
  have hback := Below.trod (P := Tryz.prog) (by kernel_rfl) (by kernel_rfl) (of_decide_eq_true (by kernel_rfl)) hb hg (fun x hx => hlt x (by simp [hx]))
  have hback1 := Below.trod (P := Tryz.prog) (by kernel_rfl) (by kernel_rfl) (of_decide_eq_true (by kernel_rfl)) hb1 hg (fun x hx => by cases hx)
  have hargs : DataW.TrodAll enc Tryz.prog W' 0 (fun b => decide (b < W.heap.size)) true Tryz.f3.params.toList [.agg #[.string d.name, .slice d.pa d.deps.length d.pc, .slice d.oa d.ops.length d.oc], .int .i64 n] [d0, .lit (.int .i64 n)] (p0 ++ ([] ++ [])) := by
    rw [Tryz.params3]
    exact trodAll_cons_mk hback (trodAll_cons_mk hback1 trodAll_mk0)
  exact ⟨_, rfl, [d0, .lit (.int .i64 n)], [], p0 ++ [], [], p0 ++ ([] ++ []), [], by simpa using hW', trodAll_cons_mk (shut_bool Tryz.underlying4 _) trodAll_mk0, hargs, rfl, hg.frame _, fun h => by cases h⟩
end Go.Proofs.WGA
