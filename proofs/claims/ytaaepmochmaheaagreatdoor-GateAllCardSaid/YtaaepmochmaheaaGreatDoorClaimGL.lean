/- A PART OF THE PROOF THAT SHOWS THAT EACH OF rafterlaw44.GateAsk AND rafterlaw44.GateAll RETURNS TRUE FOR EVERY INPUT. No condition beyond the given statement. This part: ClaimGL. -/
import Derived.Test.YtaaepmochmaheaaGreatDoorWHooks
import Derived.Test.YtaaepmochmaheaaGreatDoorWPatch
import Derived.Test.YtaaepmochmaheaaGreatDoorCards
import Derived.Test.YtaaepmochmaheaaGreatDoorTie
import Derived.Deep.DeepHandedRow
import Derived.Lib.LaidTab
namespace Go.Proofs.WGL
open Go Go.ChangeShapes Go.WideShapes Go.ChangeAt Go.RowKit
open Go.Proofs.W
open Go.Proofs.YtaaepmochmaheaaGreatDoor
set_option maxRecDepth 1000000

theorem openInts {H : Type} {enc : TypeId × Value → H} {W : World} {base : Nat} {spare : Nat → Bool} {held : Bool} {fuel : Nat} {v : Value} {y : DataW H × List MemPlace} (h : DataW.trod enc Tryz.prog W base spare held fuel 38 [v] = some y) :
    ∃ (a : Option Addr) (c : Nat) (xs : List Int), v = .slice a xs.length c ∧ xs.length < 9223372036854775808 ∧ IntsH W a xs := by
  obtain ⟨a, c, xs, h1, h2, h3⟩ := openRows (fun n : Int => [Value.int .i64 n]) (fun _ => True) Tryz.underlying38 (by kernel_rfl : Tryz.prog.cellsOf 3 = 1) (by decide)
    (fun n cs z hz => by obtain ⟨s, hs, _⟩ := DataW.trod_int Tryz.underlying3 hz; exact ⟨s, hs, trivial⟩) (fun _ => rfl) h
  refine ⟨a, c, xs, h1, h2, ?_⟩
  rcases h3 with h3 | ⟨b, o, h4, h5, h6⟩
  · exact .inl h3
  · exact .inr ⟨b, o, h4, h5, fun j x hx => by simpa using (h6 j x hx).2 0 _ rfl⟩

/-- WHAT THE WALK GIVES, FOR EVERY ARGUMENT AND EVERY WORLD. -/
theorem contract (H : Type) (enc : TypeId × Value → H) (W : World) (base : Nat) (args : Array Value) (ds gs : List (DataW H)) (before : List MemPlace)
    (hval : ∀ (j : Nat) t v, Tryz.f4.params[j]? = some t → args[j]? = some v → Value.okWide Tryz.prog W .any base t v)
    (hW : DataW.Whole enc Tryz.prog Tryz.f4.params.toList Rows.gateAllSpec.vars false W args.toList ds gs before) (_hsh : W.ShapedOpen Tryz.prog) :
    Calls Tryz.prog 4 args W fun e W' => ∃ v, e = .returned v ∧ Rows.gateAllSpec.post enc Tryz.prog Tryz.f4 false true false false W args v W' := by
  have hW' := hW
  have hlt := hW.lt
  obtain ⟨p, q, hA0, hV, rfl, hfz, hnd⟩ := hW
  have hA : DataW.TrodAll enc Tryz.prog W 0 (fun _ => true) true Tryz.f4.params.toList args.toList ds p := hA0
  rw [Tryz.params4] at hA hval
  obtain ⟨v0, vs0, d0, ds0, p0, q0, hargs, rfl, rfl, h0, r0⟩ := trodAll_cons hA
  obtain ⟨v1, vs1, d1, ds1, p1, q1, hargs1, rfl, rfl, h1, r1⟩ := trodAll_cons r0
  obtain ⟨rfl, rfl, rfl⟩ := trodAll_nil r1
  obtain rfl : args = #[v0, v1] := by cases args; simp_all
  obtain ⟨rfl, rfl⟩ := trodVars_none hV
  have hv0 := hval 0 25 v0 rfl rfl
  have hv1 := hval 1 38 v1 rfl rfl
  have hb1 := h1
  obtain ⟨fuel1, hf1⟩ := h1
  have hcells : v1.cells.toList = [v1] := by
    simp only [Value.okWide, Tryz.underlying38] at hv1
    cases v1 <;> first | rfl | (simp [Cell.okWide, Cell.ok, Tryz.underlying38] at hv1)
  have hf3 : DataW.trod enc Tryz.prog W 0 (fun _ => true) true fuel1 38 [v1] = some (d1, p1) := by
    rw [← hcells]; exact hf1
  obtain ⟨a, c, xs, rfl, hlen, hN⟩ := openInts hf3
  simp only [Value.okWide, Tryz.underlying25] at hv0
  obtain ⟨cs, rfl, _⟩ := hv0
  obtain ⟨fuel, hf⟩ := h0
  have hf2 : DataW.trod enc Tryz.prog W 0 (fun _ => true) true fuel 25 cs.toList = some (d0, p0) := hf
  obtain ⟨d, hd, hs1, hs2, hs3, hs4⟩ := openPatch hf2
  obtain rfl : cs = #[.string d.name, .slice d.pa d.deps.length d.pc, .slice d.oa d.ops.length d.oc] := by cases cs; simp only at hd; rw [hd]; rfl
  clear hA0
  simp only [List.append_nil] at hW' hlt
  refine (law_GateAll d a c xs W hN hs1 hs2 hs3 hs4 hlen).mono fun e W' ⟨he, hg⟩ => ?_
  subst he
  have hb : DataW.Trod enc Tryz.prog W 0 (fun _ => true) true 25 (.agg #[.string d.name, .slice d.pa d.deps.length d.pc, .slice d.oa d.ops.length d.oc]) d0 p0 := ⟨fuel, hf⟩
  have hback := Below.trod (P := Tryz.prog) (by kernel_rfl) (by kernel_rfl) (of_decide_eq_true (by kernel_rfl)) hb hg (fun x hx => hlt x (by simp [hx]))
  have hback1 := Below.trod (P := Tryz.prog) (by kernel_rfl) (by kernel_rfl) (of_decide_eq_true (by kernel_rfl)) hb1 hg (fun x hx => hlt x (by simp [hx]))
  have hargs : DataW.TrodAll enc Tryz.prog W' 0 (fun b => decide (b < W.heap.size)) true Tryz.f4.params.toList [.agg #[.string d.name, .slice d.pa d.deps.length d.pc, .slice d.oa d.ops.length d.oc], .slice a xs.length c] [d0, d1] (p0 ++ (p1 ++ [])) := by
    rw [Tryz.params4]
    exact trodAll_cons_mk hback (trodAll_cons_mk hback1 trodAll_mk0)
  exact ⟨_, rfl, [d0, d1], [], p0 ++ p1, [], p0 ++ (p1 ++ []), [], by simpa using hW', trodAll_cons_mk (shut_bool Tryz.underlying4 _) trodAll_mk0, hargs, rfl, hg.frame _, fun h => by cases h⟩
end Go.Proofs.WGL
