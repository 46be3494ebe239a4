/- A PART OF THE PROOF THAT SAVETEXTS HOLDS FOR EVERY INPUT OF BULK AT MOST 1048576. No condition beyond the given statement. This part: ClaimST. -/
import Derived.Test.YtciahohaonhdgaaGreatDoorWLawST
import Derived.Test.YtciahohaonhdgaaGreatDoorWOpenA
import Derived.Test.YtciahohaonhdgaaGreatDoorCards
import Derived.Test.YtciahohaonhdgaaGreatDoorTie
import Derived.Deep.DeepHandedRow
import Derived.Lib.LaidTab
import Derived.Lib.LaidU8T
namespace Go.Proofs.WST
open Go Go.ChangeShapes Go.WideShapes Go.ChangeAt Go.RowKit
open Go.Proofs.W
open Go.Proofs.YtciahohaonhdgaaGreatDoor
set_option maxRecDepth 1000000
theorem contract (H : Type) (enc : TypeId × Value → H) (W : World) (base : Nat) (args : Array Value) (ds gs : List (DataW H)) (before : List MemPlace)
  (hval : ∀ (j : Nat) t v, Tryz.f3.params[j]? = some t → args[j]? = some v → Value.okWide Tryz.prog W .any base t v)
  (hW : DataW.Whole enc Tryz.prog Tryz.f3.params.toList Rows.saveTextsSpec.vars false W args.toList ds gs before)
  (hk : Rows.uptoSmall H (ds ++ gs) = true) (hL : laidMetH Tryz.prog Rows.saveTextsUptoRow.laid W) (hsh : W.ShapedOpen Tryz.prog) :
  Calls Tryz.prog 3 args W fun e W' => ∃ v, e = .returned v ∧ Rows.saveTextsSpec.post enc Tryz.prog Tryz.f3 false true false false W args v W' := by
 have hW' := hW
 have hlt := hW.lt
 obtain ⟨p, q, hA0, hV, rfl, hfz, hnd⟩ := hW
 have hA : DataW.TrodAll enc Tryz.prog W 0 (fun _ => true) true Tryz.f3.params.toList args.toList ds p := hA0
 rw [Tryz.params3] at hA hval
 obtain ⟨v0, vs0, d0, ds0, p0, q0, hargs, rfl, rfl, h0, r0⟩ := trodAll_cons hA
 obtain ⟨v1, vs1, d1, ds1, p1, q1, hargs1, rfl, rfl, h1, r1⟩ := trodAll_cons r0
 obtain ⟨v2, vs2, d2, ds2, p2, q2, hargs2, rfl, rfl, h2, r2⟩ := trodAll_cons r1
 obtain ⟨rfl, rfl, rfl⟩ := trodAll_nil r2
 obtain rfl : args = #[v0, v1, v2] := by cases args; simp_all
 obtain ⟨rfl, rfl⟩ := trodVars_none hV
 have hv0 := hval 0 22 v0 rfl rfl
 have hv1 := hval 1 23 v1 rfl rfl
 have hv2 := hval 2 9 v2 rfl rfl
 have hm : HasM W := by
  obtain ⟨m, h⟩ := Tryz.laysM143.s1_3 W hsh
  exact ⟨m, h, World.block_lt_of_cell? W _ h⟩
 have hU : HasU W :=
  utf8Tabs_of_readsT (Go.Proofs.U8Types.of196 Tryz.laysValid) ⟨by kernel_rfl, by kernel_rfl, by kernel_rfl, by kernel_rfl, by kernel_rfl, by kernel_rfl, by kernel_rfl⟩ (Lib.laidMet.reads hL (.tail _ (.head _))) (Lib.laidMet.reads hL (.head _))
 obtain ⟨fuel, hf⟩ := h0
 obtain ⟨fuel1, hf1⟩ := h1
 obtain ⟨fuel2, hf2s⟩ := h2
 have hcells : v0.cells.toList = [v0] := by
  simp only [Value.okWide, Tryz.underlying22] at hv0
  cases v0 <;> first | rfl | (simp [Cell.okWide, Cell.ok, Tryz.underlying22] at hv0)
 have hcells1 : v1.cells.toList = [v1] := by
  simp only [Value.okWide, Tryz.underlying23] at hv1
  cases v1 <;> first | rfl | (simp [Cell.okWide, Cell.ok, Tryz.underlying23] at hv1)
 have hcells2 : v2.cells.toList = [v2] := by
  simp only [Value.okWide, Tryz.underlying9] at hv2
  cases v2 <;> first | rfl | (simp [Cell.okWide, Cell.ok, Tryz.underlying9] at hv2)
 have hf4 : DataW.trod enc Tryz.prog W 0 (fun _ => true) true fuel2 9 [v2] = some (d2, p2) := by
  rw [← hcells2]; exact hf2s
 have hf2 : DataW.trod enc Tryz.prog W 0 (fun _ => true) true fuel 22 [v0] = some (d0, p0) := by
  rw [← hcells]; exact hf
 have hf3 : DataW.trod enc Tryz.prog W 0 (fun _ => true) true fuel1 23 [v1] = some (d1, p1) := by
  rw [← hcells1]; exact hf1
 obtain ⟨a, c, fs, rfl, hlen, hN, htx⟩ := openFiles hf2
 obtain ⟨ta, tc, ts, rfl, hcap, hT, hts⟩ := openTracksB hf3
 obtain ⟨s, hs0, hs1, hs2⟩ := DataW.trod_string Tryz.underlying9 hf4
 simp only [List.cons.injEq, and_true] at hs0
 subst hs0
 have h := of_decide_eq_true hk
 have hb1 : Rows.uptoBulk d1 ≤ 1048576 := by
  have h2 := bulk_mem (d := d1) (l := [d0, d1, d2] ++ []) (by simp)
  exact Nat.le_trans h2 h
 have hb2 : s.size ≤ 1048576 := by
  have h2 := bulk_mem (d := d2) (l := [d0, d1, d2] ++ []) (by simp)
  have h3 : d2 = DataW.lit (.string s.data.toList) := congrArg Prod.fst hs1
  have h4 : Rows.uptoBulk (DataW.lit (.string s.data.toList) : DataW H) = s.data.toList.length + 1 := by simp [Rows.uptoBulk]
  have h5 : s.data.toList.length = s.size := by simp
  have h6 : Rows.uptoBulk d2 = s.data.toList.length + 1 := by rw [h3]; exact h4
  have := Nat.le_trans h2 h
  omega
 have htl : ts.length < 9223372036854775808 := by
  have h5 := tracksCap hf3
  omega
 clear hA0
 simp only [List.append_nil] at hW' hlt
 refine (law_SaveTexts a ta c tc fs ts s W hN hT hm hU hlen htx (fun t ht => by have := (hts t ht).1; have hb' : Rows.uptoBulk ((d1, p1) : DataW H × List MemPlace).1 ≤ 1048576 := hb1; omega) (fun t ht => by have := (hts t ht).2; have hb' : Rows.uptoBulk ((d1, p1) : DataW H × List MemPlace).1 ≤ 1048576 := hb1; omega) htl hcap (by omega)).mono fun e W' ⟨he, hg⟩ => ?_
 subst he
 have hx0 : DataW.Trod enc Tryz.prog W 0 (fun _ => true) true 22 (.slice a fs.length c) d0 p0 := ⟨fuel, hf⟩
 have hx1 : DataW.Trod enc Tryz.prog W 0 (fun _ => true) true 23 (.slice ta ts.length tc) d1 p1 := ⟨fuel1, hf1⟩
 have hx2 : DataW.Trod enc Tryz.prog W 0 (fun _ => true) true 9 (.string s) d2 p2 := ⟨fuel2, hf2s⟩
 have hback := Below.trod (P := Tryz.prog) (by kernel_rfl) (by kernel_rfl) (of_decide_eq_true (by kernel_rfl)) hx0 hg (fun x hx => hlt x (by simp [hx]))
 have hback1 := Below.trod (P := Tryz.prog) (by kernel_rfl) (by kernel_rfl) (of_decide_eq_true (by kernel_rfl)) hx1 hg (fun x hx => hlt x (by simp [hx]))
 have hback2 := Below.trod (P := Tryz.prog) (by kernel_rfl) (by kernel_rfl) (of_decide_eq_true (by kernel_rfl)) hx2 hg (fun x hx => hlt x (by simp [hx]))
 have hargs : DataW.TrodAll enc Tryz.prog W' 0 (fun b => decide (b < W.heap.size)) true Tryz.f3.params.toList [.slice a fs.length c, .slice ta ts.length tc, .string s] [d0, d1, d2] (p0 ++ (p1 ++ (p2 ++ []))) := by
  rw [Tryz.params3]
  exact trodAll_cons_mk hback (trodAll_cons_mk hback1 (trodAll_cons_mk hback2 trodAll_mk0))
 exact ⟨_, rfl, [d0, d1, d2], [], p0 ++ (p1 ++ p2), [], p0 ++ (p1 ++ (p2 ++ [])), [], by simpa using hW', trodAll_cons_mk (shut_bool Tryz.underlying4 _) trodAll_mk0, hargs, rfl, hg.frame _, fun h => by cases h⟩
end Go.Proofs.WST
