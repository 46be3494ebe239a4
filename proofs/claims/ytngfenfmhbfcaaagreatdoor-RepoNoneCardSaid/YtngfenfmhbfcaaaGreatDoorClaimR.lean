/- A PART OF THE PROOFS THAT ONE CALL OF A LAW (the nil repository of layer 34; no desk, no power of layer 37) returns true, whatever the input; the input reads as it did. No condition beyond the given statement. This part: ClaimR. -/
import Derived.Test.YtngfenfmhbfcaaaGreatDoorRepoV
import Derived.Test.YtngfenfmhbfcaaaGreatDoorCards
import Derived.Test.YtngfenfmhbfcaaaGreatDoorTie
import Derived.WalkKit
import Derived.ProofKit
import Derived.OpenShut
import Derived.Carry
import Derived.Deep.Strs
import Derived.Deep.DeepHandedRow
import Derived.Lib.LaidTab
namespace Go.Proofs.Tr
open Go Go.ChangeShapes Go.WideShapes Go.ChangeAt Go.RowKit
open Go.Proofs.YtngfenfmhbfcaaaGreatDoor
set_option maxRecDepth 1000000

theorem list7 {l : List Value} (h : l.length = 7) : ∃ a0 a1 a2 a3 a4 a5 a6, l = [a0, a1, a2, a3, a4, a5, a6] := by
  match l, h with
  | [a0, a1, a2, a3, a4, a5, a6], _ => exact ⟨_, _, _, _, _, _, _, rfl⟩

theorem some_of {α : Type} {xs : List α} {n i : Nat} (h : xs.length = n) (hi : i < n) : ∃ y, xs[i]? = some y := ⟨_, List.getElem?_eq_getElem (by omega)⟩

/-- a field that is a slice of strings -/
theorem openStrs {H : Type} {enc : TypeId × Value → H} {W : World} {base : Nat} {n : Nat} {cv : Value} {y : DataW H × List MemPlace} (hok : Cell.okWide Tryz.prog W .any base 22 cv)
    (h : DataW.trod enc Tryz.prog W 0 (fun _ => true) true n 22 [cv] = some y) : ∃ a len cap v, cv = .slice a len cap ∧ SlR W v (.slice a len cap) ∧ len < 9223372036854775808 := by
  rcases Go.Deep.open_strs Tryz.underlying22 Tryz.underlying9 (by kernel_rfl) h with ⟨h0, _⟩ | ⟨a, len, cap, m, Sx, h0, _, hl, hm, hmm, _, hx⟩
  · simp only [List.cons.injEq, and_true] at h0
    exact ⟨none, 0, 0, .snil, h0, .inl ⟨rfl, rfl⟩, by omega⟩
  · simp only [List.cons.injEq, and_true] at h0
    subst h0
    have hsp : a.spot = none := by
      simp only [Cell.okWide, Tryz.underlying22, Cell.ok, World.has] at hok
      exact hok.2.2.2.1
    obtain ⟨b, off, spot⟩ := a
    simp only at hsp
    subst hsp
    have hmax : cap < 9223372036854775808 := by
      have : maxLen = 140737488351232 ∨ True := .inr trivial
      have h2 : (cap : Int) ≤ IntKind.i64.max := by
        simp only [Cell.okWide, Tryz.underlying22, Cell.ok] at hok
        exact hok.2.1
      simp [IntKind.max, IntKind.signed, IntKind.bits] at h2
      omega
    have hcell : ∀ i, i < len → W.cell? ⟨b, off + i, none⟩ = some (.string (Sx i)) := fun i hi => by
      have := (hx i (by rw [hmm]; simp; omega)).1
      rw [← add_plain]
      exact this
    refine ⟨_, len, cap, .sdat true 1 ((List.range len).map fun i => .str (Sx i).data.toList) none, rfl, .inr ⟨(List.range len).map fun i => Go.Ev.AV.str (Sx i).data.toList, b, off, cap, rfl, by simp, by simpa using hl, fun hne => ?_, fun j hj => ?_⟩, by omega⟩
    · have h0 : 0 < len := by
        rcases Nat.eq_zero_or_pos len with h | h
        · subst h; simp at hne
        · exact h
      have := hcell 0 h0
      unfold World.cell? at this
      rcases Nat.lt_or_ge b W.heap.size with hb | hb
      · exact hb
      · simp [Array.getElem?_eq_none hb] at this
    · have hj : j < len := by simpa using hj
      exact ⟨Sx j, by simp, hcell j hj⟩

/-- WHAT THE WALK GIVES, FOR EVERY ARGUMENT AND EVERY WORLD. -/
theorem contract (H : Type) (enc : TypeId × Value → H) (W : World) (base : Nat) (args : Array Value) (ds gs : List (DataW H)) (before : List MemPlace)
    (hval : ∀ (j : Nat) t v, Tryz.f3.params[j]? = some t → args[j]? = some v → Value.okWide Tryz.prog W .any base t v)
    (hW : DataW.Whole enc Tryz.prog Tryz.f3.params.toList Rows.repoNoneSpec.vars false W args.toList ds gs before) :
    Calls Tryz.prog 3 args W fun e W' => ∃ v, e = .returned v ∧ Rows.repoNoneSpec.post enc Tryz.prog Tryz.f3 false true false false W args v W' := by
  have hW' := hW
  have hlt := hW.lt
  obtain ⟨p, q, hA0, hV, rfl, hfz, hnd⟩ := hW
  have hA : DataW.TrodAll enc Tryz.prog W 0 (fun _ => true) true Tryz.f3.params.toList args.toList ds p := hA0
  rw [Tryz.params3] at hA hval
  obtain ⟨v0, vs0, d0, ds0, p0, q0, hargs, rfl, rfl, h0, r0⟩ := trodAll_cons hA
  obtain ⟨rfl, rfl, rfl⟩ := trodAll_nil r0
  obtain rfl : args = #[v0] := by cases args; simp_all
  obtain ⟨rfl, rfl⟩ := trodVars_none hV
  have hv0 := hval 0 26 v0 rfl rfl
  simp only [Value.okWide, Tryz.underlying26] at hv0
  obtain ⟨cs, rfl, hsz, ts, hts, _, hcs⟩ := hv0
  have hts' : Tryz.prog.cellTypes Tryz.prog.depth 26 = some [3, 9, 22, 3, 9, 9, 22] := by kernel_rfl
  rw [hts'] at hts
  obtain rfl := Option.some.inj hts
  have hsz7 : cs.toList.length = 7 := by
    have : Tryz.prog.cellsOf 26 = 7 := by kernel_rfl
    rw [Array.length_toList, hsz, this]
  obtain ⟨a0, a1, a2, a3, a4, a5, a6, hl⟩ := list7 hsz7
  have hcsl : cs = #[a0, a1, a2, a3, a4, a5, a6] := by
    apply Array.toList_inj.1
    rw [hl]
  subst hcsl
  have c22 : Tryz.prog.cellsOf 22 = 1 := by kernel_rfl
  have c9 : Tryz.prog.cellsOf 9 = 1 := by kernel_rfl
  have c3 : Tryz.prog.cellsOf 3 = 1 := by kernel_rfl
  have c24 : Tryz.prog.cellsOf 24 = 4 := by kernel_rfl
  obtain ⟨fuel, hf⟩ := h0
  have hf : DataW.trod enc Tryz.prog W 0 (fun _ => true) true fuel 26 [a0, a1, a2, a3, a4, a5, a6] = some (d0, p0) := hf
  obtain ⟨xs, n, _, _, _, hxl, hx⟩ := DataW.trod_struct Tryz.underlying26 hf
  have hxl : xs.length = 4 := hxl
  obtain ⟨y0, e0⟩ := some_of (i := 0) hxl (by omega)
  obtain ⟨y1, e1⟩ := some_of (i := 1) hxl (by omega)
  obtain ⟨y2, e2⟩ := some_of (i := 2) hxl (by omega)
  obtain ⟨y3, e3⟩ := some_of (i := 3) hxl (by omega)
  have f0 := hx 0 { name := "Kind", type := 3, offset := 0, embedded := false, tag := "", pkgPath := "", byteOffset := 0 } rfl
  have f1 := hx 1 { name := "Name", type := 9, offset := 1, embedded := false, tag := "", pkgPath := "", byteOffset := 8 } rfl
  have f2 := hx 2 { name := "Names", type := 22, offset := 2, embedded := false, tag := "", pkgPath := "", byteOffset := 24 } rfl
  have f3 := hx 3 { name := "Edit", type := 24, offset := 3, embedded := false, tag := "", pkgPath := "", byteOffset := 48 } rfl
  simp only [c3, c9, c22, c24, e0, e1, e2, e3, List.drop_succ_cons, List.drop_zero, List.take_succ_cons, List.take_zero] at f0 f1 f2 f3
  obtain ⟨k, g0, _⟩ := DataW.trod_int Tryz.underlying3 f0
  obtain ⟨nm, g1, _⟩ := DataW.trod_string Tryz.underlying9 f1
  obtain ⟨zs, m, _, _, _, hzl, hz⟩ := DataW.trod_struct Tryz.underlying24 f3
  have hzl : zs.length = 4 := hzl
  obtain ⟨z0, u0⟩ := some_of (i := 0) hzl (by omega)
  obtain ⟨z1, u1⟩ := some_of (i := 1) hzl (by omega)
  obtain ⟨z2, u2⟩ := some_of (i := 2) hzl (by omega)
  obtain ⟨z3, u3⟩ := some_of (i := 3) hzl (by omega)
  have t0 := hz 0 { name := "Kind", type := 3, offset := 0, embedded := false, tag := "", pkgPath := "", byteOffset := 0 } rfl
  have t1 := hz 1 { name := "Path", type := 9, offset := 1, embedded := false, tag := "", pkgPath := "", byteOffset := 8 } rfl
  have t2 := hz 2 { name := "To", type := 9, offset := 2, embedded := false, tag := "", pkgPath := "", byteOffset := 24 } rfl
  have t3 := hz 3 { name := "Lines", type := 22, offset := 3, embedded := false, tag := "", pkgPath := "", byteOffset := 40 } rfl
  simp only [c3, c9, c22, u0, u1, u2, u3, List.drop_succ_cons, List.drop_zero, List.take_succ_cons, List.take_zero] at t0 t1 t2 t3
  obtain ⟨ek, g3, _⟩ := DataW.trod_int Tryz.underlying3 t0
  obtain ⟨pp, g4, _⟩ := DataW.trod_string Tryz.underlying9 t1
  obtain ⟨tt, g5, _⟩ := DataW.trod_string Tryz.underlying9 t2
  simp only [List.cons.injEq, and_true] at g0 g1 g3 g4 g5
  subst g0 g1 g3 g4 g5
  obtain ⟨w2, hw2, o2⟩ := hcs 2 a2 rfl
  obtain ⟨w6, hw6, o6⟩ := hcs 6 a6 rfl
  obtain rfl : w2 = 22 := (Option.some.inj hw2).symm
  obtain rfl : w6 = 22 := (Option.some.inj hw6).symm
  obtain ⟨na, nn, nc, v, rfl, hv, hn⟩ := openStrs o2 f2
  obtain ⟨la, ln, lc, u, rfl, hu, hln⟩ := openStrs o6 t3
  clear hA0
  simp only [List.append_nil] at hW' hlt
  refine (repoWalk k ek nm pp tt na la nn nc ln lc v u W hv hu hn hln).mono fun e W' ⟨he, hg⟩ => ?_
  subst he
  have hb : DataW.Trod enc Tryz.prog W 0 (fun _ => true) true 26 (.agg #[.int .i64 k, .string nm, .slice na nn nc, .int .i64 ek, .string pp, .string tt, .slice la ln lc]) d0 p0 := ⟨fuel, hf⟩
  have hback := Below.trod (P := Tryz.prog) (by kernel_rfl) (by kernel_rfl) (of_decide_eq_true (by kernel_rfl)) hb hg (fun x hx => hlt x (by simpa using hx))
  have hargs : DataW.TrodAll enc Tryz.prog W' 0 (fun b => decide (b < W.heap.size)) true Tryz.f3.params.toList [.agg #[.int .i64 k, .string nm, .slice na nn nc, .int .i64 ek, .string pp, .string tt, .slice la ln lc]] [d0] (p0 ++ []) := by
    rw [Tryz.params3]
    exact trodAll_cons_mk hback trodAll_mk0
  exact ⟨_, rfl, [d0], [], p0, [], p0 ++ [], [], by simpa using hW', trodAll_cons_mk (shut_bool Tryz.underlying4 _) trodAll_mk0, hargs, rfl, hg.frame _, fun h => by cases h⟩
end Go.Proofs.Tr
