/- A PART OF THE PROOF THAT ONE CALL OF A LAW OF LAYER 18 (of nodes that may be, each path leads there) returns true, whatever the input; the input reads as it did. No condition beyond the given statement. This part: ClaimN. -/
import Derived.Test.YtbnkcpbdpgjjbaaGreatDoorF3
import Derived.Test.YtbnkcpbdpgjjbaaGreatDoorBaseN
import Derived.Test.YtbnkcpbdpgjjbaaGreatDoorCards
import Derived.Test.YtbnkcpbdpgjjbaaGreatDoorTie
import Derived.WalkKit
import Derived.ProofKit
import Derived.OpenShut
import Derived.Carry
import Derived.Deep.Slices
import Derived.Deep.Strs
import Derived.Deep.DeepHandedRow
import Derived.Lib.LaidTab
namespace Go.Proofs.Np
open Go Go.ChangeShapes Go.WideShapes Go.ChangeAt Go.RowKit
open Go.Proofs.YtbnkcpbdpgjjbaaGreatDoor
set_option maxRecDepth 1000000

theorem list10 {l : List Value} (h : l.length = 10) : ∃ a0 a1 a2 a3 a4 a5 a6 a7 a8 a9, l = [a0, a1, a2, a3, a4, a5, a6, a7, a8, a9] := by
  match l, h with
  | [a0, a1, a2, a3, a4, a5, a6, a7, a8, a9], _ => exact ⟨_, _, _, _, _, _, _, _, _, _, rfl⟩
theorem some_of {α : Type} {xs : List α} {n i : Nat} (h : xs.length = n) (hi : i < n) : ∃ y, xs[i]? = some y := ⟨_, List.getElem?_eq_getElem (by omega)⟩

section
variable {H : Type} {enc : TypeId × Value → H} {W : World} {base : Nat} {spare : Nat → Bool} {held : Bool}

theorem openId {fuel : Nat} {a0 a1 : Value} {y : DataW H × List MemPlace} (h : DataW.trod enc Tryz.prog W base spare held fuel 26 [a0, a1] = some y) : ∃ (p : ByteArray) (n : Int), a0 = .string p ∧ a1 = .int .i64 n := by
  have c9 : Tryz.prog.cellsOf 9 = 1 := by kernel_rfl
  have c3 : Tryz.prog.cellsOf 3 = 1 := by kernel_rfl
  obtain ⟨xs, n, _, _, _, hxl, hx⟩ := DataW.trod_struct Tryz.underlying26 h
  have hxl : xs.length = 2 := hxl
  obtain ⟨y0, e0⟩ := some_of (i := 0) hxl (by omega)
  obtain ⟨y1, e1⟩ := some_of (i := 1) hxl (by omega)
  have f0 := hx 0 { name := "Patch", type := 9, offset := 0, embedded := false, tag := "", pkgPath := "", byteOffset := 0 } rfl
  have f1 := hx 1 { name := "N", type := 3, offset := 1, embedded := false, tag := "", pkgPath := "", byteOffset := 16 } rfl
  simp only [c3, c9, e0, e1, List.drop_succ_cons, List.drop_zero, List.take_succ_cons, List.take_zero] at f0 f1
  obtain ⟨p, g0, _⟩ := DataW.trod_string Tryz.underlying9 f0
  obtain ⟨k, g1, _⟩ := DataW.trod_int Tryz.underlying3 f1
  simp only [List.cons.injEq, and_true] at g0 g1
  exact ⟨p, k, g0, g1⟩

theorem openSl {t e : TypeId} {fuel : Nat} {a : Value} {y : DataW H × List MemPlace} (ht : Tryz.prog.underlying t = some (.slice e)) (h : DataW.trod enc Tryz.prog W base spare held fuel t [a] = some y) : ∃ s : Option Addr × Nat × Nat, a = .slice s.1 s.2.1 s.2.2 := by
  rcases Go.Deep.open_slice ht h with ⟨h0, _⟩ | ⟨ad, len, cap, _, _, _, _, h0, _⟩
  · simp only [List.cons.injEq, and_true] at h0
    exact ⟨(none, 0, 0), h0⟩
  · simp only [List.cons.injEq, and_true] at h0
    exact ⟨(some ad, len, cap), h0⟩

/-- a node's cells -/
theorem openNode {fuel : Nat} {cs : List Value} {y : DataW H × List MemPlace} (h : DataW.trod enc Tryz.prog W base spare held fuel 30 cs = some y) : ∃ d : Nd, cs = d.cells := by
  have c9 : Tryz.prog.cellsOf 9 = 1 := by kernel_rfl
  have c4 : Tryz.prog.cellsOf 4 = 1 := by kernel_rfl
  have c26 : Tryz.prog.cellsOf 26 = 2 := by kernel_rfl
  have c27 : Tryz.prog.cellsOf 27 = 1 := by kernel_rfl
  have c28 : Tryz.prog.cellsOf 28 = 1 := by kernel_rfl
  have c30 : Tryz.prog.cellsOf 30 = 10 := by kernel_rfl
  obtain ⟨xs, n, _, _, hl, hxl, hx⟩ := DataW.trod_struct Tryz.underlying30 h
  rw [c30] at hl
  obtain ⟨a0, a1, a2, a3, a4, a5, a6, a7, a8, a9, rfl⟩ := list10 hl
  have hxl : xs.length = 8 := hxl
  obtain ⟨y0, e0⟩ := some_of (i := 0) hxl (by omega)
  obtain ⟨y1, e1⟩ := some_of (i := 1) hxl (by omega)
  obtain ⟨y2, e2⟩ := some_of (i := 2) hxl (by omega)
  obtain ⟨y3, e3⟩ := some_of (i := 3) hxl (by omega)
  obtain ⟨y4, e4⟩ := some_of (i := 4) hxl (by omega)
  obtain ⟨y5, e5⟩ := some_of (i := 5) hxl (by omega)
  obtain ⟨y6, e6⟩ := some_of (i := 6) hxl (by omega)
  obtain ⟨y7, e7⟩ := some_of (i := 7) hxl (by omega)
  have f0 := hx 0 { name := "Self", type := 26, offset := 0, embedded := false, tag := "", pkgPath := "", byteOffset := 0 } rfl
  have f1 := hx 1 { name := "Dir", type := 4, offset := 2, embedded := false, tag := "", pkgPath := "", byteOffset := 24 } rfl
  have f2 := hx 2 { name := "Parent", type := 26, offset := 3, embedded := false, tag := "", pkgPath := "", byteOffset := 32 } rfl
  have f3 := hx 3 { name := "Name", type := 9, offset := 5, embedded := false, tag := "", pkgPath := "", byteOffset := 56 } rfl
  have f4 := hx 4 { name := "Gone", type := 9, offset := 6, embedded := false, tag := "", pkgPath := "", byteOffset := 72 } rfl
  have f5 := hx 5 { name := "Atoms", type := 27, offset := 7, embedded := false, tag := "", pkgPath := "", byteOffset := 88 } rfl
  have f6 := hx 6 { name := "Put", type := 28, offset := 8, embedded := false, tag := "", pkgPath := "", byteOffset := 112 } rfl
  have f7 := hx 7 { name := "Lined", type := 28, offset := 9, embedded := false, tag := "", pkgPath := "", byteOffset := 136 } rfl
  simp only [c4, c9, c26, c27, c28, e0, e1, e2, e3, e4, e5, e6, e7, List.drop_succ_cons, List.drop_zero, List.take_succ_cons, List.take_zero] at f0 f1 f2 f3 f4 f5 f6 f7
  obtain ⟨sp, sn, rfl, rfl⟩ := openId f0
  obtain ⟨dr, g1, _⟩ := DataW.trod_bool Tryz.underlying4 f1
  obtain ⟨pp, pn, rfl, rfl⟩ := openId f2
  obtain ⟨nm, g3, _⟩ := DataW.trod_string Tryz.underlying9 f3
  obtain ⟨gone, g4, _⟩ := DataW.trod_string Tryz.underlying9 f4
  simp only [List.cons.injEq, and_true] at g1 g3 g4
  subst g1 g3 g4
  obtain ⟨ats, rfl⟩ := openSl Tryz.underlying27 f5
  obtain ⟨pus, rfl⟩ := openSl Tryz.underlying28 f6
  obtain ⟨lis, rfl⟩ := openSl Tryz.underlying28 f7
  exact ⟨⟨sp, sn, dr, pp, pn, nm, gone, ats, pus, lis⟩, rfl⟩

/-- the nodes that came in -/
theorem openNodes {fuel : Nat} {v : Value} {y : DataW H × List MemPlace} (hok : Value.okWide Tryz.prog W .any base 22 v) (h : DataW.trod enc Tryz.prog W 0 spare held fuel 22 [v] = some y) :
    ∃ (a : Option Addr) (c : Nat) (ns : List Nd), v = .slice a ns.length c ∧ (ns.length = 0 ∨ ∃ b o, a = some ⟨b, o, none⟩ ∧ NodesAt W b o ns) ∧ ns.length < 9223372036854775808 := by
  have c30 : Tryz.prog.cellsOf 30 = 10 := by kernel_rfl
  rcases Go.Deep.open_slice Tryz.underlying22 h with ⟨h0, _⟩ | ⟨ad, len, cap, m, n, D, Pl, h0, _, hl, hm, hmm, _, hx⟩
  · simp only [List.cons.injEq, and_true] at h0
    exact ⟨none, 0, [], h0, .inl rfl, by decide⟩
  · simp only [List.cons.injEq, and_true] at h0
    subst h0
    have hlm : len ≤ m := by rw [hmm]; split <;> omega
    have hsp : ad.spot = none := by
      simp only [Value.okWide, Tryz.underlying22, Cell.okWide, Cell.ok, World.has] at hok
      exact hok.2.2.2.1
    obtain ⟨b, o, spot⟩ := ad
    simp only at hsp
    subst hsp
    rw [c30] at hx
    have each : ∀ i, i < len → ∃ d : Nd, W.cells? 0 ((⟨b, o, none⟩ : Addr).add (i * 10)) 10 = some d.cells := fun i hi => by
      obtain ⟨cs, h1, h2⟩ := hx i (by omega)
      obtain ⟨d, rfl⟩ := openNode h2
      exact ⟨d, h1⟩
    obtain ⟨S, hS⟩ := Go.Deep.choose_lt each
    have hmax : len < 9223372036854775808 := by
      have : cap ≤ maxLen := hm
      unfold maxLen at this
      omega
    refine ⟨some ⟨b, o, none⟩, cap, (List.range len).map S, by simp, ?_, by simpa using hmax⟩
    by_cases hz : len = 0
    · exact .inl (by simp [hz])
    · right
      have hcell : ∀ i, i < len → ∀ (j : Nat) v, (S i).cells[j]? = some v → W.cell? ⟨b, o + i * 10 + j, none⟩ = some v := fun i hi j v hv => by
        obtain ⟨_, _, h3⟩ := World.cells?_some (hS i hi)
        have hj : j < 10 := (List.getElem?_eq_some_iff.1 hv).1
        have h4 := (h3 j hj).trans hv
        rw [Addr.add_lit, Addr.add_lit] at h4
        exact h4
      refine ⟨b, o, rfl, ⟨World.block_lt_of_cell? W _ (hcell 0 (by omega) 0 _ rfl), fun j d hd => ?_⟩⟩
      have hj : j < len := by simpa using (List.getElem?_eq_some_iff.1 hd).1
      have hdS : d = S j := by
        rw [List.getElem?_map, List.getElem?_range hj] at hd
        exact (Option.some.inj hd).symm
      subst hdS
      exact ⟨hcell j hj 0 _ rfl, hcell j hj 1 _ rfl, hcell j hj 2 _ rfl, hcell j hj 3 _ rfl, hcell j hj 4 _ rfl, hcell j hj 5 _ rfl, hcell j hj 6 _ rfl, hcell j hj 7 _ rfl, hcell j hj 8 _ rfl, hcell j hj 9 _ rfl⟩
end

/-- WHAT THE WALK GIVES, FOR EVERY ARGUMENT AND EVERY WORLD. -/
theorem contract (H : Type) (enc : TypeId × Value → H) (W : World) (base : Nat) (args : Array Value) (ds gs : List (DataW H)) (before : List MemPlace)
    (hval : ∀ (j : Nat) t v, Tryz.f3.params[j]? = some t → args[j]? = some v → Value.okWide Tryz.prog W .any base t v)
    (hW : DataW.Whole enc Tryz.prog Tryz.f3.params.toList Rows.nodesPathsSpec.vars false W args.toList ds gs before) (hsh : W.ShapedOpen Tryz.prog) :
    Calls Tryz.prog 3 args W fun e W' => ∃ v, e = .returned v ∧ Rows.nodesPathsSpec.post enc Tryz.prog Tryz.f3 false true false false W args v W' := by
  have hW' := hW
  have hlt := hW.lt
  obtain ⟨p, q, hA0, hV, rfl, hfz, hnd⟩ := hW
  have hA : DataW.TrodAll enc Tryz.prog W 0 (fun _ => true) true Tryz.f3.params.toList args.toList ds p := hA0
  rw [Tryz.params3] at hA hval
  obtain ⟨v0, vs0, d0, ds0, p0, q0, hargs, rfl, rfl, h0, r0⟩ := trodAll_cons hA
  obtain ⟨rfl, rfl, rfl⟩ := trodAll_nil r0
  obtain rfl : args = #[v0] := by cases args; simp_all
  obtain ⟨rfl, rfl⟩ := trodVars_none hV
  have hv0 := hval 0 22 v0 rfl rfl
  have hm : HasM W := by
    obtain ⟨m, h⟩ := Tryz.laysM146.s1_3 W hsh
    exact ⟨m, h, World.block_lt_of_cell? W _ h⟩
  have c22 : Tryz.prog.cellsOf 22 = 1 := by kernel_rfl
  obtain ⟨fuel, hf⟩ := h0
  have hcells : v0.cells.toList = [v0] := by
    simp only [Value.okWide, Tryz.underlying22] at hv0
    cases v0 <;> first | rfl | (simp [Cell.okWide, Cell.ok, Tryz.underlying22] at hv0)
  have hf2 : DataW.trod enc Tryz.prog W 0 (fun _ => true) true fuel 22 [v0] = some (d0, p0) := by
    rw [← hcells]; exact hf
  obtain ⟨a, c, ns, rfl, hN, hlen⟩ := openNodes hv0 hf2
  clear hA0
  simp only [List.append_nil] at hW' hlt
  refine (law3 Go.Proofs.Tn.awakeCalls a c ns W hN hlen hm).mono fun e W' ⟨he, hg⟩ => ?_
  subst he
  have hb : DataW.Trod enc Tryz.prog W 0 (fun _ => true) true 22 (.slice a ns.length c) d0 p0 := ⟨fuel, hf⟩
  have hback := Below.trod (P := Tryz.prog) (by kernel_rfl) (by kernel_rfl) (of_decide_eq_true (by kernel_rfl)) hb hg (fun x hx => hlt x (by simpa using hx))
  have hargs : DataW.TrodAll enc Tryz.prog W' 0 (fun b => decide (b < W.heap.size)) true Tryz.f3.params.toList [.slice a ns.length c] [d0] (p0 ++ []) := by
    rw [Tryz.params3]
    exact trodAll_cons_mk hback trodAll_mk0
  exact ⟨_, rfl, [d0], [], p0, [], p0 ++ [], [], by simpa using hW', trodAll_cons_mk (shut_bool Tryz.underlying4 _) trodAll_mk0, hargs, rfl, hg.frame _, fun h => by cases h⟩
end Go.Proofs.Np
