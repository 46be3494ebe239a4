/- A PART OF THE PROOFS THAT ONE CALL OF A LAW (the nil repository of layer 34; no desk, no power of layer 37) returns true, whatever the input; the input reads as it did. No condition beyond the given statement. This part: GoodD. -/
import Derived.Test.YtngfenfmhbfcaaaGreatDoorBaseR
import Derived.Test.YtngfenfmhbfcaaaGreatDoorAwD
import Derived.Test.YtngfenfmhbfcaaaGreatDoorMemoD8
namespace Go.Proofs.Tr
open Go Go.Ev Go.Proofs Go.RowKit
set_option maxRecDepth 100000

/-- what was run in all its ways is looked up: a table more -/
theorem memoGoodA {D D' : Ctx} (g : Good D) {n f : Nat} {tbl : List (List AV × AV)} (h : tbl.all (memoChkA D n f) = true) (p : PrimFns Tryz.prog D')
    (ht : D'.types = types) (hg : D'.globs = fun _ => none) {E : Ctx} (hE : E.types = types) (hEg : E.globs = fun _ => none) (hEp : E.prims = fun i => bif Nat.beq i f then some (Go.Ev.memo tbl) else D'.prims i) : PrimFns Tryz.prog E := by
  intro g' φ hφ ds r hr w B cargs hgl hB hl
  have hφ2 : (bif Nat.beq g' f then some (Go.Ev.memo tbl) else D'.prims g') = some φ := by rw [hEp] at hφ; exact hφ
  clear hφ
  have hφ := hφ2
  clear hφ2
  cases h1 : Nat.beq g' f with
  | true =>
    rw [h1] at hφ
    simp only [cond_true, Option.some.injEq] at hφ
    obtain rfl := (beq_iff _ _).1 h1
    subst hφ
    exact memo_primA (C0 := D) (hE.trans g.types.symm) (hEg.trans g.globs.symm) g.ty g.prims g.fns g.draws h hr hgl hB hl
  | false =>
    rw [h1] at hφ
    simp only [cond_false] at hφ
    refine (p g' φ hφ ds r hr w B cargs (fun k cs hk => ?_) hB ⟨hl.len, fun j a b => (hl.rel j a b).ctx (hE.trans ht.symm)⟩).mono fun cv w' ⟨h2, h3⟩ => ⟨h2.ctx (ht.trans hE.symm), h3⟩
    rw [hg] at hk; cases hk

theorem pD1 : PrimFns Tryz.prog D1 := memoGood good0 dtbl139_ok good0.prim good0.types good0.globs rfl rfl rfl
theorem goodD1 : Good D1 := ⟨rfl, rfl, rfl, rfl, pD1⟩
noncomputable def D2_0 : Ctx := { types, funs, prims := fun i => bif Nat.beq i 70 then some (memo dtbl70) else D1.prims i, globs := fun _ => none, ext := exts }
theorem pD2_0 : PrimFns Tryz.prog D2_0 := memoGood goodD1 dtbl70_ok goodD1.prim goodD1.types goodD1.globs rfl rfl rfl
theorem pD2 : PrimFns Tryz.prog D2 := memoGood goodD1 dtbl229_ok pD2_0 rfl rfl rfl rfl rfl
theorem goodD2 : Good D2 := ⟨rfl, rfl, rfl, rfl, pD2⟩
theorem pD3 : PrimFns Tryz.prog D3 := memoGood goodD2 dtbl278_ok goodD2.prim goodD2.types goodD2.globs rfl rfl rfl
theorem goodD3 : Good D3 := ⟨rfl, rfl, rfl, rfl, pD3⟩
theorem pD4 : PrimFns Tryz.prog D4 := memoGood goodD3 dtbl185_ok goodD3.prim goodD3.types goodD3.globs rfl rfl rfl
theorem goodD4 : Good D4 := ⟨rfl, rfl, rfl, rfl, pD4⟩
theorem pD5 : PrimFns Tryz.prog D5 := memoGood goodD4 dtbl94_ok goodD4.prim goodD4.types goodD4.globs rfl rfl rfl
theorem goodD5 : Good D5 := ⟨rfl, rfl, rfl, rfl, pD5⟩
theorem pD6 : PrimFns Tryz.prog D6 := memoGood goodD5 dtbl252_ok goodD5.prim goodD5.types goodD5.globs rfl rfl rfl
theorem goodD6 : Good D6 := ⟨rfl, rfl, rfl, rfl, pD6⟩
theorem pD7 : PrimFns Tryz.prog D7 := memoGood goodD6 dtbl88_ok goodD6.prim goodD6.types goodD6.globs rfl rfl rfl
theorem goodD7 : Good D7 := ⟨rfl, rfl, rfl, rfl, pD7⟩
noncomputable def D8_0 : Ctx := { types, funs, prims := fun i => bif Nat.beq i 49 then some (memo dtbl49) else D7.prims i, globs := fun _ => none, ext := exts }
theorem pD8_0 : PrimFns Tryz.prog D8_0 := memoGood goodD7 dtbl49_ok goodD7.prim goodD7.types goodD7.globs rfl rfl rfl
noncomputable def D8_1 : Ctx := { types, funs, prims := fun i => bif Nat.beq i 213 then some (memo dtbl213) else D8_0.prims i, globs := fun _ => none, ext := exts }
theorem pD8_1 : PrimFns Tryz.prog D8_1 := memoGood goodD7 dtbl213_ok pD8_0 rfl rfl rfl rfl rfl
theorem pD8 : PrimFns Tryz.prog D8 := memoGood goodD7 dtbl34_ok pD8_1 rfl rfl rfl rfl rfl
theorem goodD8 : Good D8 := ⟨rfl, rfl, rfl, rfl, pD8⟩
theorem pD9 : PrimFns Tryz.prog D9 := memoGoodA goodD8 dtbl119_ok goodD8.prim goodD8.types goodD8.globs rfl rfl rfl
theorem goodD9 : Good D9 := ⟨rfl, rfl, rfl, rfl, pD9⟩

theorem isTrueD_some {x : Option (AV × St)} (h : isTrueD x = true) : ∃ st, x = some (.bool true, st) := by
  unfold isTrueD at h
  split at h
  · rename_i b st
    subst h
    exact ⟨st, rfl⟩
  · cases h

/-- AWAKE IS TRUE: whatever the tape. -/
theorem awakeD_ok (w : World) : FnOk Tryz.prog 21 #[] w fun cv w' => cv = .bool true ∧ Below w.heap.size w w' := by
  obtain ⟨st, h⟩ := isTrueD_some awakeD
  have := run_sound goodD9.ty goodD9.prims goodD9.fns goodD9.draws (runK_sound h) (w := w) (B := fun _ => False) (cargs := []) (fun g cs hg => by rw [goodD9.globs] at hg; cases hg) (fun _ h => h.elim) ⟨rfl, fun j h => by cases h⟩
  refine this.mono fun cv w' ⟨O', M', hv, hx, _⟩ => ?_
  cases hv
  exact ⟨rfl, hx.os, hx.tape, hx.output, hx.size, fun k hk => hx.keep k hk (fun h => h)⟩

end Go.Proofs.Tr
