/- A PART OF THE PROOFS THAT ONE CALL OF A LAW (the nil repository of layer 34; no desk, no power of layer 37) returns true, whatever the input; the input reads as it did. No condition beyond the given statement. This part: GoodR. -/
import Derived.Test.YtngfenfmhbfcaaaGreatDoorBaseR
import Derived.Test.YtngfenfmhbfcaaaGreatDoorAwR
import Derived.Test.YtngfenfmhbfcaaaGreatDoorMemoR8
namespace Go.Proofs.Tr
open Go Go.Ev Go.Proofs Go.RowKit
set_option maxRecDepth 100000
theorem pC1 : PrimFns Tryz.prog C1 := memoGood good0 tbl139_ok good0.prim good0.types good0.globs rfl rfl rfl
theorem good1 : Good C1 := ⟨rfl, rfl, rfl, rfl, pC1⟩
noncomputable def C2_0 : Ctx := { types, funs, prims := fun i => bif Nat.beq i 70 then some (memo tbl70) else C1.prims i, globs := fun _ => none, ext := exts }
theorem pC2_0 : PrimFns Tryz.prog C2_0 := memoGood good1 tbl70_ok good1.prim good1.types good1.globs rfl rfl rfl
theorem pC2 : PrimFns Tryz.prog C2 := memoGood good1 tbl229_ok pC2_0 rfl rfl rfl rfl rfl
theorem good2 : Good C2 := ⟨rfl, rfl, rfl, rfl, pC2⟩
theorem pC3 : PrimFns Tryz.prog C3 := memoGood good2 tbl278_ok good2.prim good2.types good2.globs rfl rfl rfl
theorem good3 : Good C3 := ⟨rfl, rfl, rfl, rfl, pC3⟩
theorem pC4 : PrimFns Tryz.prog C4 := memoGood good3 tbl185_ok good3.prim good3.types good3.globs rfl rfl rfl
theorem good4 : Good C4 := ⟨rfl, rfl, rfl, rfl, pC4⟩
theorem pC5 : PrimFns Tryz.prog C5 := memoGood good4 tbl94_ok good4.prim good4.types good4.globs rfl rfl rfl
theorem good5 : Good C5 := ⟨rfl, rfl, rfl, rfl, pC5⟩
theorem pC6 : PrimFns Tryz.prog C6 := memoGood good5 tbl252_ok good5.prim good5.types good5.globs rfl rfl rfl
theorem good6 : Good C6 := ⟨rfl, rfl, rfl, rfl, pC6⟩
theorem pC7 : PrimFns Tryz.prog C7 := memoGood good6 tbl88_ok good6.prim good6.types good6.globs rfl rfl rfl
theorem good7 : Good C7 := ⟨rfl, rfl, rfl, rfl, pC7⟩
noncomputable def C8_0 : Ctx := { types, funs, prims := fun i => bif Nat.beq i 49 then some (memo tbl49) else C7.prims i, globs := fun _ => none, ext := exts }
theorem pC8_0 : PrimFns Tryz.prog C8_0 := memoGood good7 tbl49_ok good7.prim good7.types good7.globs rfl rfl rfl
theorem pC8 : PrimFns Tryz.prog C8 := memoGood good7 tbl34_ok pC8_0 rfl rfl rfl rfl rfl
theorem good8 : Good C8 := ⟨rfl, rfl, rfl, rfl, pC8⟩

theorem isTrue2_some {x : Option (AV × St)} (h : isTrue2 x = true) : ∃ st, x = some (.bool true, st) := by
  unfold isTrue2 at h
  split at h
  · rename_i b st
    subst h
    exact ⟨st, rfl⟩
  · cases h

/-- AWAKE IS TRUE: whatever the tape. -/
theorem awake_ok (w : World) : FnOk Tryz.prog 6 #[] w fun cv w' => cv = .bool true ∧ Below w.heap.size w w' := by
  obtain ⟨st, h⟩ := isTrue2_some awake
  have := run_sound good8.ty good8.prims good8.fns good8.draws (runK_sound h) (w := w) (B := fun _ => False) (cargs := []) (fun g cs hg => by rw [good8.globs] at hg; cases hg) (fun _ h => h.elim) ⟨rfl, fun j h => by cases h⟩
  refine this.mono fun cv w' ⟨O', M', hv, hx, _⟩ => ?_
  cases hv
  exact ⟨rfl, hx.os, hx.tape, hx.output, hx.size, fun k hk => hx.keep k hk (fun h => h)⟩

end Go.Proofs.Tr
