/- A PART OF THE PROOFS THAT ONE CALL OF A LAW (the nil repository of layer 34; no desk, no power of layer 37) returns true, whatever the input; the input reads as it did. No condition beyond the given statement. This part: EvSizeR. -/
import Derived.Test.YtngfenfmhbfcaaaGreatDoorEvSizeF
import Derived.Test.YtngfenfmhbfcaaaGreatDoorEvMemo
import Derived.Test.YtngfenfmhbfcaaaGreatDoorRows
import Derived.Tactics
import Derived.Tactics2
import Derived.StillTactics
import Derived.Laws.AppendOwn
import Derived.Laws.CopyRow
import Derived.Laws.Rows
import Derived.Laws.Tables
import Derived.Laws.NewBlocks
import Derived.Laws.Unary
import Derived.Laws.Strings
import Derived.Laws.Strings2
import Derived.Laws.Wrap64
import Derived.Laws.RangeString
import Derived.Laws.Concat
import Derived.Laws.Cells
import Derived.Laws.Pointers
import Derived.Laws.StructEq
import Derived.Laws.StandIn
import Derived.Laws.ByValue
import Derived.Laws.Externs
import Derived.Laws.OwnMore
import Derived.Laws.Build
import Derived.Laws.ResultCell
import Derived.Laws.Entries
import Derived.Laws.Append
import Derived.Laws.World
import Derived.Laws.Strings3
import Derived.Laws.Sem
import Derived.Laws.Slices
import Derived.Laws.MakeOwn
import Derived.Laws.Small
import Derived.Scope
import Derived.FnLit
import Derived.LoopTactic
import Derived.LoopN
import Derived.Laws.IdiomRangeMap
namespace Go.Proofs.Tr
open Go Go.Ev Go.Proofs
set_option maxRecDepth 1000000

/-- the world behind a while: all that was there is there -/
structure Since (w w' : World) : Prop where
  os : w'.os = w.os
  tape : w'.tape = w.tape
  output : w'.output = w.output
  size : w.heap.size < w'.heap.size
  keep : ∀ b, b < w.heap.size → w'.heap[b]? = w.heap[b]?

theorem sizeWalk (bm : Nat) (es : Array MapEntry) (clock : Nat) (w : World) (hb : w.heap[bm]? = some (.map es clock)) (hst : (∀ x ∈ es.toList, x.born < clock) ∧ (es.toList.map (·.born)).Nodup) (hv : ∀ x ∈ es.toList, ∃ s : ByteArray, x.val = .agg #[.string s])
    (hsum : (es.toList.map fun e => txtLen e.val).sum < 4611686018427387904) :
    Calls Tryz.prog 227 #[.map (some bm)] w fun e w' => e = .returned (.int .i64 ((es.toList.map fun e => txtLen e.val).sum)) ∧ Since w w' := by
  have hlt : bm < w.heap.size := (Array.getElem?_eq_some_iff.1 hb).1
  have hrg := run_range_map (P := Tryz.prog) w 77 9 200 bm es clock Tryz.underlying77 hb
  go_enter Tryz.func227, Tryz.ntmps227
  go_wp2
  go_loopw [3] (fun s w' => ∃ seen : Array Nat, Since w w' ∧ w'.heap[w.heap.size]? = some (.mapIter (some bm) clock seen clock) ∧ s = .int .i64 (gSum es.toList seen)) (fun _ w' => (leftOf es (w'.iterSeen w.heap.size)).size)
  case atStart => exact ⟨#[], ⟨rfl, rfl, rfl, by simp, fun b hb => heap_alloc_old w _ hb⟩, heap_alloc_new w _, by rw [gSum_none]⟩
  case round =>
    obtain ⟨seen, hS, hit, rfl⟩ := hrel
    have hb1 : wr.heap[bm]? = some (.map es clock) := by rw [hS.keep bm hlt]; exact hb
    rcases run_next_at (P := Tryz.prog) wr 0 w.heap.size bm clock clock seen es clock hit hb1 hst.1 (Nat.le_refl _) with ⟨h0, hrun⟩ | ⟨e, he, w1, hw1, ho1, ht1, hp1, hrun⟩
    · have hnx : ∀ ty, (Instr.next (.pointer (some ⟨w.heap.size, 0, none⟩)) false ty).run Tryz.prog wr = _ := fun _ => hrun
      go_wp2
      go_ret
      rw [gSum_all es seen h0]
      exact ⟨rfl, hS⟩
    · obtain ⟨str, hval⟩ := hv e (mem_left he).1
      rw [hval] at hrun
      have hnx : ∀ ty, (Instr.next (.pointer (some ⟨w.heap.size, 0, none⟩)) false ty).run Tryz.prog wr = _ := fun _ => hrun
      have hlt' : w.heap.size < wr.heap.size := hS.size
      have hit1 : w1.heap[w.heap.size]? = some (.mapIter (some bm) clock (seen.push e.born) clock) := by rw [hw1]; simp [hlt']
      have hb2 : w1.heap[bm]? = some (.map es clock) := by
        rw [hw1, Array.getElem?_setIfInBounds, if_neg (by omega)]; exact hb1
      have hen := run_entry_at (P := Tryz.prog) w1 w.heap.size bm clock seen es clock e hit1 hb2 (mem_left he).1 hst.2
      rw [hval] at hen
      go_wp2
      have hsz1 : w1.heap.size = wr.heap.size := by rw [hw1]; simp
      have hit2 : (w1.alloc (Obj.cells #[Value.string str] 200)).heap[w.heap.size]? = some (.mapIter (some bm) clock (seen.push e.born) clock) := by rw [heap_alloc_old w1 _ (by omega)]; exact hit1
      have hpush := gSum_push seen e (mem_left he).2 es.toList hst.2 (mem_left he).1
      have htl : txtLen e.val = str.size := by rw [hval]; rfl
      have hbd := gSum_le (seen.push e.born) es.toList
      have hwrap : RowKit.wrap64 (gSum es.toList seen + ↑str.size) = gSum es.toList (seen.push e.born) := by
        rw [hpush, htl] at hbd
        rw [hpush, htl]
        simp only [RowKit.wrap64]
        omega
      go_roundw
      case rel =>
        refine ⟨seen.push e.born, ⟨ho1.trans hS.os, ht1.trans hS.tape, hp1.trans hS.output, by simp; omega, fun b hb => ?_⟩, hit2, by rw [hwrap]⟩
        rw [heap_alloc_old w1 _ (by omega), hw1, Array.getElem?_setIfInBounds, if_neg (by omega)]
        exact hS.keep b hb
      case measure =>
        have e1 : (w1.alloc (Obj.cells #[Value.string str] 200)).iterSeen w.heap.size = seen.push e.born := by unfold World.iterSeen; rw [hit2]
        have e2 : wr.iterSeen w.heap.size = seen := by unfold World.iterSeen; rw [hit]
        rw [e1, e2]
        exact left_shrinks es seen e he
end Go.Proofs.Tr
