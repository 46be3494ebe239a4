/- A PART OF THE PROOF THAT ONE CALL OF A LAW OF LAYER 18 (of nodes that may be, each path leads there) returns true, whatever the input; the input reads as it did. No condition beyond the given statement. This part: WalkHead. -/
import Derived.Test.YtbnkcpbdpgjjbaaGreatDoorNodesLaw
import Derived.Test.YtbnkcpbdpgjjbaaGreatDoorProg
import Derived.Tactics
import Derived.Tactics2
import Derived.StillTactics
import Derived.Laws.AppendOwn
import Derived.Laws.AppendOwnNone
import Derived.Laws.CopyRow
import Derived.Laws.Rows
import Derived.Laws.Tables
import Derived.Laws.NewBlocks
import Derived.Laws.Unary
import Derived.Laws.Strings
import Derived.Laws.Strings2
import Derived.Laws.Wrap64
import Derived.Laws.RangeString
import Derived.Laws.Concat
import Derived.Laws.Cells
import Derived.Laws.Pointers
import Derived.Laws.StructEq
import Derived.Laws.StandIn
import Derived.Laws.ByValue
import Derived.Laws.Externs
import Derived.Laws.OwnMore
import Derived.Laws.Build
import Derived.Laws.ResultCell
import Derived.Laws.Entries
import Derived.Laws.Append
import Derived.Laws.World
import Derived.Laws.Strings3
import Derived.Laws.Sem
import Derived.Laws.Slices
import Derived.Laws.MakeOwn
import Derived.Laws.Small
import Derived.Scope
import Derived.FnLit
import Derived.LoopTactic
import Derived.LoopN
import Derived.Lib.SliceRun
import Derived.Deep.RegionHeld3
import Derived.WalkKit
import Derived.WideShapes
namespace Go.Proofs.Np
open Go Go.Proofs Go.RowKit
set_option maxRecDepth 1000000

/-- nodes at a place -/
structure NodesAt (w : World) (b o : Nat) (ns : List Nd) : Prop where
  lt : b < w.heap.size
  cell : ∀ (j : Nat) (d : Nd), ns[j]? = some d → w.cell? ⟨b, o + j * 10, none⟩ = some (.string d.sp) ∧ w.cell? ⟨b, o + j * 10 + 1, none⟩ = some (.int .i64 d.sn) ∧ w.cell? ⟨b, o + j * 10 + 2, none⟩ = some (.bool d.dr) ∧
    w.cell? ⟨b, o + j * 10 + 3, none⟩ = some (.string d.pp) ∧ w.cell? ⟨b, o + j * 10 + 4, none⟩ = some (.int .i64 d.pn) ∧ w.cell? ⟨b, o + j * 10 + 5, none⟩ = some (.string d.nm) ∧ w.cell? ⟨b, o + j * 10 + 6, none⟩ = some (.string d.gone) ∧
    w.cell? ⟨b, o + j * 10 + 7, none⟩ = some (.slice d.ats.1 d.ats.2.1 d.ats.2.2) ∧ w.cell? ⟨b, o + j * 10 + 8, none⟩ = some (.slice d.pus.1 d.pus.2.1 d.pus.2.2) ∧ w.cell? ⟨b, o + j * 10 + 9, none⟩ = some (.slice d.lis.1 d.lis.2.1 d.lis.2.2)

theorem NodesAt.below {w w' : World} {b o : Nat} {ns : List Nd} (h : NodesAt w b o ns) (hb : Below w.heap.size w w') : NodesAt w' b o ns :=
  ⟨Nat.lt_of_lt_of_le h.lt hb.size, fun j d hd => by
    have hc : ∀ i, w'.cell? ⟨b, i, none⟩ = w.cell? ⟨b, i, none⟩ := fun i => World.cell?_of_block (hb.block b h.lt)
    simp only [hc]
    exact h.cell j d hd⟩

theorem belowTrans {w w1 w2 : World} (h1 : Below w.heap.size w w1) (h2 : Below w1.heap.size w1 w2) : Below w.heap.size w w2 :=
  ⟨h2.os.trans h1.os, h2.tape.trans h1.tape, h2.output.trans h1.output, Nat.le_trans h1.size h2.size, fun b hb => (h2.block b (Nat.lt_of_lt_of_le hb h1.size)).trans (h1.block b hb)⟩
theorem belowAlloc (w : World) (x : Obj) : Below w.heap.size w (w.alloc x) := ⟨rfl, rfl, rfl, by simp, fun b hb => by
  show (w.heap.push x)[b]? = _
  rw [Array.getElem?_push_lt hb, Array.getElem?_eq_getElem hb]⟩
end Go.Proofs.Np
namespace Go.Proofs.Np
open Go Go.Proofs Go.RowKit Go.WideShapes
set_option maxRecDepth 1000000

theorem cell_newBlock (w : World) (cs : Array Value) (t : TypeId) (i : Nat) : (w.alloc (.cells cs t)).cell? ⟨w.heap.size, i, none⟩ = cs[i]? := by
  have h : (w.alloc (.cells cs t)).heap[w.heap.size]? = some (.cells cs t (0, 0)) := by
    show (w.heap.push _)[w.heap.size]? = _
    simp
  unfold World.cell?
  simp only [h]
  rfl

def sameId (q : ByteArray) (a : Int) (p : ByteArray) (n : Int) : Bool := decide (q = p) && decide (a = n)
/-- two ids are the same -/
theorem eq26 (p q : ByteArray) (n a : Int) (w : World) : (Op.equalIn 10000 26 (.agg #[.string q, .int .i64 a]) (.agg #[.string p, .int .i64 n])).run Tryz.prog w = .ok (sameId q a p n) w := by
  unfold sameId
  have u3 := Tryz.underlying3
  have u9 := Tryz.underlying9
  have a3 := Tryz.isAgg3
  have z3 := Tryz.sizeOf3
  have a9 := Tryz.isAgg9
  have z9 := Tryz.sizeOf9
  have hS : Tryz.prog.underlying 26 = some (.struct (Tryz.prog.fieldsOf 26)) := by kernel_rfl
  have hp : Tryz.prog.stoodInHeld 26 = false := by kernel_rfl
  rw [show (10000 : Nat) = 9999 + 1 from rfl, run_equalIn_agg w 9999 26 _ _ hS hp]
  simp only [Program.fieldsOf, Tryz.underlying26]
  go_simp
  have hl : ¬ q = p → ¬ q.toList = p.toList := fun h e => h (by
    rw [ByteArray.toList_eq, ByteArray.toList_eq] at e
    exact Go.WideShapes.bytes_inj e)
  by_cases h1 : q = p <;> by_cases h2 : a = n <;> simp [h1, h2]
  all_goals exact hl h1
theorem guard26 : Tryz.prog.eqGuardType Tryz.prog.depth 26 = false := by kernel_rfl

theorem toList_eq_iff (a b : ByteArray) : (a.toList == b.toList) = decide (a = b) := by
  rw [ByteArray.toList_eq, ByteArray.toList_eq]
  by_cases h : a = b
  · subst h; simp
  · have : ¬ a.data.toList = b.data.toList := fun e => h (Go.WideShapes.bytes_inj e)
    rw [decide_eq_false h]
    simpa using this
theorem isEmpty_iff (a : ByteArray) : a.toList.isEmpty = decide (a = ByteArray.empty) := by
  have h := toList_eq_iff a ByteArray.empty
  rw [← h, ByteArray.toList_eq, ByteArray.toList_eq]
  cases a.data.toList <;> rfl

theorem idxI_step {α : Type} {q : α → Bool} {ns : List α} {i : Nat} {d : α} (hd : ns[i]? = some d) (hq : q d = true) (hno : ∀ j d, j < i → ns[j]? = some d → q d = false) : idxI q ns = (i : Nat) := by
  unfold idxI
  have : ns.findIdx? q = some i := by
    rw [List.findIdx?_eq_some_iff_getElem]
    obtain ⟨h1, h2⟩ := List.getElem?_eq_some_iff.1 hd
    refine ⟨h1, by rw [h2]; exact hq, fun j hj => ?_⟩
    have := hno j ns[j] hj (List.getElem?_eq_getElem (by omega))
    simp [this]
  rw [this]
theorem idxI_none {α : Type} {q : α → Bool} {ns : List α} (hno : ∀ j d, j < ns.length → ns[j]? = some d → q d = false) : idxI q ns = -1 := by
  unfold idxI
  have : ns.findIdx? q = none := by
    rw [List.findIdx?_eq_none_iff]
    intro x hx
    obtain ⟨j, hj, rfl⟩ := List.getElem_of_mem hx
    exact hno j _ hj (List.getElem?_eq_getElem hj)
  rw [this]

set_option maxHeartbeats 4000000 in
theorem find6 (b o c : Nat) (ns : List Nd) (p : ByteArray) (n : Int) (w : World) (h : NodesAt w b o ns) (hlen : ns.length < 9223372036854775808) :
    Calls Tryz.prog 6 #[.slice (some ⟨b, o, none⟩) ns.length c, .agg #[.string p, .int .i64 n]] w fun e w' => e = .returned (.int .i64 (idxI (selfIs p n) ns)) ∧ Below w.heap.size w w' := by
  have hm26 := guard26
  have he26 := eq26
  go_enter Tryz.func6, Tryz.ntmps6
  go_wp2
  go_loopw [5] (fun s w' => Below w.heap.size w w' ∧ w'.cell? ⟨w.heap.size, 0, none⟩ = some (.string p) ∧ w'.cell? ⟨w.heap.size, 1, none⟩ = some (.int .i64 n) ∧ ∃ i : Nat, i ≤ ns.length ∧ s = .int .i64 i ∧ ∀ j d, j < i → ns[j]? = some d → selfIs p n d = false) (fun s _ => match s with | .int _ i => (ns.length - i.toNat) | _ => 0)
  case atStart => exact ⟨belowAlloc w _, by rw [cell_newBlock]; rfl, by rw [cell_newBlock]; rfl, 0, Nat.zero_le _, rfl, fun j d hj => absurd hj (Nat.not_lt_zero _)⟩
  case round =>
    obtain ⟨hB, hp0, hp1, i, hi, rfl, hno⟩ := hrel
    by_cases hlt : i < ns.length
    · have hd : ns[i]? = some ns[i] := List.getElem?_eq_getElem hlt
      obtain ⟨c0, c1, -⟩ := (h.below hB).cell i _ hd
      have hlt' : (i : Int) < (ns.length : Int) := by omega
      have hnn : ¬ (i : Int) < 0 := by omega
      have hnn0 : (0 : Int) ≤ (i : Int) := by omega
      go_wp2
      go_region_held3 (fun w' => w'.cell? ⟨b, o + i * 10, none⟩ = some (.string ns[i].sp) ∧ w'.cell? ⟨b, o + i * 10 + 1, none⟩ = some (.int .i64 ns[i].sn) ∧ w'.cell? ⟨w.heap.size, 0, none⟩ = some (.string p) ∧ w'.cell? ⟨w.heap.size, 1, none⟩ = some (.int .i64 n)) (go_keep) (fail)
      have hB' : Below w.heap.size w wr.drew := belowTrans hB ⟨rfl, rfl, rfl, Nat.le_refl _, fun _ _ => rfl⟩
      cases hq : selfIs p n ns[i] with
      | true =>
        have hq' : sameId ns[i].sp ns[i].sn p n = true := hq
        rw [hq']
        go_wp2
        go_ret
        exact ⟨by rw [idxI_step hd hq hno]; rfl, hB'⟩
      | false =>
        have hq' : sameId ns[i].sp ns[i].sn p n = false := hq
        rw [hq']
        go_wp2
        go_roundw
        case rel => exact ⟨hB', hp0, hp1, i + 1, by omega, by push_cast; rfl, fun j d hj hd2 => by
          by_cases e : j = i
          · subst e; rw [hd] at hd2; obtain rfl := Option.some.inj hd2; exact hq
          · exact hno j d (by omega) hd2⟩
        case measure =>
          show ns.length - ((i : Int) + 1).toNat < ns.length - (i : Int).toNat
          omega
    · have hlt' : ¬ (i : Int) < (ns.length : Int) := by omega
      go_wp2
      go_ret
      exact ⟨by rw [idxI_none fun j d hj => hno j d (by omega)]; rfl, hB⟩
end Go.Proofs.Np
