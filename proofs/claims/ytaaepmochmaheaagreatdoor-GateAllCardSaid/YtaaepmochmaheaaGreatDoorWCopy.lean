/- A PART OF THE PROOF THAT SHOWS THAT EACH OF rafterlaw44.GateAsk AND rafterlaw44.GateAll RETURNS TRUE FOR EVERY INPUT. No condition beyond the given statement. This part: WCopy. -/
import Derived.Test.YtaaepmochmaheaaGreatDoorWClone
import Derived.Test.YtaaepmochmaheaaGreatDoorRegRG
import Derived.Shelf.SlicesQ.Load
import Derived.Test.YtaaepmochmaheaaGreatDoorWLightP
import Derived.ArgAppend
namespace Go.Proofs.W
open Go Go.Proofs Go.RowKit
set_option maxRecDepth 1000000

theorem ownsRow_below {w w' : World} {b : Nat} {e : TypeId} {sz : Nat} {v : Value} {n : Nat} {xs : List Value} (h : w.ownsRow b e sz v n xs) (hb : Below w.heap.size w w') : w'.ownsRow b e sz v n xs := by
  refine ⟨h.1, ?_⟩
  rcases h.2 with h1 | ⟨g, cap, cur, hv, hg, hh, r⟩
  · exact .inl h1
  · exact .inr ⟨g, cap, cur, hv, hg, (hb.block g (Array.getElem?_eq_some_iff.1 hh).1).trans hh, r⟩
theorem ownsRow_base {w : World} {b b' : Nat} {e : TypeId} {sz : Nat} {v : Value} {n : Nat} {xs : List Value} (h : w.ownsRow b e sz v n xs) (hb : b' ≤ b) : w.ownsRow b' e sz v n xs := by
  refine ⟨h.1, ?_⟩
  rcases h.2 with h1 | ⟨g, cap, cur, hv, hg, r⟩
  · exact .inl h1
  · exact .inr ⟨g, cap, cur, hv, Nat.le_trans hb hg, r⟩

def CV1 (d : PatchV) (b0 : Nat) (i : Nat) (v : Value) (w : World) : Prop := match i with
  | 0 => v = .pointer (some ⟨b0, 0, none⟩)
  | 1 => v = .string d.name
  | 2 => v = .pointer (some ⟨b0, 1, none⟩)
  | 3 => v = .slice d.pa d.deps.length d.pc
  | 4 => ∃ a' c', v = .slice a' d.deps.length c' ∧ w.ownsRow b0 9 1 (.slice a' d.deps.length c') d.deps.length (d.deps.map Value.string)
  | 5 => ∃ a' c', v = .agg #[.string d.name, .slice a' d.deps.length c', .slice none 0 0] ∧ w.ownsRow b0 9 1 (.slice a' d.deps.length c') d.deps.length (d.deps.map Value.string)
  | 6 => ∃ B, v = .pointer (some ⟨B, 0, none⟩) ∧ b0 + 2 ≤ B ∧ w.heap[B]? = some (.cells #[.string ⟨#[]⟩, .slice none 0 0, .slice none 0 0] 25 (0, 0))
  | _ => True
theorem CV1.below {d : PatchV} {b0 i : Nat} {v : Value} {w w' : World} (h : Below w.heap.size w w') (hv : CV1 d b0 i v w) : CV1 d b0 i v w' := by
  unfold CV1 at hv ⊢
  split at hv
  any_goals exact hv
  · obtain ⟨a', c', e, ho⟩ := hv
    exact ⟨a', c', e, ownsRow_below ho h⟩
  · obtain ⟨a', c', e, ho⟩ := hv
    exact ⟨a', c', e, ownsRow_below ho h⟩
  · obtain ⟨B, e, hB, hh⟩ := hv
    exact ⟨B, e, hB, (h.block B (Array.getElem?_eq_some_iff.1 hh).1).trans hh⟩

theorem setCell_block {w : World} {B i : Nat} {cur : Array Value} {e : TypeId} {r : Nat × Nat} (v : Value) (h : w.heap[B]? = some (.cells cur e r)) : (w.setCell ⟨B, i, none⟩ v).heap[B]? = some (.cells (cur.setIfInBounds i v) e r) := by
  simp [World.setCell, Array.getElem?_modify, h]
theorem opCells_eq (X : OpV) : X.cells.toArray = #[.int .i64 X.kind, .string X.self.p, .int .i64 X.self.n, .string X.parent.p, .int .i64 X.parent.n, .string X.to.p, .int .i64 X.to.n, .string X.name, .string X.toName, .string X.left.p, .int .i64 X.left.n, .string X.right.p, .int .i64 X.right.n, .slice X.da X.dels.length X.dc, .int .i64 X.first, .slice X.la X.lines.length X.lc] := rfl
structure CopyMem (d : PatchV) (b0 B : Nat) (pa : Option Addr) (pc : Nat) (i : Nat) (w0 w : World) : Prop where
  below : Below b0 w0 w
  res : w.heap[b0 + 1]? = some (.cells #[.string ⟨#[]⟩, .slice none 0 0, .slice none 0 0] 25 (0, 0))
  deps : w.ownsRow b0 9 1 (.slice pa d.deps.length pc) d.deps.length (d.deps.map Value.string)
  out : ∃ oa oc us, w.heap[B]? = some (.cells #[.string d.name, .slice pa d.deps.length pc, .slice oa i oc] 25 (0, 0)) ∧ w.ownsRow b0 53 16 (.slice oa i oc) i us

def CV5 (X : OpV) (b0 B5 : Nat) (i : Nat) (v : Value) (w : World) : Prop := match i with
  | 0 => v = .pointer (some ⟨B5, 13, none⟩)
  | 1 => v = .slice X.da X.dels.length X.dc
  | 2 => ∃ a' c', v = .slice a' X.dels.length c' ∧ w.ownsRow b0 50 2 (.slice a' X.dels.length c') X.dels.length (X.dels.flatMap idCells)
  | 3 => v = .pointer (some ⟨B5, 15, none⟩)
  | 4 => v = .slice X.la X.lines.length X.lc
  | 5 => ∃ a' c', v = .slice a' X.lines.length c' ∧ w.ownsRow b0 9 1 (.slice a' X.lines.length c') X.lines.length (X.lines.map Value.string)
  | 6 => v = .pointer (some ⟨B5, 13, none⟩)
  | _ => True
theorem CV5.below {X : OpV} {b0 B5 i : Nat} {v : Value} {w w' : World} (h : Below w.heap.size w w') (hv : CV5 X b0 B5 i v w) : CV5 X b0 B5 i v w' := by
  unfold CV5 at hv ⊢
  split at hv
  any_goals exact hv
  · obtain ⟨a', c', e, ho⟩ := hv
    exact ⟨a', c', e, ownsRow_below ho h⟩
  · obtain ⟨a', c', e, ho⟩ := hv
    exact ⟨a', c', e, ownsRow_below ho h⟩

theorem setSize (w : World) (a : Addr) (v : Value) : (w.setCell a v).heap.size = w.heap.size := by simp [World.setCell]
theorem cell_new2 {w : World} (cs : Array Value) (t : TypeId) {b i : Nat} (hb : b = w.heap.size) : (w.alloc (.cells cs t)).cell? ⟨b, i, none⟩ = cs[i]? := by
  subst hb
  exact cell_newBlock w cs t i
theorem allocSize (w : World) (x : Obj) : (w.alloc x).heap.size = w.heap.size + 1 := by simp

theorem info_op : ∃ i, Tryz.prog.info? 53 = some i ∧ i.zero = some (.agg #[.int .i64 0, .string ⟨#[]⟩, .int .i64 0, .string ⟨#[]⟩, .int .i64 0, .string ⟨#[]⟩, .int .i64 0, .string ⟨#[]⟩, .string ⟨#[]⟩, .string ⟨#[]⟩, .int .i64 0, .string ⟨#[]⟩, .int .i64 0, .slice none 0 0, .int .i64 0, .slice none 0 0]) ∧ i.size = 16 ∧ i.bytes = 216 := info_parts (show (Tryz.prog.info? 53).map (fun i => (i.zero, i.size, i.bytes)) = some (some (.agg #[.int .i64 0, .string ⟨#[]⟩, .int .i64 0, .string ⟨#[]⟩, .int .i64 0, .string ⟨#[]⟩, .int .i64 0, .string ⟨#[]⟩, .string ⟨#[]⟩, .string ⟨#[]⟩, .int .i64 0, .string ⟨#[]⟩, .int .i64 0, .slice none 0 0, .int .i64 0, .slice none 0 0]), 16, 216) by kernel_rfl)

set_option maxHeartbeats 8000000 in
theorem patch_Copy (d : PatchV) (w : World) (_h1 : TextsH w d.pa d.deps) (h2 : OpsH w d.oa d.ops) (hlen : d.ops.length ≤ 1000000)
    (hci : ∀ (X : OpV) {i : Nat}, d.ops[i]? = some X → ∀ W, Below w.heap.size w W → Calls Tryz.prog 31 #[.slice X.da X.dels.length X.dc] W fun e w' => (∃ a' c', e = .returned (.slice a' X.dels.length c') ∧ w'.ownsRow W.heap.size 50 2 (.slice a' X.dels.length c') X.dels.length (X.dels.flatMap idCells)) ∧ Below W.heap.size W w')
    (hcx : ∀ (X : OpV) {i : Nat}, d.ops[i]? = some X → ∀ W, Below w.heap.size w W → Calls Tryz.prog 30 #[.slice X.la X.lines.length X.lc] W fun e w' => (∃ a' c', e = .returned (.slice a' X.lines.length c') ∧ w'.ownsRow W.heap.size 9 1 (.slice a' X.lines.length c') X.lines.length (X.lines.map Value.string)) ∧ Below W.heap.size W w')
    (hcl : ∀ W, Below w.heap.size w W → Calls Tryz.prog 30 #[.slice d.pa d.deps.length d.pc] W fun e w' => (∃ a' c', e = .returned (.slice a' d.deps.length c') ∧ w'.ownsRow W.heap.size 9 1 (.slice a' d.deps.length c') d.deps.length (d.deps.map Value.string)) ∧ Below W.heap.size W w') :
    Calls Tryz.prog 18 #[.agg #[.string d.name, .slice d.pa d.deps.length d.pc, .slice d.oa d.ops.length d.oc]] w fun e w' => (∃ pa' pc' oa' oc' us, e = .returned (.agg #[.string d.name, .slice pa' d.deps.length pc', .slice oa' d.ops.length oc']) ∧ w'.ownsRow w.heap.size 9 1 (.slice pa' d.deps.length pc') d.deps.length (d.deps.map Value.string) ∧ w'.ownsRow w.heap.size 53 16 (.slice oa' d.ops.length oc') d.ops.length us) ∧ Below w.heap.size w w' := by
  obtain ⟨io, hio, hz0, hz1, hz2⟩ := info_op
  have hB1 := belowAlloc w (.cells #[.string d.name, .slice d.pa d.deps.length d.pc, .slice d.oa d.ops.length d.oc] 25)
  go_enter Tryz.func18, Tryz.ntmps18
  go_wp2
  generalize hw1 : (w.alloc _).alloc _ = w1
  have hb1 : Below w.heap.size w w1 := by rw [← hw1]; exact belowTrans hB1 (belowAlloc _ _)
  have hs1 : w1.heap.size = w.heap.size + 2 := by rw [← hw1, allocSize, allocSize]
  have hbox : w1.heap[w.heap.size]? = some (.cells #[.string d.name, .slice d.pa d.deps.length d.pc, .slice d.oa d.ops.length d.oc] 25 (0, 0)) := by
    rw [← hw1, Below.heap_alloc _ _ _ (by rw [allocSize]; omega)]
    exact (MapKept.heap_alloc w _).1
  refine wp_region_go 7 3 35 (by kernel_rfl) ?ok ?forced rfl (CV1 d w.heap.size) (fun W => Below w1.heap.size w1 W) (fun W W' => Below W.heap.size W W') (fun _ _ _ _ h hv => hv.below h) (belowDrew1 _) ?step ?fin
  case ok => kernel_rfl
  case forced => kernel_rfl
  case step =>
    intro i o hi ho L a W hpre hF hJ hV K hK
    have s1 : a.tmps[1]? = some (.pointer (some ⟨w.heap.size, 0, none⟩)) := hF.at (by kernel_rfl) rfl
    have hbW := (hJ.block w.heap.size (by omega)).trans hbox
    have c0 : W.cell? ⟨w.heap.size, 0, none⟩ = some (.string d.name) := by simp [World.cell?, hbW]
    have c1 : W.cell? ⟨w.heap.size, 1, none⟩ = some (.slice d.pa d.deps.length d.pc) := by simp [World.cell?, hbW]
    match i, hi with
    | 0, _ =>
      simp only [List.getElem?_toArray, List.getElem?_cons_zero, Option.some.injEq] at ho
      subst ho
      refine rg_val (v := .pointer (some ⟨w.heap.size, 0, none⟩)) ?_ (hK _ _ (Below.refl _ _) rfl hJ)
      simp [execOp, Act.eval, go_sem, s1]
    | 1, _ =>
      simp only [List.getElem?_toArray, List.getElem?_cons_succ, List.getElem?_cons_zero, Option.some.injEq] at ho
      subst ho
      have s6 := hF.slot (i := 0) rfl (by simp) (hV 0 (hpre ⟨0, .data⟩ (by simp) rfl))
      refine rg_val (v := .string d.name) ?_ (hK _ _ (Below.refl _ _) rfl hJ)
      simp [execOp, Act.eval, go_sem, s6, c0]
    | 2, _ =>
      simp only [List.getElem?_toArray, List.getElem?_cons_succ, List.getElem?_cons_zero, Option.some.injEq] at ho
      subst ho
      refine rg_val (v := .pointer (some ⟨w.heap.size, 1, none⟩)) ?_ (hK _ _ (Below.refl _ _) rfl hJ)
      simp [execOp, Act.eval, go_sem, s1]
    | 3, _ =>
      simp only [List.getElem?_toArray, List.getElem?_cons_succ, List.getElem?_cons_zero, Option.some.injEq] at ho
      subst ho
      have s8 := hF.slot (i := 2) rfl (by simp) (hV 2 (hpre ⟨2, .data⟩ (by simp) rfl))
      refine rg_val (v := .slice d.pa d.deps.length d.pc) ?_ (hK _ _ (Below.refl _ _) rfl hJ)
      simp [execOp, Act.eval, go_sem, s8, c1]
    | 4, _ =>
      simp only [List.getElem?_toArray, List.getElem?_cons_succ, List.getElem?_cons_zero, Option.some.injEq] at ho
      subst ho
      have s9 := hF.slot (i := 3) rfl (by simp) (hV 3 (hpre ⟨3, .data⟩ (by simp) rfl))
      refine rg_enter (f := 30) (args := #[.slice d.pa d.deps.length d.pc]) (w' := W) ?_ (hcl W (belowTrans hb1 hJ)) ?_ ?_ ?_
      · simp [Act.eval, go_sem, s9]
      · rintro v w'' ⟨⟨a', c', e, ho⟩, hb⟩
        cases e
        exact hK _ _ hb ⟨a', c', rfl, ownsRow_base ho (by have := hJ.size; omega)⟩ (belowTrans hJ hb)
      · rintro chain w'' ⟨⟨a', c', e, _⟩, _⟩
        cases e
      · rintro w'' ⟨⟨a', c', e, _⟩, _⟩
        cases e
    | 5, _ =>
      simp only [List.getElem?_toArray, List.getElem?_cons_succ, List.getElem?_cons_zero, Option.some.injEq] at ho
      subst ho
      have s7 := hF.slot (i := 1) rfl (by simp) (hV 1 (hpre ⟨1, .data⟩ (by simp) rfl))
      obtain ⟨a', c', e, ho⟩ := hV 4 (hpre ⟨4, .data⟩ (by simp) rfl)
      have s10 := hF.slot (i := 4) rfl (by simp) e
      refine rg_val (v := .agg #[.string d.name, .slice a' d.deps.length c', .slice none 0 0]) ?_ (hK _ _ (Below.refl _ _) ⟨a', c', rfl, ho⟩ hJ)
      simp [execOp, Act.eval, go_sem, s7, s10]
    | 6, _ =>
      simp only [List.getElem?_toArray, List.getElem?_cons_succ, List.getElem?_cons_zero, Option.some.injEq] at ho
      subst ho
      refine rg_val (v := .pointer (some ⟨W.heap.size, 0, none⟩)) (w' := W.alloc (.cells #[.string ⟨#[]⟩, .slice none 0 0, .slice none 0 0] 25)) ?_ (hK _ _ (belowAlloc _ _) ⟨_, rfl, by have := hJ.size; omega, (MapKept.heap_alloc W _).1⟩ (belowTrans hJ (belowAlloc _ _)))
      simp [execOp, go_sem]
  case fin =>
    intro a W hF hJ hV
    obtain ⟨pa', pc', e5, ho⟩ := hV 5 (by omega)
    obtain ⟨B, e6, hB, hBz⟩ := hV 6 (by omega)
    rw [show slOf _ a 5 = a.tmps.getD 11 undef from rfl] at e5
    rw [show slOf _ a 6 = a.tmps.getD 3 undef from rfl] at e6
    rw [hF.lit [6, 7, 8, 9, 10, 11, 3] (by kernel_rfl)]
    simp only [relaid, List.foldl_cons, List.foldl_nil, e5, e6]
    generalize a.tmps.getD 6 undef = u6
    generalize a.tmps.getD 7 undef = u7
    generalize a.tmps.getD 8 undef = u8
    generalize a.tmps.getD 9 undef = u9
    generalize a.tmps.getD 10 undef = u10
    simp only [List.setIfInBounds_toArray, List.set_cons_succ, List.set_cons_zero, List.drop_succ_cons, List.drop_zero]
    clear hV hF e5 e6
    have hB0 : Below w.heap.size w W := belowTrans hb1 hJ
    have hres : W.heap[w.heap.size + 1]? = some (.cells #[.string ⟨#[]⟩, .slice none 0 0, .slice none 0 0] 25 (0, 0)) := by
      rw [hJ.block _ (by omega), ← hw1, show w.heap.size + 1 = (w.alloc (.cells #[.string d.name, .slice d.pa d.deps.length d.pc, .slice d.oa d.ops.length d.oc] 25)).heap.size from (allocSize _ _).symm]
      exact (MapKept.heap_alloc _ _).1
    have hbW := (hJ.block w.heap.size (by omega)).trans hbox
    have c2 : W.cell? ⟨w.heap.size, 2, none⟩ = some (.slice d.oa d.ops.length d.oc) := by simp [World.cell?, hbW]
    have z0 : W.cell? ⟨B, 0, none⟩ = some (.string ⟨#[]⟩) := by simp [World.cell?, hBz]
    have z1 : W.cell? ⟨B, 1, none⟩ = some (.slice none 0 0) := by simp [World.cell?, hBz]
    have z2 : W.cell? ⟨B, 2, none⟩ = some (.slice none 0 0) := by simp [World.cell?, hBz]
    have zf : ∀ i, W.frozen? ⟨B, i, none⟩ = false := fun i => frozen_of_row W B i _ _ hBz
    clear hw1 hbox hs1 hb1 hJ _h1
    go_wp2
    have hst : CopyMem d w.heap.size B pa' pc' 0 w (((W.setCell ⟨B, 0, none⟩ (.string d.name)).setCell ⟨B, 1, none⟩ (.slice pa' d.deps.length pc')).setCell ⟨B, 2, none⟩ (.slice none 0 0)) := by
      refine ⟨((hB0.setCell (by show w.heap.size ≤ B; omega) _).setCell (by show w.heap.size ≤ B; omega) _).setCell (by show w.heap.size ≤ B; omega) _, ?_, ?_, none, 0, [], setCell_block _ (setCell_block _ (setCell_block _ hBz)), World.ownsRow_nil _ _ _ _⟩
      · rw [Below.heap_setCell _ _ _ _ (by show _ ≠ B; omega), Below.heap_setCell _ _ _ _ (by show _ ≠ B; omega), Below.heap_setCell _ _ _ _ (by show _ ≠ B; omega)]
        exact hres
      · have hn := row_other ho hBz (by decide)
        exact ownsRow_setCell_other (ownsRow_setCell_other (ownsRow_setCell_other ho hn _) hn _) hn _
    clear z0 z1 z2 zf hBz hres hbW c2 ho hB0
    go_loopw [15] (fun x w' => ∃ i : Nat, i ≤ d.ops.length ∧ x = .int .i64 i ∧ CopyMem d w.heap.size B pa' pc' i w w') (fun x _ => d.ops.length - (intOf x).toNat)
    case atStart => exact ⟨0, Nat.zero_le _, rfl, hst⟩
    case round =>
      clear hst
      obtain ⟨i, hi, rfl, hM⟩ := hrel
      by_cases hlt : i < d.ops.length
      · obtain ⟨b, o, hoa, hN⟩ : ∃ b o, d.oa = some ⟨b, o, none⟩ ∧ OpsAt w b o d.ops := h2.resolve_left (by omega)
        rw [hoa]
        have hd : d.ops[i]? = some d.ops[i] := List.getElem?_eq_getElem hlt
        obtain ⟨c0, c1, c2, c3, c4, c5, c6, c7, c8, c9, d0, d1, d2, d3, d4, d5⟩ := (hN.below hM.below).cell i _ hd
        obtain ⟨hids, htx, hdl, hll⟩ := (hN.below hM.below).sub i _ hd
        have hlt' : (i : Int) < (d.ops.length : Int) := by omega
        have hnn : ¬ (i : Int) < 0 := by omega
        have hnn0 : (0 : Int) ≤ (i : Int) := by omega
        obtain ⟨wo, rfl⟩ : ∃ wo : World, wo = wr := ⟨_, rfl⟩
        generalize hX : d.ops[i] = X at c0 c1 c2 c3 c4 c5 c6 c7 c8 c9 d0 d1 d2 d3 d4 d5 hids htx hdl hll hd
        go_wp2
        have hop : (wo.alloc (.cells X.cells.toArray 53)).heap[wo.heap.size]? = some (.cells X.cells.toArray 53 (0, 0)) := (MapKept.heap_alloc wo _).1
        rw [opCells_eq] at hop
        have hM4 : Below w.heap.size w (wo.alloc (.cells X.cells.toArray 53)) := belowTrans hM.below (belowAlloc _ _)
        rw [opCells_eq] at hM4
        have hs4 : (wo.alloc (.cells X.cells.toArray 53)).heap.size = wo.heap.size + 1 := allocSize _ _
        rw [opCells_eq] at hs4
        have hA4 : Below wo.heap.size wo (wo.alloc (.cells X.cells.toArray 53)) := belowAlloc _ _
        rw [opCells_eq] at hA4
        generalize hw4 : wo.alloc _ = w4 at hop hM4 hs4 hA4 ⊢
        refine wp_region_go 7 3 35 (by kernel_rfl) ?ok ?forced rfl (CV5 X w.heap.size wo.heap.size) (fun W => Below w4.heap.size w4 W) (fun W W' => Below W.heap.size W W') (fun _ _ _ _ h hv => hv.below h) (belowDrew1 _) ?step ?fin
        case ok => kernel_rfl
        case forced => kernel_rfl
        case step =>
          intro i o hi ho L a W hpre hF hJ hV K hK
          have s5 : a.tmps[5]? = some (.pointer (some ⟨wo.heap.size, 0, none⟩)) := hF.at (by kernel_rfl) rfl
          have hbW := (hJ.block wo.heap.size (Array.getElem?_eq_some_iff.1 hop).1).trans hop
          have e13 : W.cell? ⟨wo.heap.size, 13, none⟩ = some (.slice X.da X.dels.length X.dc) := by simp [World.cell?, hbW]
          have e15 : W.cell? ⟨wo.heap.size, 15, none⟩ = some (.slice X.la X.lines.length X.lc) := by simp [World.cell?, hbW]
          match i, hi with
          | 0, _ =>
            simp only [List.getElem?_toArray, List.getElem?_cons_zero, Option.some.injEq] at ho
            subst ho
            refine rg_val (v := .pointer (some ⟨wo.heap.size, 13, none⟩)) ?_ (hK _ _ (Below.refl _ _) rfl hJ)
            simp [execOp, Act.eval, go_sem, s5]
          | 1, _ =>
            simp only [List.getElem?_toArray, List.getElem?_cons_succ, List.getElem?_cons_zero, Option.some.injEq] at ho
            subst ho
            have s19 := hF.slot (i := 0) rfl (by simp) (hV 0 (hpre ⟨0, .data⟩ (by simp) rfl))
            refine rg_val (v := .slice X.da X.dels.length X.dc) ?_ (hK _ _ (Below.refl _ _) rfl hJ)
            simp [execOp, Act.eval, go_sem, s19, e13]
          | 2, _ =>
            simp only [List.getElem?_toArray, List.getElem?_cons_succ, List.getElem?_cons_zero, Option.some.injEq] at ho
            subst ho
            have s20 := hF.slot (i := 1) rfl (by simp) (hV 1 (hpre ⟨1, .data⟩ (by simp) rfl))
            refine rg_enter (f := 31) (args := #[.slice X.da X.dels.length X.dc]) (w' := W) ?_ (hci X hd W (belowTrans hM4 hJ)) ?_ ?_ ?_
            · simp [Act.eval, go_sem, s20]
            · rintro v w'' ⟨⟨a', c', e, ho⟩, hb⟩
              cases e
              exact hK _ _ hb ⟨a', c', rfl, ownsRow_base ho (by have := hJ.size; have := hM4.size; omega)⟩ (belowTrans hJ hb)
            · rintro chain w'' ⟨⟨a', c', e, _⟩, _⟩
              cases e
            · rintro w'' ⟨⟨a', c', e, _⟩, _⟩
              cases e
          | 3, _ =>
            simp only [List.getElem?_toArray, List.getElem?_cons_succ, List.getElem?_cons_zero, Option.some.injEq] at ho
            subst ho
            refine rg_val (v := .pointer (some ⟨wo.heap.size, 15, none⟩)) ?_ (hK _ _ (Below.refl _ _) rfl hJ)
            simp [execOp, Act.eval, go_sem, s5]
          | 4, _ =>
            simp only [List.getElem?_toArray, List.getElem?_cons_succ, List.getElem?_cons_zero, Option.some.injEq] at ho
            subst ho
            have s22 := hF.slot (i := 3) rfl (by simp) (hV 3 (hpre ⟨3, .data⟩ (by simp) rfl))
            refine rg_val (v := .slice X.la X.lines.length X.lc) ?_ (hK _ _ (Below.refl _ _) rfl hJ)
            simp [execOp, Act.eval, go_sem, s22, e15]
          | 5, _ =>
            simp only [List.getElem?_toArray, List.getElem?_cons_succ, List.getElem?_cons_zero, Option.some.injEq] at ho
            subst ho
            have s23 := hF.slot (i := 4) rfl (by simp) (hV 4 (hpre ⟨4, .data⟩ (by simp) rfl))
            refine rg_enter (f := 30) (args := #[.slice X.la X.lines.length X.lc]) (w' := W) ?_ (hcx X hd W (belowTrans hM4 hJ)) ?_ ?_ ?_
            · simp [Act.eval, go_sem, s23]
            · rintro v w'' ⟨⟨a', c', e, ho⟩, hb⟩
              cases e
              exact hK _ _ hb ⟨a', c', rfl, ownsRow_base ho (by have := hJ.size; have := hM4.size; omega)⟩ (belowTrans hJ hb)
            · rintro chain w'' ⟨⟨a', c', e, _⟩, _⟩
              cases e
            · rintro w'' ⟨⟨a', c', e, _⟩, _⟩
              cases e
          | 6, _ =>
            simp only [List.getElem?_toArray, List.getElem?_cons_succ, List.getElem?_cons_zero, Option.some.injEq] at ho
            subst ho
            refine rg_val (v := .pointer (some ⟨wo.heap.size, 13, none⟩)) ?_ (hK _ _ (Below.refl _ _) rfl hJ)
            simp [execOp, Act.eval, go_sem, s5]
        case fin =>
          intro a W hF hJ hV
          obtain ⟨da', dc', e2, ho2⟩ := hV 2 (by omega)
          obtain ⟨la', lc', e5, ho5⟩ := hV 5 (by omega)
          have e6 := hV 6 (by omega)
          rw [show slOf _ a 2 = a.tmps.getD 21 undef from rfl] at e2
          rw [show slOf _ a 5 = a.tmps.getD 24 undef from rfl] at e5
          rw [show slOf _ a 6 = a.tmps.getD 25 undef from rfl] at e6
          have e6' : a.tmps.getD 25 undef = .pointer (some ⟨wo.heap.size, 13, none⟩) := e6
          rw [hF.lit [19, 20, 21, 22, 23, 24, 25, 26] (by kernel_rfl)]
          simp only [relaid, List.foldl_cons, List.foldl_nil, e2, e5, e6']
          generalize a.tmps.getD 19 undef = y19
          generalize a.tmps.getD 20 undef = y20
          generalize a.tmps.getD 22 undef = y22
          generalize a.tmps.getD 23 undef = y23
          generalize a.tmps.getD 26 undef = y26
          simp only [List.setIfInBounds_toArray, List.set_cons_succ, List.set_cons_zero, List.drop_succ_cons, List.drop_zero]
          have hbW := (hJ.block wo.heap.size (Array.getElem?_eq_some_iff.1 hop).1).trans hop
          clear hV hF e2 e5 e6 e6'
          clear c0 c1 c2 c3 c4 c5 c6 c7 c8 c9 d0 d1 d2 d3 d4 d5
          have b0 : W.cell? ⟨wo.heap.size, 0, none⟩ = some (.int .i64 X.kind) := by simp [World.cell?, hbW]
          have b1 : W.cell? ⟨wo.heap.size, 1, none⟩ = some (.string X.self.p) := by simp [World.cell?, hbW]
          have b2 : W.cell? ⟨wo.heap.size, 2, none⟩ = some (.int .i64 X.self.n) := by simp [World.cell?, hbW]
          have b3 : W.cell? ⟨wo.heap.size, 3, none⟩ = some (.string X.parent.p) := by simp [World.cell?, hbW]
          have b4 : W.cell? ⟨wo.heap.size, 4, none⟩ = some (.int .i64 X.parent.n) := by simp [World.cell?, hbW]
          have b5 : W.cell? ⟨wo.heap.size, 5, none⟩ = some (.string X.to.p) := by simp [World.cell?, hbW]
          have b6 : W.cell? ⟨wo.heap.size, 6, none⟩ = some (.int .i64 X.to.n) := by simp [World.cell?, hbW]
          have b7 : W.cell? ⟨wo.heap.size, 7, none⟩ = some (.string X.name) := by simp [World.cell?, hbW]
          have b8 : W.cell? ⟨wo.heap.size, 8, none⟩ = some (.string X.toName) := by simp [World.cell?, hbW]
          have b9 : W.cell? ⟨wo.heap.size, 9, none⟩ = some (.string X.left.p) := by simp [World.cell?, hbW]
          have b10 : W.cell? ⟨wo.heap.size, 10, none⟩ = some (.int .i64 X.left.n) := by simp [World.cell?, hbW]
          have b11 : W.cell? ⟨wo.heap.size, 11, none⟩ = some (.string X.right.p) := by simp [World.cell?, hbW]
          have b12 : W.cell? ⟨wo.heap.size, 12, none⟩ = some (.int .i64 X.right.n) := by simp [World.cell?, hbW]
          have b13 : W.cell? ⟨wo.heap.size, 13, none⟩ = some (.slice X.da X.dels.length X.dc) := by simp [World.cell?, hbW]
          have b14 : W.cell? ⟨wo.heap.size, 14, none⟩ = some (.int .i64 X.first) := by simp [World.cell?, hbW]
          have b15 : W.cell? ⟨wo.heap.size, 15, none⟩ = some (.slice X.la X.lines.length X.lc) := by simp [World.cell?, hbW]
          have zf : ∀ k, W.frozen? ⟨wo.heap.size, k, none⟩ = false := fun k => frozen_of_row W wo.heap.size k _ _ hbW
          obtain ⟨oa', oc', us, hB, hown⟩ := hM.out
          have hBs := (Array.getElem?_eq_some_iff.1 hB).1
          have hBW := (hJ.block B (by omega)).trans ((hA4.block B hBs).trans hB)
          have hownW := ownsRow_below (ownsRow_below hown hA4) hJ
          have hnb : (Value.slice oa' i oc').ownBlock ≠ some wo.heap.size := fun e => by have := (hown.lt _ e).2; omega
          have hown2 : ∀ u v, ((W.setCell ⟨wo.heap.size, 13, none⟩ u).setCell ⟨wo.heap.size, 15, none⟩ v).ownsRow w.heap.size 53 16 (.slice oa' i oc') i us := fun u v => ownsRow_setCell_other (ownsRow_setCell_other hownW hnb u) hnb v
          have q2 : W.cell? ⟨B, 2, none⟩ = some (.slice oa' i oc') := by simp [World.cell?, hBW]
          have hne1 : ¬ B = wo.heap.size := by omega
          have hne2 : ¬ wo.heap.size = B := by omega
          go_wp2_with (at_builtin; refine wpList_append_src _ rfl (.tmp 28) (.tmp 30) 23 rfl w.heap.size 53 io _ 16 _ Tryz.underlying23 hio hz0 hz1 hz2 rfl (by decide) _ i us rfl ((hown2 _ _).alloc _) _ 1 [.int .i64 X.kind, .string X.self.p, .int .i64 X.self.n, .string X.parent.p, .int .i64 X.parent.n, .string X.to.p, .int .i64 X.to.n, .string X.name, .string X.toName, .string X.left.p, .int .i64 X.left.n, .string X.right.p, .int .i64 X.right.n, .slice da' X.dels.length dc', .int .i64 X.first, .slice la' X.lines.length lc'] rfl (.inr ⟨_, _, rfl, rfl, ?src⟩) ?one ?len ?bytes ?base ?_)
          case src =>
            intro j u hu
            rw [Addr.add_lit, cell_new2 _ _ (by simp only [setSize])]
            simpa using hu
          case one =>
            intro u hu
            simp only [List.mem_cons, List.not_mem_nil, or_false] at hu
            rcases hu with rfl | rfl | rfl | rfl | rfl | rfl | rfl | rfl | rfl | rfl | rfl | rfl | rfl | rfl | rfl | rfl <;> rfl
          case len => unfold maxLen; omega
          case bytes => omega
          case base =>
            have := (belowTrans hM4 hJ).size
            rw [allocSize]
            simp only [setSize]
            omega
          intro v' w' hown' hg _
          have hBr : (Value.slice oa' i oc').ownBlock ≠ some B := row_other hown hB (by decide)
          have hB2 : w'.heap[B]? = some (.cells #[.string d.name, .slice pa' d.deps.length pc', .slice oa' i oc'] 25 (0, 0)) := by
            rw [hg.block B (by rw [allocSize]; simp only [setSize]; have := (Array.getElem?_eq_some_iff.1 hBW).1; omega) (fun e => hBr e.symm), Below.heap_alloc _ _ _ (by simp only [setSize]; exact (Array.getElem?_eq_some_iff.1 hBW).1), Below.heap_setCell _ _ _ _ hne1, Below.heap_setCell _ _ _ _ hne1]
            exact hBW
          have y2 : w'.cell? ⟨B, 2, none⟩ = some (.slice oa' i oc') := by simp [World.cell?, hB2]
          have yf : w'.frozen? ⟨B, 2, none⟩ = false := frozen_of_row w' B 2 _ _ hB2
          rcases hown'.2 with ⟨_, h0⟩ | ⟨g, cap, cur, rfl, hg1, hg2, _⟩
          · omega
          clear b0 b1 b2 b3 b4 b5 b6 b7 b8 b9 b10 b11 b12 b13 b14 b15 q2
          go_wp2
          have hBg : (Value.slice (some ⟨g, 0, none⟩) (i + 1) cap).ownBlock ≠ some B := row_other hown' hB2 (by decide)
          have hdW := ownsRow_below (ownsRow_below hM.deps hA4) hJ
          have hdn : (Value.slice pa' d.deps.length pc').ownBlock ≠ some wo.heap.size := fun e => by have := (hM.deps.lt _ e).2; omega
          have hd2 := (ownsRow_setCell_other (a := ⟨wo.heap.size, 15, none⟩) (ownsRow_setCell_other (a := ⟨wo.heap.size, 13, none⟩) hdW hdn (.slice da' X.dels.length dc')) hdn (.slice la' X.lines.length lc')).alloc (.cells #[.int .i64 X.kind, .string X.self.p, .int .i64 X.self.n, .string X.parent.p, .int .i64 X.parent.n, .string X.to.p, .int .i64 X.to.n, .string X.name, .string X.toName, .string X.left.p, .int .i64 X.left.n, .string X.right.p, .int .i64 X.right.n, .slice da' X.dels.length dc', .int .i64 X.first, .slice la' X.lines.length lc'] 53)
          have hnr : (Value.slice pa' d.deps.length pc').ownBlock = none ∨ (Value.slice pa' d.deps.length pc').ownBlock ≠ (Value.slice oa' i oc').ownBlock := by
            by_cases he : (Value.slice pa' d.deps.length pc').ownBlock = none
            · exact .inl he
            · refine .inr fun e => ?_
              rcases hown.2 with ⟨h0, _⟩ | ⟨g2, cap2, cur2, h0, _, hh2, _⟩
              · rw [h0] at e; exact he e
              · exact row_other hM.deps hh2 (by decide) (by rw [e, h0]; rfl)
          have hd3 := hd2.kept hg hnr
          have hrs := (Array.getElem?_eq_some_iff.1 hM.res).1
          have hr1 : (Value.slice oa' i oc').ownBlock ≠ some (w.heap.size + 1) := row_other hown hM.res (by decide)
          have hrW : w'.heap[w.heap.size + 1]? = some (.cells #[.string ⟨#[]⟩, .slice none 0 0, .slice none 0 0] 25 (0, 0)) := by
            have h5 : W.heap[w.heap.size + 1]? = _ := (hJ.block _ (by omega)).trans ((hA4.block _ hrs).trans hM.res)
            rw [hg.block _ (by rw [allocSize]; simp only [setSize]; have := (Array.getElem?_eq_some_iff.1 h5).1; omega) (fun e => hr1 e.symm), Below.heap_alloc _ _ _ (by simp only [setSize]; exact (Array.getElem?_eq_some_iff.1 h5).1), Below.heap_setCell _ _ _ _ (by show _ ≠ wo.heap.size; omega), Below.heap_setCell _ _ _ _ (by show _ ≠ wo.heap.size; omega)]
            exact h5
          have hbel : Below w.heap.size w w' := by
            have h6 := belowTrans hM4 hJ
            have h7 := ((h6.setCell (p := ⟨wo.heap.size, 13, none⟩) hM.below.size (.slice da' X.dels.length dc')).setCell (p := ⟨wo.heap.size, 15, none⟩) hM.below.size (.slice la' X.lines.length lc')).alloc (by simp only [setSize]; exact h6.size) (.cells #[.int .i64 X.kind, .string X.self.p, .int .i64 X.self.n, .string X.parent.p, .int .i64 X.parent.n, .string X.to.p, .int .i64 X.to.n, .string X.name, .string X.toName, .string X.left.p, .int .i64 X.left.n, .string X.right.p, .int .i64 X.right.n, .slice da' X.dels.length dc', .int .i64 X.first, .slice la' X.lines.length lc'] 53)
            exact h7.grown hg (by rw [allocSize]; simp only [setSize]; have := h6.size; omega) (fun k hk => (hown.lt k hk).1)
          refine ⟨⟨i + 1, by omega, by push_cast; rfl, hbel.setCell (by show _ ≤ B; omega) _, ?_, ownsRow_setCell_other hd3 (row_other hd3 hB2 (by decide)) _, _, _, _, setCell_block _ hB2, ownsRow_setCell_other hown' hBg _⟩, by simp [intOf]; omega⟩
          rw [Below.heap_setCell _ _ _ _ (by show _ ≠ B; omega)]
          exact hrW
      · have hlt' : ¬ (i : Int) < (d.ops.length : Int) := by omega
        obtain ⟨oa', oc', us, hBc, hown⟩ := hM.out
        have hi' : i = d.ops.length := by omega
        rw [hi'] at hBc hown
        have y0 : wr.cell? ⟨B, 0, none⟩ = some (.string d.name) := by simp [World.cell?, hBc]
        have y1 : wr.cell? ⟨B, 1, none⟩ = some (.slice pa' d.deps.length pc') := by simp [World.cell?, hBc]
        have y2 : wr.cell? ⟨B, 2, none⟩ = some (.slice oa' d.ops.length oc') := by simp [World.cell?, hBc]
        have r0 : wr.cell? ⟨w.heap.size + 1, 0, none⟩ = some (.string ⟨#[]⟩) := by simp [World.cell?, hM.res]
        have r1 : wr.cell? ⟨w.heap.size + 1, 1, none⟩ = some (.slice none 0 0) := by simp [World.cell?, hM.res]
        have r2 : wr.cell? ⟨w.heap.size + 1, 2, none⟩ = some (.slice none 0 0) := by simp [World.cell?, hM.res]
        have rf : ∀ k, wr.frozen? ⟨w.heap.size + 1, k, none⟩ = false := fun k => frozen_of_row wr _ k _ _ hM.res
        go_wp2
        have hfin := setCell_block (.slice oa' d.ops.length oc') (setCell_block (i := 1) (.slice pa' d.deps.length pc') (setCell_block (i := 0) (.string d.name) hM.res)) (i := 2)
        refine bodyPost_ret_by (v := .agg #[.string d.name, .slice pa' d.deps.length pc', .slice oa' d.ops.length oc']) ?_ rfl ?_
        · exact results_cell_row rfl _ _ (w.heap.size + 1) 25 _ _ _ rfl hfin Tryz.underlying25 rfl (by kernel_rfl)
        have hn1 : (Value.slice pa' d.deps.length pc').ownBlock ≠ some (w.heap.size + 1) := row_other hM.deps hM.res (by decide)
        have hn2 : (Value.slice oa' d.ops.length oc').ownBlock ≠ some (w.heap.size + 1) := row_other hown hM.res (by decide)
        exact ⟨⟨pa', pc', oa', oc', rfl, ownsRow_setCell_other (ownsRow_setCell_other (ownsRow_setCell_other hM.deps hn1 _) hn1 _) hn1 _, us, ownsRow_setCell_other (ownsRow_setCell_other (ownsRow_setCell_other hown hn2 _) hn2 _) hn2 _⟩, ((hM.below.setCell (by show _ ≤ w.heap.size + 1; omega) _).setCell (by show _ ≤ w.heap.size + 1; omega) _).setCell (by show _ ≤ w.heap.size + 1; omega) _⟩
end Go.Proofs.W
namespace Go.Proofs.W
open Go Go.Proofs Go.RowKit
set_option maxRecDepth 1000000

set_option maxHeartbeats 4000000 in
theorem cloneTexts (a : Option Addr) (c : Nat) (xs : List ByteArray) (w : World) (h : TextsH w a xs) (hlen : xs.length ≤ 1099511627776) :
    Calls Tryz.prog 30 #[.slice a xs.length c] w fun e w' => (∃ v', e = .returned v' ∧ w'.ownsRow w.heap.size 9 1 v' xs.length (xs.map Value.string)) ∧ Below w.heap.size w w' := by
  have qn : ∀ (w : World) (a : Option Addr) (n c n' c' : Nat), (binOp .eql 22 (.slice a n c) (.slice none n' c')).run Tryz.prog w = .ok (.bool a.isNone) w := fun w a n c n' c' => Lib.run_eql_slice_nil w _ _ a n c n' c' Tryz.underlying22
  cases a with
  | none =>
    have h0 : xs.length = 0 := h.elim id (fun ⟨_, _, h, _⟩ => by cases h)
    go_enter Tryz.func30, Tryz.ntmps30
    go_wp2
    go_ret
    refine ⟨⟨_, rfl, ?_⟩, Below.refl _ _⟩
    have : xs = [] := List.eq_nil_of_length_eq_zero h0
    subst this
    exact World.ownsRow_nil _ _ _ _
  | some ad =>
    have hsrc : ∀ x, SrcT (w.alloc x) (Value.slice (some ad) xs.length c) xs := fun x => by
      refine .inr ⟨ad, c, rfl, fun j u hu => ?_⟩
      rcases h with h0 | ⟨b, o, h1, h2⟩
      · have : xs = [] := List.eq_nil_of_length_eq_zero h0
        subst this
        simp at hu
      · cases h1
        rw [Addr.add_lit]
        exact (h2.below (belowAlloc _ _)).cell j u hu
    go_enter Tryz.func30, Tryz.ntmps30
    go_wp2_with (at_builtin; refine wpList_append_texts _ rfl (.tmp 5) (.tmp 6) rfl w.heap.size _ [] rfl (ownT_lit0 _ _ _ ?hn ?hb) _ xs rfl (hsrc _) ?len ?base ?_)
    case hn => rfl
    case hb => exact Nat.le_refl _
    case len => simp; omega
    case base => rw [allocSize]; omega
    intro v' w' hown hg
    go_wp2
    go_ret
    refine ⟨⟨_, rfl, hown⟩, ?_⟩
    have hb := belowAlloc w (.cells #[] 9)
    exact ⟨hg.os.trans hb.os, hg.tape.trans hb.tape, hg.output.trans hb.output, Nat.le_trans hb.size hg.size, fun k hk => (hg.block k (by simp; omega) (by simp [Value.ownBlock]; omega)).trans (hb.block k hk)⟩

theorem ownShape {w : World} {b : Nat} {e : TypeId} {sz : Nat} {v : Value} {n : Nat} {xs : List Value} (h : w.ownsRow b e sz v n xs) : ∃ a c, v = .slice a n c := by
  rcases h.2 with ⟨rfl, rfl⟩ | ⟨g, cap, cur, rfl, _⟩
  · exact ⟨_, _, rfl⟩
  · exact ⟨_, _, rfl⟩

/-- patch.Copy of a light patch: rows of one's own -/
theorem copy_light (d : PatchV) (w : World) (h1 : TextsH w d.pa d.deps) (h2 : OpsH w d.oa d.ops) (hl : PatchLight d) :
    Calls Tryz.prog 18 #[.agg #[.string d.name, .slice d.pa d.deps.length d.pc, .slice d.oa d.ops.length d.oc]] w fun e w' => (∃ pa' pc' oa' oc' us, e = .returned (.agg #[.string d.name, .slice pa' d.deps.length pc', .slice oa' d.ops.length oc']) ∧ w'.ownsRow w.heap.size 9 1 (.slice pa' d.deps.length pc') d.deps.length (d.deps.map Value.string) ∧ w'.ownsRow w.heap.size 53 16 (.slice oa' d.ops.length oc') d.ops.length us) ∧ Below w.heap.size w w' := by
  obtain ⟨l1, l2, l3, l4, l5⟩ := hl
  have l6 := l5.1
  refine patch_Copy d w h1 h2 (by omega) (fun X i hX W hW => ?_) (fun X i hX W hW => ?_) (fun W hW => ?_)
  · obtain ⟨b, o, hoa, hN⟩ : ∃ b o, d.oa = some ⟨b, o, none⟩ ∧ OpsAt w b o d.ops := h2.resolve_left (by have := (List.getElem?_eq_some_iff.1 hX).1; omega)
    refine (cloneIds X.da X.dc X.dels W ((hN.sub i X hX).1.below hW) (by have := (l5.2 i X hX).1; omega)).mono ?_
    rintro e w' ⟨⟨v', rfl, hv⟩, hb⟩
    obtain ⟨a', c', rfl⟩ := ownShape hv
    exact ⟨⟨a', c', rfl, hv⟩, hb⟩
  · obtain ⟨b, o, hoa, hN⟩ : ∃ b o, d.oa = some ⟨b, o, none⟩ ∧ OpsAt w b o d.ops := h2.resolve_left (by have := (List.getElem?_eq_some_iff.1 hX).1; omega)
    refine (cloneTexts X.la X.lc X.lines W ((hN.sub i X hX).2.1.below hW) (by have := (l5.2 i X hX).2.1; omega)).mono ?_
    rintro e w' ⟨⟨v', rfl, hv⟩, hb⟩
    obtain ⟨a', c', rfl⟩ := ownShape hv
    exact ⟨⟨a', c', rfl, hv⟩, hb⟩
  · refine (cloneTexts d.pa d.pc d.deps W (h1.below hW) (by omega)).mono ?_
    rintro e w' ⟨⟨v', rfl, hv⟩, hb⟩
    obtain ⟨a', c', rfl⟩ := ownShape hv
    exact ⟨⟨a', c', rfl, hv⟩, hb⟩
end Go.Proofs.W
namespace Go.Proofs.W
open Go Go.Proofs Go.RowKit
set_option maxRecDepth 1000000

/-- append onto an empty slice without room: a new row, or the slice itself; nothing that was there turns -/
theorem wp_append_fresh {P : Program} (w : World) {o : Oper} {a : Act} {K : Act → World → Prop} {Q : Exit → Act → World → Prop} (s x : Operand) (t : TypeId)
    (ho : o.op = .call { callee := .builtin .append, args := #[s, x], argTypes := #[t, t] })
    (base : Nat) (e : TypeId) (i : TypeInfo) (z : Value) (size bytes : Nat) (ht : P.underlying t = some (.slice e)) (hi : P.info? e = some i) (hz : i.zero = some z)
    (hsize : i.size = size) (hby : i.bytes = bytes) (hzs : z.cells.size = size) (hsz : 0 < size)
    (b : Addr) (hs : a.eval s = .slice (some b) 0 0) (hown : w.ownsRow base e size (.slice (some b) 0 0) 0 [])
    (vx : Value) (m : Nat) (news : List Value) (hx : a.eval x = vx)
    (hsrc : (∃ c, vx = .slice none 0 c ∧ m = 0 ∧ news = []) ∨ ∃ ad c, vx = .slice (some ad) m c ∧ news.length = m * size ∧ ∀ j u, news[j]? = some u → w.cell? (ad.add j) = some u)
    (h63 : m ≤ maxLen) (hbytes : m * bytes ≤ 140737488355328) (hbase : base ≤ w.heap.size)
    (h : ∀ v' w', w'.ownsRow base e size v' m news → Below w.heap.size w w' → K (a.put o.dst v') w') : o.wp P a w K Q := by
  rcases hsrc with ⟨c, rfl, rfl, rfl⟩ | ⟨ad, c, rfl, hl, hc⟩
  · have hrun : (Builtin.append_ #[t, t] o.type #[.slice (some b) 0 0, .slice none 0 c]).run P w = .ok (.slice (some b) 0 0) w := by
      simp [Builtin.append_, run_underlying ht, sizeOf, typeInfo, hi, Builtin.lenOf, Builtin.firstCells, loadCells, loadCellsFrom, storeCells]
    unfold Oper.wp
    simp [execOp, ho, resolve, invoke, builtin, hs, hx, hrun, Result.andThen]
    exact h _ _ hown (Below.refl _ _)
  · by_cases hm : m = 0
    · subst hm
      obtain rfl : news = [] := List.eq_nil_of_length_eq_zero (by simpa using hl)
      have hrun : (Builtin.append_ #[t, t] o.type #[.slice (some b) 0 0, .slice (some ad) 0 c]).run P w = .ok (.slice (some b) 0 0) w := by
        simp [Builtin.append_, run_underlying ht, sizeOf, typeInfo, hi, Builtin.lenOf, Builtin.firstCells, loadCells, loadCellsFrom, storeCells]
      unfold Oper.wp
      simp [execOp, ho, resolve, invoke, builtin, hs, hx, hrun, Result.andThen]
      exact h _ _ hown (Below.refl _ _)
    · obtain ⟨v', w', hrun, r1, r2⟩ := run_append_arg_grows (P := P) w t o.type e i z size bytes ht hi hz hsize hby hzs hsz b 0 0 [] (by simp) (by simp) ad m c news hl hc (by omega) (by omega) (by simpa using hbytes)
      unfold Oper.wp
      simp [execOp, ho, resolve, invoke, builtin, hs, hx, hrun, Result.andThen]
      refine h _ _ ?_ ⟨r2.os, r2.tape, r2.output, r2.size, fun k hk => r2.block k hk (by simp)⟩
      rw [Nat.zero_add, List.nil_append] at r1
      exact ownsRow_base r1 hbase

theorem ownsRow_lit0 (w : World) (e : TypeId) (sz base g : Nat) (hg : g = w.heap.size) (hb : base ≤ g) : (w.alloc (.cells #[] e)).ownsRow base e sz (.slice (some ⟨g, 0, none⟩) 0 0) 0 [] := by
  subst hg
  exact World.ownsRow_lit w #[] 0 hb (Nat.zero_le _) (by simp)
theorem textsSrc {w : World} {a : Option Addr} {c : Nat} {xs : List ByteArray} (h : TextsH w a xs) : (∃ c', (Value.slice a xs.length c) = .slice none 0 c' ∧ xs.length = 0 ∧ xs.map Value.string = []) ∨ ∃ ad c', (Value.slice a xs.length c) = .slice (some ad) xs.length c' ∧ (xs.map Value.string).length = xs.length * 1 ∧ ∀ j u, (xs.map Value.string)[j]? = some u → w.cell? (ad.add j) = some u := by
  cases a with
  | none =>
    have h0 : xs.length = 0 := h.elim id (fun ⟨_, _, h, _⟩ => by cases h)
    have : xs = [] := List.eq_nil_of_length_eq_zero h0
    subst this
    exact .inl ⟨c, rfl, rfl, rfl⟩
  | some ad =>
    refine .inr ⟨ad, c, rfl, by simp, fun j u hu => ?_⟩
    rcases h with h0 | ⟨b, o, h1, h2⟩
    · have : xs = [] := List.eq_nil_of_length_eq_zero h0
      subst this
      simp at hu
    · cases h1
      rw [List.getElem?_map] at hu
      obtain ⟨x, hx, rfl⟩ := Option.map_eq_some_iff.1 hu
      rw [Addr.add_lit]
      exact h2.cell j x hx
theorem idsSrc {w : World} {a : Option Addr} {c : Nat} {xs : List Idv} (h : IdsH w a xs) : (∃ c', (Value.slice a xs.length c) = .slice none 0 c' ∧ xs.length = 0 ∧ xs.flatMap idCells = []) ∨ ∃ ad c', (Value.slice a xs.length c) = .slice (some ad) xs.length c' ∧ (xs.flatMap idCells).length = xs.length * 2 ∧ ∀ j u, (xs.flatMap idCells)[j]? = some u → w.cell? (ad.add j) = some u := by
  cases a with
  | none =>
    have h0 : xs.length = 0 := h.elim id (fun ⟨_, _, h, _⟩ => by cases h)
    have : xs = [] := List.eq_nil_of_length_eq_zero h0
    subst this
    exact .inl ⟨c, rfl, rfl, rfl⟩
  | some ad =>
    refine .inr ⟨ad, c, rfl, idCells_len xs, fun j u hu => ?_⟩
    rcases h with h0 | ⟨b, o, h1, h2⟩
    · have : xs = [] := List.eq_nil_of_length_eq_zero h0
      subst this
      simp at hu
    · cases h1
      exact idCells_get h2 j u hu
end Go.Proofs.W
