/- A PART OF THE PROOF THAT SHOWS THAT EACH OF rafterlaw44.GateAsk AND rafterlaw44.GateAll RETURNS TRUE FOR EVERY INPUT. No condition beyond the given statement. This part: WAsk. -/
import Derived.Test.YtaaepmochmaheaaGreatDoorWCopy
namespace Go.Proofs.W
open Go Go.Proofs Go.RowKit
set_option maxRecDepth 1000000

set_option maxHeartbeats 4000000 in
theorem func_Ask (b0 B : Nat) (n : Int) (nm : ByteArray) (pa : Option Addr) (nd pc : Nat) (oa : Option Addr) (no oc : Nat) (w : World) (hB : B < b0) (hb : b0 ≤ w.heap.size) (hc : w.cell? ⟨B, 0, none⟩ = some (.int .i64 n))
    (h1 : ∃ xs, w.ownsRow b0 9 1 (.slice pa nd pc) nd xs) (h2 : ∃ us, w.ownsRow b0 53 16 (.slice oa no oc) no us) (hd1 : nd < 9223372036854775808) (hd2 : no < 9223372036854775808) :
    Calls Tryz.prog 492 #[hookV B, .agg #[.string nm, .slice pa nd pc, .slice oa no oc]] w fun e w' => HookEnds n e ∧ Below b0 w w' := by
  have hc1 : ∀ x, (w.alloc x).cell? ⟨B, 0, none⟩ = some (.int .i64 n) := fun x => by rw [World.cell?_of_block (w := w) (Below.heap_alloc _ _ _ (by show B < _; omega))]; exact hc
  have hcall := fun x => hook_does b0 B n nm pa nd pc oa no oc (w.alloc x) hB (by rw [allocSize]; omega) (hc1 x) (h1.imp fun _ h => h.alloc _) (h2.imp fun _ h => h.alloc _) hd1 hd2
  have hbA : ∀ x, Below b0 w (w.alloc x) := fun x => (Below.refl b0 w).alloc hb x
  by_cases hn : 0 ≤ n ∧ n ≤ 18
  · have hq : HookEnds n (.returned (.int .i64 n)) := by unfold HookEnds; rw [if_pos hn]
    have hcall2 := fun x => (hcall x).mono fun e w' (h : HookEnds n e ∧ Below b0 (w.alloc x) w') => (show e = .returned (.int .i64 n) ∧ Below b0 (w.alloc x) w' from ⟨by have := h.1; unfold HookEnds at this; rwa [if_pos hn] at this, h.2⟩)
    unfold hookV
    go_enter Tryz.func492, Tryz.ntmps492
    go_wp2_with (go_at_call 19; refine (hcall2 _).mono ?_; rintro e w2 ⟨rfl, hb2⟩)
    go_ret
    exact ⟨hq, Below.trans (hbA _) hb2⟩
  · have hcall2 := fun x => (hcall x).mono fun e w' (h : HookEnds n e ∧ Below b0 (w.alloc x) w') => (show (∃ T v, ErrK T v (toldE n) ∧ e = .panicked [{ v := .iface T v, recovered := false }]) ∧ Below b0 (w.alloc x) w' from ⟨by have := h.1; unfold HookEnds at this; rwa [if_neg hn] at this, h.2⟩)
    have hq : ∀ T v, ErrK T v (toldE n) → HookEnds n (.panicked [{ v := .iface T v, recovered := false }]) := fun T v h => by unfold HookEnds; rw [if_neg hn]; exact ⟨T, v, h, rfl⟩
    unfold hookV
    go_enter Tryz.func492, Tryz.ntmps492
    go_wp2_with (go_at_call 19; refine (hcall2 _).mono ?_; rintro e w2 ⟨⟨T, v, hk, rfl⟩, hb2⟩)
    exact ⟨rfl, hq _ _ hk, Below.trans (hbA _) hb2⟩

theorem method_Ask (N : Nat) (v : Value) (w : World) : (method (N + 1) 33 v "Ask").run Tryz.prog w = .ok (492, v) w := by kernel_rfl

def AV4 (d : PatchV) (B b0 : Nat) (i : Nat) (v : Value) (w : World) : Prop := match i with
  | 0 => v = .iface 33 (hookV B)
  | 1 => v = .agg #[.string d.name, .slice d.pa d.deps.length d.pc, .slice d.oa d.ops.length d.oc]
  | 2 => ∃ pa' pc' oa' oc' us, v = .agg #[.string d.name, .slice pa' d.deps.length pc', .slice oa' d.ops.length oc'] ∧ w.ownsRow b0 9 1 (.slice pa' d.deps.length pc') d.deps.length (d.deps.map Value.string) ∧ w.ownsRow b0 53 16 (.slice oa' d.ops.length oc') d.ops.length us
  | 4 => v = .iface 33 (hookV B)
  | _ => True
theorem AV4.below {d : PatchV} {B b0 i : Nat} {v : Value} {w w' : World} (h : Below w.heap.size w w') (hv : AV4 d B b0 i v w) : AV4 d B b0 i v w' := by
  unfold AV4 at hv ⊢
  split at hv
  any_goals exact hv
  obtain ⟨pa', pc', oa', oc', us, e, h1, h2⟩ := hv
  exact ⟨pa', pc', oa', oc', us, e, ownsRow_below h1 h, ownsRow_below h2 h⟩

set_option maxHeartbeats 8000000 in
/-- gate.Ask of a hook: what it answers, or falls with -/
theorem gate_Ask (d : PatchV) (B : Nat) (n : Int) (w : World) (hB : B < w.heap.size) (hc : w.cell? ⟨B, 0, none⟩ = some (.int .i64 n)) (h1 : TextsH w d.pa d.deps) (h2 : OpsH w d.oa d.ops) (hl : PatchLight d) :
    Calls Tryz.prog 8 #[.iface 33 (hookV B), .agg #[.string d.name, .slice d.pa d.deps.length d.pc, .slice d.oa d.ops.length d.oc]] w fun e w' => e = .returned (.tuple #[.int .i64 (toldE n), .bool (toldB n)]) ∧ Below w.heap.size w w' := by
  have hmf : ∀ (fn : Fn) (first cap : Array Value) (w : World), (Instr.makeFunc fn first cap).run Tryz.prog w = .ok (.func fn first cap) w := fun _ _ _ _ => rfl
  unfold hookV
  go_enter_defers Tryz.func8, Tryz.ntmps8
  go_wp2
  have hx1 : (((w.alloc (.cells #[.string d.name, .slice d.pa d.deps.length d.pc, .slice d.oa d.ops.length d.oc] 25)).alloc (.cells #[.int .i64 0] 29)).alloc (.cells #[.bool false] 4)).heap[w.heap.size]? = some (.cells #[.string d.name, .slice d.pa d.deps.length d.pc, .slice d.oa d.ops.length d.oc] 25 (0, 0)) := by
    rw [Below.heap_alloc _ _ _ (by rw [allocSize, allocSize]; omega), Below.heap_alloc _ _ _ (by rw [allocSize]; omega)]
    exact (MapKept.heap_alloc w _).1
  have hx2 : (((w.alloc (.cells #[.string d.name, .slice d.pa d.deps.length d.pc, .slice d.oa d.ops.length d.oc] 25)).alloc (.cells #[.int .i64 0] 29)).alloc (.cells #[.bool false] 4)).heap[w.heap.size + 1]? = some (.cells #[.int .i64 0] 29 (0, 0)) := by
    rw [Below.heap_alloc _ _ _ (by rw [allocSize, allocSize]; omega), ← allocSize w (.cells #[.string d.name, .slice d.pa d.deps.length d.pc, .slice d.oa d.ops.length d.oc] 25)]
    exact (MapKept.heap_alloc _ _).1
  have hx3 : (((w.alloc (.cells #[.string d.name, .slice d.pa d.deps.length d.pc, .slice d.oa d.ops.length d.oc] 25)).alloc (.cells #[.int .i64 0] 29)).alloc (.cells #[.bool false] 4)).heap[w.heap.size + 1 + 1]? = some (.cells #[.bool false] 4 (0, 0)) := by
    rw [← allocSize w (.cells #[.string d.name, .slice d.pa d.deps.length d.pc, .slice d.oa d.ops.length d.oc] 25), ← allocSize (w.alloc (.cells #[.string d.name, .slice d.pa d.deps.length d.pc, .slice d.oa d.ops.length d.oc] 25)) (.cells #[.int .i64 0] 29)]
    exact (MapKept.heap_alloc _ _).1
  have hb1 : Below w.heap.size w (((w.alloc (.cells #[.string d.name, .slice d.pa d.deps.length d.pc, .slice d.oa d.ops.length d.oc] 25)).alloc (.cells #[.int .i64 0] 29)).alloc (.cells #[.bool false] 4)) := belowTrans (belowTrans (belowAlloc _ _) (belowAlloc _ _)) (belowAlloc _ _)
  have hs1 : (((w.alloc (.cells #[.string d.name, .slice d.pa d.deps.length d.pc, .slice d.oa d.ops.length d.oc] 25)).alloc (.cells #[.int .i64 0] 29)).alloc (.cells #[.bool false] 4)).heap.size = w.heap.size + 3 := by rw [allocSize, allocSize, allocSize]
  generalize ((w.alloc (.cells #[.string d.name, .slice d.pa d.deps.length d.pc, .slice d.oa d.ops.length d.oc] 25)).alloc (.cells #[.int .i64 0] 29)).alloc (.cells #[.bool false] 4) = w1 at hx1 hx2 hx3 hb1 hs1 ⊢
  refine wp_region_go 5 3 15 (by kernel_rfl) ?ok ?forced rfl (AV4 d B (w.heap.size + 3)) (fun W => Below w1.heap.size w1 W) (fun W W' => Below W.heap.size W W') (fun _ _ _ _ h hv => hv.below h) (belowDrew1 _) ?step ?fin
  case ok => kernel_rfl
  case forced => kernel_rfl
  case step =>
    intro i o hi ho L a W hpre hF hJ hV K hK
    have s0 : a.tmps[0]? = some (.iface 33 (hookV B)) := hF.at (by kernel_rfl) rfl
    have s3 : a.tmps[3]? = some (.pointer (some ⟨w.heap.size, 0, none⟩)) := hF.at (by kernel_rfl) rfl
    have hbW := (hJ.block w.heap.size (by omega)).trans hx1
    have c0 : W.cell? ⟨w.heap.size, 0, none⟩ = some (.string d.name) := by simp [World.cell?, hbW]
    have c1 : W.cell? ⟨w.heap.size, 1, none⟩ = some (.slice d.pa d.deps.length d.pc) := by simp [World.cell?, hbW]
    have c2 : W.cell? ⟨w.heap.size, 2, none⟩ = some (.slice d.oa d.ops.length d.oc) := by simp [World.cell?, hbW]
    have hBW := belowTrans hb1 hJ
    match i, hi with
    | 0, _ =>
      simp only [List.getElem?_toArray, List.getElem?_cons_zero, Option.some.injEq] at ho
      subst ho
      refine rg_val (v := .iface 33 (hookV B)) ?_ (hK _ _ (Below.refl _ _) rfl hJ)
      simp [execOp, Act.eval, go_sem, s0]
    | 1, _ =>
      simp only [List.getElem?_toArray, List.getElem?_cons_succ, List.getElem?_cons_zero, Option.some.injEq] at ho
      subst ho
      refine rg_val (v := .agg #[.string d.name, .slice d.pa d.deps.length d.pc, .slice d.oa d.ops.length d.oc]) ?_ (hK _ _ (Below.refl _ _) rfl hJ)
      simp [execOp, Act.eval, go_sem, s3, c0, c1, c2]
    | 2, _ =>
      simp only [List.getElem?_toArray, List.getElem?_cons_succ, List.getElem?_cons_zero, Option.some.injEq] at ho
      subst ho
      have s10 := hF.slot (i := 1) rfl (by simp) (hV 1 (hpre ⟨1, .data⟩ (by simp) rfl))
      refine rg_enter (f := 18) (args := #[.agg #[.string d.name, .slice d.pa d.deps.length d.pc, .slice d.oa d.ops.length d.oc]]) (w' := W) ?_ (copy_light d W (h1.below hBW) (h2.below hBW) hl) ?_ ?_ ?_
      · simp [Act.eval, go_sem, s10]
      · rintro v w'' ⟨⟨pa', pc', oa', oc', us, e, r1, r2⟩, hb⟩
        cases e
        exact hK _ _ hb ⟨pa', pc', oa', oc', us, rfl, ownsRow_base r1 (by have := hJ.size; omega), ownsRow_base r2 (by have := hJ.size; omega)⟩ (belowTrans hJ hb)
      · rintro chain w'' ⟨⟨pa', pc', oa', oc', us, e, _⟩, _⟩
        cases e
      · rintro w'' ⟨⟨pa', pc', oa', oc', us, e, _⟩, _⟩
        cases e
    | 3, _ =>
      simp only [List.getElem?_toArray, List.getElem?_cons_succ, List.getElem?_cons_zero, Option.some.injEq] at ho
      subst ho
      have s9 := hF.slot (i := 0) rfl (by simp) (hV 0 (hpre ⟨0, .data⟩ (by simp) rfl))
      refine rg_val (v := .iface 33 (hookV B)) ?_ (hK _ _ (Below.refl _ _) trivial hJ)
      simp [execOp, Act.eval, go_sem, s9]
    | 4, _ =>
      simp only [List.getElem?_toArray, List.getElem?_cons_succ, List.getElem?_cons_zero, Option.some.injEq] at ho
      subst ho
      have s9 := hF.slot (i := 0) rfl (by simp) (hV 0 (hpre ⟨0, .data⟩ (by simp) rfl))
      refine rg_val (v := .iface 33 (hookV B)) ?_ (hK _ _ (Below.refl _ _) rfl hJ)
      simp [execOp, Act.eval, go_sem, s9]
  case fin =>
    intro a W hF hJ hV
    obtain ⟨pa', pc', oa', oc', us, e2, r1, r2⟩ := hV 2 (by omega)
    have e4 := hV 4 (by omega)
    rw [show slOf _ a 2 = a.tmps.getD 11 undef from rfl] at e2
    have e4' : a.tmps.getD 13 undef = .iface 33 (hookV B) := e4
    rw [hF.lit [9, 10, 11, 12, 13, 14] (by kernel_rfl)]
    simp only [relaid, List.foldl_cons, List.foldl_nil, e2, e4']
    generalize a.tmps.getD 9 undef = y9
    generalize a.tmps.getD 10 undef = y10
    generalize a.tmps.getD 12 undef = y12
    generalize a.tmps.getD 14 undef = y14
    simp only [List.setIfInBounds_toArray, List.set_cons_succ, List.set_cons_zero, List.drop_succ_cons, List.drop_zero]
    clear hV hF e2 e4 e4'
    have hB0 : Below w.heap.size w W := belowTrans hb1 hJ
    have hcW : W.cell? ⟨B, 0, none⟩ = some (.int .i64 n) := (hB0.cell hB).trans hc
    have hJs := hJ.size
    have hcall := func_Ask (w.heap.size + 3) B n d.name pa' d.deps.length pc' oa' d.ops.length oc' W (by omega) (by omega) hcW ⟨_, r1⟩ ⟨_, r2⟩ (by have := hl.1; omega) (by have := hl.2.1; omega)
    have hmeth := method_Ask
    have z2 : ∀ w2, Below (w.heap.size + 3) W w2 → w2.heap[w.heap.size + 1]? = some (.cells #[.int .i64 0] 29 (0, 0)) ∧ w2.heap[w.heap.size + 1 + 1]? = some (.cells #[.bool false] 4 (0, 0)) := fun w2 h => ⟨(h.block _ (by omega)).trans ((hJ.block _ (by omega)).trans hx2), (h.block _ (by omega)).trans ((hJ.block _ (by omega)).trans hx3)⟩
    by_cases hn : 0 ≤ n ∧ n ≤ 18
    · have he : toldE n = n := by unfold toldE; rw [if_pos hn]
      have hq : toldB n = false := by unfold toldB; rw [decide_eq_true hn]; rfl
      have hcall2 := hcall.mono fun e w' (h : HookEnds n e ∧ Below (w.heap.size + 3) W w') => (show e = .returned (.int .i64 n) ∧ Below (w.heap.size + 3) W w' from ⟨by have := h.1; unfold HookEnds at this; rwa [if_pos hn] at this, h.2⟩)

      clear hcall
      go_wp2_with (go_at_call 492; refine hcall2.mono ?_; rintro e w2 ⟨rfl, hb2⟩; obtain ⟨y1, y2⟩ := z2 w2 hb2; have k1 : w2.cell? ⟨w.heap.size + 1, 0, none⟩ = some (.int .i64 0) := (by simp [World.cell?, y1]); have k2 : w2.cell? ⟨w.heap.size + 1 + 1, 0, none⟩ = some (.bool false) := (by simp [World.cell?, y2]); have f1 := frozen_of_row w2 (w.heap.size + 1) 0 _ _ y1; have f2 := frozen_of_row w2 (w.heap.size + 1 + 1) 0 _ _ y2)
      refine leaves_cons (f := 16) (args := #[.pointer (some ⟨w.heap.size + 1, 0, none⟩), .pointer (some ⟨w.heap.size + 1 + 1, 0, none⟩)]) (by simp) (by simp [go_sem]) ?_
      refine (ask_idle _ _ _).mono ?_
      rintro e u' w'' ⟨rfl, rfl, rfl⟩
      have t1 := setCell_block (i := 0) (.int .i64 n) y1
      have t2 : (w2.setCell ⟨w.heap.size + 1, 0, none⟩ (.int .i64 n)).heap[w.heap.size + 1 + 1]? = _ := (Below.heap_setCell _ _ _ _ (by show _ ≠ w.heap.size + 1; omega)).trans y2
      have t3 := setCell_block (i := 0) (.bool false) t2
      have t4 : ((w2.setCell ⟨w.heap.size + 1, 0, none⟩ (.int .i64 n)).setCell ⟨w.heap.size + 1 + 1, 0, none⟩ (.bool false)).heap[w.heap.size + 1]? = _ := (Below.heap_setCell _ _ _ _ (by show _ ≠ w.heap.size + 1 + 1; omega)).trans t1
      have g1 : ((w2.setCell ⟨w.heap.size + 1, 0, none⟩ (.int .i64 n)).setCell ⟨w.heap.size + 1 + 1, 0, none⟩ (.bool false)).cell? ⟨w.heap.size + 1, 0, none⟩ = some (.int .i64 n) := by simp [World.cell?, t4]
      have g2 : ((w2.setCell ⟨w.heap.size + 1, 0, none⟩ (.int .i64 n)).setCell ⟨w.heap.size + 1 + 1, 0, none⟩ (.bool false)).cell? ⟨w.heap.size + 1 + 1, 0, none⟩ = some (.bool false) := by simp [World.cell?, t3]
      have hfin : Below w.heap.size w ((w2.setCell ⟨w.heap.size + 1, 0, none⟩ (.int .i64 n)).setCell ⟨w.heap.size + 1 + 1, 0, none⟩ (.bool false)) := ((Below.trans hB0 (hb2.mono (by omega))).setCell (by show _ ≤ w.heap.size + 1; omega) _).setCell (by show _ ≤ w.heap.size + 1 + 1; omega) _
      generalize (w2.setCell ⟨w.heap.size + 1, 0, none⟩ (.int .i64 n)).setCell ⟨w.heap.size + 1 + 1, 0, none⟩ (.bool false) = wf at g1 g2 hfin ⊢
      refine ⟨.tuple #[.int .i64 n, .bool false], ?_, by rw [he, hq], hfin⟩
      simp [results, Tryz.results8, go_sem, g1, g2]
    · have hq : toldB n = true := by unfold toldB; rw [decide_eq_false hn]; rfl
      have hcall2 := hcall.mono fun e w' (h : HookEnds n e ∧ Below (w.heap.size + 3) W w') => (show (∃ T v, ErrK T v (toldE n) ∧ e = .panicked [{ v := .iface T v, recovered := false }]) ∧ Below (w.heap.size + 3) W w' from ⟨by have := h.1; unfold HookEnds at this; rwa [if_neg hn] at this, h.2⟩)
      clear hcall
      go_wp2_with (go_at_call 492; refine hcall2.mono ?_; rintro e w2 ⟨⟨T, v, hk, rfl⟩, hb2⟩)
      obtain ⟨y1, y2⟩ := z2 w2 hb2
      have k1 : w2.cell? ⟨w.heap.size + 1, 0, none⟩ = some (.int .i64 0) := by simp [World.cell?, y1]
      have k2 : w2.cell? ⟨w.heap.size + 1 + 1, 0, none⟩ = some (.bool false) := by simp [World.cell?, y2]
      have f1 := frozen_of_row w2 (w.heap.size + 1) 0 _ _ y1
      have f2 := frozen_of_row w2 (w.heap.size + 1 + 1) 0 _ _ y2
      refine leaves_cons (f := 16) (args := #[.pointer (some ⟨w.heap.size + 1, 0, none⟩), .pointer (some ⟨w.heap.size + 1 + 1, 0, none⟩)]) (by simp) (by simp [go_sem]) ?_
      refine (ask_caught ⟨w.heap.size + 1, 0, none⟩ ⟨w.heap.size + 1 + 1, 0, none⟩ _ _ T v (toldE n) [] w2 hk k1 k2 f1 f2 (fun e => by have := congrArg Addr.block e; simp only at this; omega)).mono ?_
      rintro e u' w'' ⟨rfl, rfl, rfl⟩
      have t1 := setCell_block (i := 0) (.int .i64 (toldE n)) y1
      have t2 : (w2.setCell ⟨w.heap.size + 1, 0, none⟩ (.int .i64 (toldE n))).heap[w.heap.size + 1 + 1]? = _ := (Below.heap_setCell _ _ _ _ (by show _ ≠ w.heap.size + 1; omega)).trans y2
      have t3 := setCell_block (i := 0) (.bool true) t2
      have t4 : ((w2.setCell ⟨w.heap.size + 1, 0, none⟩ (.int .i64 (toldE n))).setCell ⟨w.heap.size + 1 + 1, 0, none⟩ (.bool true)).heap[w.heap.size + 1]? = _ := (Below.heap_setCell _ _ _ _ (by show _ ≠ w.heap.size + 1 + 1; omega)).trans t1
      have g1 : ((w2.setCell ⟨w.heap.size + 1, 0, none⟩ (.int .i64 (toldE n))).setCell ⟨w.heap.size + 1 + 1, 0, none⟩ (.bool true)).cell? ⟨w.heap.size + 1, 0, none⟩ = some (.int .i64 (toldE n)) := by simp [World.cell?, t4]
      have g2 : ((w2.setCell ⟨w.heap.size + 1, 0, none⟩ (.int .i64 (toldE n))).setCell ⟨w.heap.size + 1 + 1, 0, none⟩ (.bool true)).cell? ⟨w.heap.size + 1 + 1, 0, none⟩ = some (.bool true) := by simp [World.cell?, t3]
      have hfin : Below w.heap.size w ((w2.setCell ⟨w.heap.size + 1, 0, none⟩ (.int .i64 (toldE n))).setCell ⟨w.heap.size + 1 + 1, 0, none⟩ (.bool true)) := ((Below.trans hB0 (hb2.mono (by omega))).setCell (by show _ ≤ w.heap.size + 1; omega) _).setCell (by show _ ≤ w.heap.size + 1 + 1; omega) _
      generalize (w2.setCell ⟨w.heap.size + 1, 0, none⟩ (.int .i64 (toldE n))).setCell ⟨w.heap.size + 1 + 1, 0, none⟩ (.bool true) = wf at g1 g2 hfin ⊢
      show Leaves _ _ _ _ [] (settle _) wf
      simp only [settle, List.dropWhile_nil]
      refine ⟨.tuple #[.int .i64 (toldE n), .bool true], ?_, by rw [hq], hfin⟩
      simp [results, Tryz.results8, go_sem, g1, g2]
end Go.Proofs.W
