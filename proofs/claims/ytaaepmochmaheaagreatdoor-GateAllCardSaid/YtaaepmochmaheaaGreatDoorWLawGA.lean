/- A PART OF THE PROOF THAT SHOWS THAT EACH OF rafterlaw44.GateAsk AND rafterlaw44.GateAll RETURNS TRUE FOR EVERY INPUT. No condition beyond the given statement. This part: WLawGA. -/
import Derived.Test.YtaaepmochmaheaaGreatDoorWCopied
import Derived.Test.YtaaepmochmaheaaGreatDoorWAwG
namespace Go.Proofs.W
open Go Go.Proofs Go.RowKit
set_option maxRecDepth 1000000

def GV (d : PatchV) (n : Int) (i : Nat) (v : Value) (w : World) : Prop := match i with
  | 0 => v = .int .i64 n
  | 1 => ∃ B, v = hookV B ∧ B < w.heap.size ∧ w.cell? ⟨B, 0, none⟩ = some (.int .i64 n)
  | 2 => ∃ B, v = .iface 33 (hookV B) ∧ B < w.heap.size ∧ w.cell? ⟨B, 0, none⟩ = some (.int .i64 n)
  | 3 => v = .agg #[.string d.name, .slice d.pa d.deps.length d.pc, .slice d.oa d.ops.length d.oc]
  | 4 | 5 => v = .tuple #[.int .i64 (toldE n), .bool (toldB n)]
  | 6 | 8 => v = .int .i64 (toldE n)
  | 7 | 9 => v = .bool (toldB n)
  | _ => True

theorem GV.below {d : PatchV} {n : Int} {i : Nat} {v : Value} {w w' : World} (h : Below w.heap.size w w') (hv : GV d n i v w) : GV d n i v w' := by
  unfold GV at hv ⊢
  split at hv
  any_goals exact hv
  · obtain ⟨B, e, hB, hc⟩ := hv
    exact ⟨B, e, Nat.lt_of_lt_of_le hB h.size, (h.cell (p := ⟨B, 0, none⟩) hB).trans hc⟩
  · obtain ⟨B, e, hB, hc⟩ := hv
    exact ⟨B, e, Nat.lt_of_lt_of_le hB h.size, (h.cell (p := ⟨B, 0, none⟩) hB).trans hc⟩

set_option maxHeartbeats 8000000 in
theorem law_GateAsk (d : PatchV) (n : Int) (w : World) (h1 : TextsH w d.pa d.deps) (h2 : OpsH w d.oa d.ops) (hl1 : d.deps.length < 9223372036854775808) (hl2 : d.ops.length < 9223372036854775808) :
    Calls Tryz.prog 3 #[.agg #[.string d.name, .slice d.pa d.deps.length d.pc, .slice d.oa d.ops.length d.oc], .int .i64 n] w fun e w' => e = .returned (.bool true) ∧ Below w.heap.size w w' := by
  have hA := belowAlloc w (.cells #[.string d.name, .slice d.pa d.deps.length d.pc, .slice d.oa d.ops.length d.oc] 25)
  have hbx := (MapKept.heap_alloc w (.cells #[.string d.name, .slice d.pa d.deps.length d.pc, .slice d.oa d.ops.length d.oc] 25)).1
  go_enter Tryz.func3, Tryz.ntmps3
  go_wp2_with fail
  refine (L13_Light d _ (h1.below hA) (h2.below hA) hl1 hl2).mono ?_
  rintro e w1 ⟨⟨t, rfl, ht⟩, hb1⟩
  have hB1 := belowTrans hA hb1
  cases t with
  | false =>
    go_wp2_with fail
    refine (gate_awake w1).mono ?_
    rintro e w2 ⟨rfl, hb2⟩
    go_wp2
    go_ret
    exact ⟨rfl, belowTrans hB1 hb2⟩
  | true =>
    have hl := ht rfl
    have hbW := (hb1.block w.heap.size (by rw [allocSize]; omega)).trans hbx
    have q0 : w1.cell? ⟨w.heap.size, 0, none⟩ = some (.string d.name) := by simp [World.cell?, hbW]
    have q1 : w1.cell? ⟨w.heap.size, 1, none⟩ = some (.slice d.pa d.deps.length d.pc) := by simp [World.cell?, hbW]
    have q2 : w1.cell? ⟨w.heap.size, 2, none⟩ = some (.slice d.oa d.ops.length d.oc) := by simp [World.cell?, hbW]
    go_wp2_with fail
    refine (law_copied d w1 (h1.below hB1) (h2.below hB1) hl).mono ?_
    rintro e w2 ⟨⟨f, rfl, hs, k1, k2⟩, hb2⟩
    have hB2 := belowTrans hB1 hb2
    clear q0 q1 q2
    go_wp2_with fail
    have hA3 := belowAlloc w2 (.cells #[.string f.name, .slice f.pa f.deps.length f.pc, .slice f.oa f.ops.length f.oc] 25)
    have hf3 := (MapKept.heap_alloc w2 (.cells #[.string f.name, .slice f.pa f.deps.length f.pc, .slice f.oa f.ops.length f.oc] 25)).1
    have hz3 : (w2.alloc (.cells #[.string f.name, .slice f.pa f.deps.length f.pc, .slice f.oa f.ops.length f.oc] 25)).heap.size = w2.heap.size + 1 := allocSize _ _
    have hws := hB1.size
    have hws2 := hb2.size
    have hw0 : w.heap.size < w1.heap.size := by have := hb1.size; rw [allocSize] at this; omega
    have hbx3 := (hA3.block w.heap.size (by omega)).trans ((hb2.block w.heap.size hw0).trans hbW)
    generalize w2.alloc (.cells #[.string f.name, .slice f.pa f.deps.length f.pc, .slice f.oa f.ops.length f.oc] 25) = w3 at hA3 hf3 hz3 hbx3 ⊢
    have hB3 := belowTrans hB2 hA3
    refine wp_region_go 10 3 45 (by kernel_rfl) ?ok ?forced rfl (GV d n) (fun W => Below w3.heap.size w3 W) (fun W W' => Below W.heap.size W W') (fun _ _ _ _ h hv => hv.below h) (belowDrew1 _) ?step ?fin
    case ok => kernel_rfl
    case forced => kernel_rfl
    case step =>
      intro i o hi ho L a W hpre hF hJ hV K hK
      have s1 : a.tmps[1]? = some (.int .i64 n) := hF.at (by kernel_rfl) rfl
      have s2 : a.tmps[2]? = some (.pointer (some ⟨w.heap.size, 0, none⟩)) := hF.at (by kernel_rfl) rfl
      have hbW3 := (hJ.block w.heap.size (by omega)).trans hbx3
      have c0 : W.cell? ⟨w.heap.size, 0, none⟩ = some (.string d.name) := by simp [World.cell?, hbW3]
      have c1 : W.cell? ⟨w.heap.size, 1, none⟩ = some (.slice d.pa d.deps.length d.pc) := by simp [World.cell?, hbW3]
      have c2 : W.cell? ⟨w.heap.size, 2, none⟩ = some (.slice d.oa d.ops.length d.oc) := by simp [World.cell?, hbW3]
      have hBW := belowTrans hB3 hJ
      match i, hi with
      | 0, _ =>
        simp only [List.getElem?_toArray, List.getElem?_cons_zero, Option.some.injEq] at ho
        subst ho
        refine rg_val (v := .int .i64 n) ?_ (hK _ _ (Below.refl _ _) rfl hJ)
        simp [execOp, Act.eval, go_sem, s1]
      | 1, _ =>
        simp only [List.getElem?_toArray, List.getElem?_cons_succ, List.getElem?_cons_zero, Option.some.injEq] at ho
        subst ho
        have s17 := hF.slot (i := 0) rfl (by simp) (hV 0 (hpre ⟨0, .data⟩ (by simp) rfl))
        refine rg_enter (f := 9) (args := #[.int .i64 n]) (w' := W) ?_ (hook_at n W) ?_ ?_ ?_
        · simp [Act.eval, go_sem, s17]
        · rintro v w'' ⟨e, hb, hl3, hc⟩
          cases e
          exact hK _ _ hb ⟨_, rfl, hl3, hc⟩ (belowTrans hJ hb)
        · rintro chain w'' ⟨e, _⟩
          cases e
        · rintro w'' ⟨e, _⟩
          cases e
      | 2, _ =>
        simp only [List.getElem?_toArray, List.getElem?_cons_succ, List.getElem?_cons_zero, Option.some.injEq] at ho
        subst ho
        obtain ⟨B, e, hB, hc⟩ := hV 1 (hpre ⟨1, .data⟩ (by simp) rfl)
        have s18 := hF.slot (i := 1) rfl (by simp) e
        refine rg_val (v := .iface 33 (hookV B)) ?_ (hK _ _ (Below.refl _ _) ⟨B, rfl, hB, hc⟩ hJ)
        simp [execOp, Act.eval, go_sem, s18]
      | 3, _ =>
        simp only [List.getElem?_toArray, List.getElem?_cons_succ, List.getElem?_cons_zero, Option.some.injEq] at ho
        subst ho
        refine rg_val (v := .agg #[.string d.name, .slice d.pa d.deps.length d.pc, .slice d.oa d.ops.length d.oc]) ?_ (hK _ _ (Below.refl _ _) rfl hJ)
        simp [execOp, Act.eval, go_sem, s2, c0, c1, c2]
      | 4, _ =>
        simp only [List.getElem?_toArray, List.getElem?_cons_succ, List.getElem?_cons_zero, Option.some.injEq] at ho
        subst ho
        obtain ⟨B, e, hB, hc⟩ := hV 2 (hpre ⟨2, .data⟩ (by simp) rfl)
        have s19 := hF.slot (i := 2) rfl (by simp) e
        have s20 := hF.slot (i := 3) rfl (by simp) (hV 3 (hpre ⟨3, .data⟩ (by simp) rfl))
        refine rg_enter (f := 8) (args := #[.iface 33 (hookV B), .agg #[.string d.name, .slice d.pa d.deps.length d.pc, .slice d.oa d.ops.length d.oc]]) (w' := W) ?_ (gate_Ask d B n W hB hc (h1.below hBW) (h2.below hBW) hl) ?_ ?_ ?_
        · simp [Act.eval, go_sem, s19, s20]
        · rintro v w'' ⟨e, hb⟩
          cases e
          exact hK _ _ hb rfl (belowTrans hJ hb)
        · rintro chain w'' ⟨e, _⟩
          cases e
        · rintro w'' ⟨e, _⟩
          cases e
      | 5, _ =>
        simp only [List.getElem?_toArray, List.getElem?_cons_succ, List.getElem?_cons_zero, Option.some.injEq] at ho
        subst ho
        have sx := hF.slot (i := 4) rfl (by simp) (hV 4 (hpre ⟨4, .data⟩ (by simp) rfl))
        refine rg_val (v := .tuple #[.int .i64 (toldE n), .bool (toldB n)]) ?_ (hK _ _ (Below.refl _ _) rfl hJ)
        simp [execOp, Act.eval, go_sem, sx]
      | 6, _ =>
        simp only [List.getElem?_toArray, List.getElem?_cons_succ, List.getElem?_cons_zero, Option.some.injEq] at ho
        subst ho
        have sx := hF.slot (i := 5) rfl (by simp) (hV 5 (hpre ⟨5, .data⟩ (by simp) rfl))
        refine rg_val (v := .int .i64 (toldE n)) ?_ (hK _ _ (Below.refl _ _) rfl hJ)
        simp [execOp, Act.eval, go_sem, sx]
      | 7, _ =>
        simp only [List.getElem?_toArray, List.getElem?_cons_succ, List.getElem?_cons_zero, Option.some.injEq] at ho
        subst ho
        have sx := hF.slot (i := 5) rfl (by simp) (hV 5 (hpre ⟨5, .data⟩ (by simp) rfl))
        refine rg_val (v := .bool (toldB n)) ?_ (hK _ _ (Below.refl _ _) rfl hJ)
        simp [execOp, Act.eval, go_sem, sx]
      | 8, _ =>
        simp only [List.getElem?_toArray, List.getElem?_cons_succ, List.getElem?_cons_zero, Option.some.injEq] at ho
        subst ho
        have sx := hF.slot (i := 6) rfl (by simp) (hV 6 (hpre ⟨6, .data⟩ (by simp) rfl))
        refine rg_val (v := .int .i64 (toldE n)) ?_ (hK _ _ (Below.refl _ _) rfl hJ)
        simp [execOp, Act.eval, go_sem, sx]
      | 9, _ =>
        simp only [List.getElem?_toArray, List.getElem?_cons_succ, List.getElem?_cons_zero, Option.some.injEq] at ho
        subst ho
        have sx := hF.slot (i := 7) rfl (by simp) (hV 7 (hpre ⟨7, .data⟩ (by simp) rfl))
        refine rg_val (v := .bool (toldB n)) ?_ (hK _ _ (Below.refl _ _) rfl hJ)
        simp [execOp, Act.eval, go_sem, sx]
    case fin =>
      intro a W hF hJ hV
      have e8 : a.tmps.getD 6 undef = .int .i64 (toldE n) := hV 8 (by omega)
      have e9 : a.tmps.getD 7 undef = .bool (toldB n) := hV 9 (by omega)
      rw [hF.lit [17, 18, 19, 20, 21, 16, 22, 23, 6, 7] (by kernel_rfl)]
      simp only [relaid, List.foldl_cons, List.foldl_nil, e8, e9]
      generalize a.tmps.getD 16 undef = y16
      generalize a.tmps.getD 17 undef = y17
      generalize a.tmps.getD 18 undef = y18
      generalize a.tmps.getD 19 undef = y19
      generalize a.tmps.getD 20 undef = y20
      generalize a.tmps.getD 21 undef = y21
      generalize a.tmps.getD 22 undef = y22
      generalize a.tmps.getD 23 undef = y23
      simp only [List.setIfInBounds_toArray, List.set_cons_succ, List.set_cons_zero, List.drop_succ_cons, List.drop_nil]
      clear hV hF e8 e9
      have hd4 := (hJ.block w.heap.size (by omega)).trans hbx3
      have hf4 := (hJ.block w2.heap.size (by omega)).trans hf3
      have hJs := hJ.size
      have hBW := belowTrans hB3 hJ
      go_wp2_with fail
      refine (R44_Told n W).mono ?_
      rintro e w5 ⟨rfl, rfl⟩
      go_wp2_with fail
      refine (gate_awake w5).mono ?_
      rintro e w6 ⟨rfl, hb6⟩
      have hd6 := (hb6.block w.heap.size (by omega)).trans hd4
      have hf6 := (hb6.block w2.heap.size (by omega)).trans hf4
      have c0 : w6.cell? ⟨w.heap.size, 0, none⟩ = some (.string d.name) := by simp [World.cell?, hd6]
      have c1 : w6.cell? ⟨w.heap.size, 1, none⟩ = some (.slice d.pa d.deps.length d.pc) := by simp [World.cell?, hd6]
      have c2 : w6.cell? ⟨w.heap.size, 2, none⟩ = some (.slice d.oa d.ops.length d.oc) := by simp [World.cell?, hd6]
      have f0 : w6.cell? ⟨w2.heap.size, 0, none⟩ = some (.string f.name) := by simp [World.cell?, hf6]
      have f1 : w6.cell? ⟨w2.heap.size, 1, none⟩ = some (.slice f.pa f.deps.length f.pc) := by simp [World.cell?, hf6]
      have f2 : w6.cell? ⟨w2.heap.size, 2, none⟩ = some (.slice f.oa f.ops.length f.oc) := by simp [World.cell?, hf6]
      have hB6 := belowTrans hBW hb6
      go_wp2_with fail
      refine (R13_same d f w6 (h1.below hB6) (h2.below hB6) (k1.below (belowTrans hA3 (belowTrans hJ hb6))) (k2.below (belowTrans hA3 (belowTrans hJ hb6))) hs hl1 hl2).mono ?_
      rintro e w7 ⟨rfl, hb7⟩
      go_wp2
      go_ret
      exact ⟨rfl, belowTrans hB6 hb7⟩
end Go.Proofs.W
