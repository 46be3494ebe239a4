/- A PART OF THE PROOF THAT SHOWS THAT EACH OF rafterlaw44.GateAsk AND rafterlaw44.GateAll RETURNS TRUE FOR EVERY INPUT. No condition beyond the given statement. This part: WCopied. -/
import Derived.Test.YtaaepmochmaheaaGreatDoorWCopy
import Derived.Test.YtaaepmochmaheaaGreatDoorWSameP
namespace Go.Proofs.W
open Go Go.Proofs Go.RowKit
set_option maxRecDepth 1000000

/-- an operation whose rows are one's own -/
structure OpOwn (b0 : Nat) (w : World) (y : OpV) : Prop where
  dels : w.ownsRow b0 50 2 (.slice y.da y.dels.length y.dc) y.dels.length (y.dels.flatMap idCells)
  lines : w.ownsRow b0 9 1 (.slice y.la y.lines.length y.lc) y.lines.length (y.lines.map Value.string)
structure CopiedMem (d : PatchV) (b0 B : Nat) (pa : Option Addr) (pc : Nat) (i : Nat) (w0 w : World) : Prop where
  below : Below b0 w0 w
  box : w.heap[b0]? = some (.cells #[.string d.name, .slice d.pa d.deps.length d.pc, .slice d.oa d.ops.length d.oc] 25 (0, 0))
  res : w.heap[b0 + 1]? = some (.cells #[.string ⟨#[]⟩, .slice none 0 0, .slice none 0 0] 25 (0, 0))
  deps : w.ownsRow b0 9 1 (.slice pa d.deps.length pc) d.deps.length (d.deps.map Value.string)
  out : ∃ oa oc ys, w.heap[B]? = some (.cells #[.string d.name, .slice pa d.deps.length pc, .slice oa i oc] 25 (0, 0)) ∧ w.ownsRow b0 53 16 (.slice oa i oc) i (ys.flatMap OpV.cells) ∧ OpsSame (d.ops.take i) ys ∧ ∀ (j : Nat) y, ys[j]? = some y → OpOwn b0 w y

theorem flatMap_at {α : Type} (f : α → List Value) (L : Nat) (hL : ∀ x, (f x).length = L) : ∀ (xs : List α) (j r : Nat) (x : α), xs[j]? = some x → r < L → (xs.flatMap f)[j * L + r]? = (f x)[r]?
  | y :: ys, 0, r, x, h, hr => by
    obtain rfl := Option.some.inj h
    rw [List.flatMap_cons, Nat.zero_mul, Nat.zero_add, List.getElem?_append_left (by rw [hL]; exact hr)]
  | y :: ys, j + 1, r, x, h, hr => by
    have h' : ys[j]? = some x := by simpa using h
    rw [List.flatMap_cons, List.getElem?_append_right (by rw [hL, Nat.add_mul]; omega), hL, show (j + 1) * L + r - L = j * L + r by rw [Nat.add_mul]; omega]
    exact flatMap_at f L hL ys j r x h' hr
theorem textsH_own {w : World} {b : Nat} {a : Option Addr} {c : Nat} {xs : List ByteArray} (h : w.ownsRow b 9 1 (.slice a xs.length c) xs.length (xs.map Value.string)) : TextsH w a xs := by
  rcases h.2 with ⟨_, h0⟩ | ⟨g, cap, cur, e, _, hh, _⟩
  · exact .inl h0
  · cases e
    refine .inr ⟨g, 0, rfl, (Array.getElem?_eq_some_iff.1 hh).1, fun j x hj => ?_⟩
    have hjl := (List.getElem?_eq_some_iff.1 hj).1
    rw [Nat.zero_add, h.cellAt j (by omega)]
    simp [hj]
theorem idsH_own {w : World} {b : Nat} {a : Option Addr} {c : Nat} {xs : List Idv} (h : w.ownsRow b 50 2 (.slice a xs.length c) xs.length (xs.flatMap idCells)) : IdsH w a xs := by
  rcases h.2 with ⟨_, h0⟩ | ⟨g, cap, cur, e, _, hh, _⟩
  · exact .inl h0
  · cases e
    refine .inr ⟨g, 0, rfl, (Array.getElem?_eq_some_iff.1 hh).1, fun j x hj => ?_⟩
    have hjl := (List.getElem?_eq_some_iff.1 hj).1
    rw [Nat.zero_add, h.cellAt (j * 2) (by omega), h.cellAt (j * 2 + 1) (by omega)]
    exact ⟨flatMap_at idCells 2 (fun _ => rfl) xs j 0 x hj (by decide), flatMap_at idCells 2 (fun _ => rfl) xs j 1 x hj (by decide)⟩
theorem opsH_own {w : World} {b : Nat} {a : Option Addr} {c : Nat} {xs : List OpV} (h : w.ownsRow b 53 16 (.slice a xs.length c) xs.length (xs.flatMap OpV.cells)) (hs : ∀ (j : Nat) y, xs[j]? = some y → OpOwn b w y)
    (hl : ∀ (j : Nat) y, xs[j]? = some y → y.dels.length < 9223372036854775808 ∧ y.lines.length < 9223372036854775808) : OpsH w a xs := by
  rcases h.2 with ⟨_, h0⟩ | ⟨g, cap, cur, e, _, hh, _⟩
  · exact .inl h0
  · cases e
    refine .inr ⟨g, 0, rfl, (Array.getElem?_eq_some_iff.1 hh).1, fun j x hj => ?_, fun j y hy => ⟨idsH_own (hs j y hy).dels, textsH_own (hs j y hy).lines, hl j y hy⟩⟩
    have hjl := (List.getElem?_eq_some_iff.1 hj).1
    have hc : ∀ r, r < 16 → w.cell? ⟨g, 0 + j * 16 + r, none⟩ = x.cells[r]? := fun r hr => by
      rw [Nat.zero_add, h.cellAt (j * 16 + r) (by omega)]
      exact flatMap_at OpV.cells 16 (fun _ => rfl) xs j r x hj hr
    exact ⟨hc 0 (by decide), hc 1 (by decide), hc 2 (by decide), hc 3 (by decide), hc 4 (by decide), hc 5 (by decide), hc 6 (by decide), hc 7 (by decide), hc 8 (by decide), hc 9 (by decide), hc 10 (by decide), hc 11 (by decide), hc 12 (by decide), hc 13 (by decide), hc 14 (by decide), hc 15 (by decide)⟩
theorem kept_other {w w' : World} {b b2 : Nat} {e e2 : TypeId} {sz sz2 : Nat} {v v2 : Value} {n n2 : Nat} {xs xs2 : List Value} (h : w.ownsRow b e sz v n xs) (hr : w.ownsRow b2 e2 sz2 v2 n2 xs2) (hne : e ≠ e2) (hg : w.grownBy w' v2.ownBlock) : w'.ownsRow b e sz v n xs := by
  refine h.kept hg ?_
  by_cases he : v.ownBlock = none
  · exact .inl he
  · refine .inr fun e' => ?_
    rcases hr.2 with ⟨h0, _⟩ | ⟨g2, cap2, cur2, h0, _, hh2, _⟩
    · rw [h0] at e'; exact he e'
    · exact row_other h hh2 hne (by rw [e', h0]; rfl)

def DV1 (d : PatchV) (b0 : Nat) (i : Nat) (v : Value) (w : World) : Prop := match i with
  | 0 => v = .pointer (some ⟨b0, 0, none⟩)
  | 1 => v = .string d.name
  | 2 => ∃ g, v = .slice (some ⟨g, 0, none⟩) 0 0 ∧ w.ownsRow b0 9 1 (.slice (some ⟨g, 0, none⟩) 0 0) 0 []
  | 3 => v = .pointer (some ⟨b0, 1, none⟩)
  | 4 => v = .slice d.pa d.deps.length d.pc
  | 5 => ∃ a' c', v = .slice a' d.deps.length c' ∧ w.ownsRow b0 9 1 (.slice a' d.deps.length c') d.deps.length (d.deps.map Value.string)
  | 6 => ∃ a' c', v = .agg #[.string d.name, .slice a' d.deps.length c', .slice none 0 0] ∧ w.ownsRow b0 9 1 (.slice a' d.deps.length c') d.deps.length (d.deps.map Value.string)
  | 7 => ∃ B, v = .pointer (some ⟨B, 0, none⟩) ∧ b0 + 2 ≤ B ∧ w.heap[B]? = some (.cells #[.string ⟨#[]⟩, .slice none 0 0, .slice none 0 0] 25 (0, 0))
  | _ => True
theorem DV1.below {d : PatchV} {b0 i : Nat} {v : Value} {w w' : World} (h : Below w.heap.size w w') (hv : DV1 d b0 i v w) : DV1 d b0 i v w' := by
  unfold DV1 at hv ⊢
  split at hv
  any_goals exact hv
  · obtain ⟨g, e, ho⟩ := hv
    exact ⟨g, e, ownsRow_below ho h⟩
  · obtain ⟨a', c', e, ho⟩ := hv
    exact ⟨a', c', e, ownsRow_below ho h⟩
  · obtain ⟨a', c', e, ho⟩ := hv
    exact ⟨a', c', e, ownsRow_below ho h⟩
  · obtain ⟨B, e, hB, hh⟩ := hv
    exact ⟨B, e, hB, (h.block B (Array.getElem?_eq_some_iff.1 hh).1).trans hh⟩

set_option maxHeartbeats 8000000 in
theorem law_copied (d : PatchV) (w : World) (h1 : TextsH w d.pa d.deps) (h2 : OpsH w d.oa d.ops) (hl : PatchLight d) :
    Calls Tryz.prog 7 #[.agg #[.string d.name, .slice d.pa d.deps.length d.pc, .slice d.oa d.ops.length d.oc]] w fun e w' => (∃ f : PatchV, e = .returned (.agg #[.string f.name, .slice f.pa f.deps.length f.pc, .slice f.oa f.ops.length f.oc]) ∧ PatchSame d f ∧ TextsH w' f.pa f.deps ∧ OpsH w' f.oa f.ops) ∧ Below w.heap.size w w' := by
  obtain ⟨io, hio, hz0, hz1, hz2⟩ := info_op
  obtain ⟨i9, hi9, hn0, hn1, hn2⟩ := info9
  obtain ⟨ii, hii, hi0, hi1, hi2⟩ := info_id
  have hlen : d.ops.length ≤ 1000000 := by have := hl.2.1; omega
  have hB1 := belowAlloc w (.cells #[.string d.name, .slice d.pa d.deps.length d.pc, .slice d.oa d.ops.length d.oc] 25)
  go_enter Tryz.func7, Tryz.ntmps7
  go_wp2
  generalize hw1 : (w.alloc _).alloc _ = w1
  have hb1 : Below w.heap.size w w1 := by rw [← hw1]; exact belowTrans hB1 (belowAlloc _ _)
  have hs1 : w1.heap.size = w.heap.size + 2 := by rw [← hw1, allocSize, allocSize]
  have hbox : w1.heap[w.heap.size]? = some (.cells #[.string d.name, .slice d.pa d.deps.length d.pc, .slice d.oa d.ops.length d.oc] 25 (0, 0)) := by
    rw [← hw1, Below.heap_alloc _ _ _ (by rw [allocSize]; omega)]
    exact (MapKept.heap_alloc w _).1
  refine wp_region_go 8 3 42 (by kernel_rfl) ?ok ?forced rfl (DV1 d w.heap.size) (fun W => Below w1.heap.size w1 W) (fun W W' => Below W.heap.size W W') (fun _ _ _ _ h hv => hv.below h) (belowDrew1 _) ?step ?fin
  case ok => kernel_rfl
  case forced => kernel_rfl
  case step =>
    intro i o hi ho L a W hpre hF hJ hV K hK
    have s1 : a.tmps[1]? = some (.pointer (some ⟨w.heap.size, 0, none⟩)) := hF.at (by kernel_rfl) rfl
    have hbW := (hJ.block w.heap.size (by omega)).trans hbox
    have c0 : W.cell? ⟨w.heap.size, 0, none⟩ = some (.string d.name) := by simp [World.cell?, hbW]
    have c1 : W.cell? ⟨w.heap.size, 1, none⟩ = some (.slice d.pa d.deps.length d.pc) := by simp [World.cell?, hbW]
    have hJs := hJ.size
    match i, hi with
    | 0, _ =>
      simp only [List.getElem?_toArray, List.getElem?_cons_zero, Option.some.injEq] at ho
      subst ho
      refine rg_val (v := .pointer (some ⟨w.heap.size, 0, none⟩)) ?_ (hK _ _ (Below.refl _ _) rfl hJ)
      simp [execOp, Act.eval, go_sem, s1]
    | 1, _ =>
      simp only [List.getElem?_toArray, List.getElem?_cons_succ, List.getElem?_cons_zero, Option.some.injEq] at ho
      subst ho
      have s6 := hF.slot (i := 0) rfl (by simp) (hV 0 (hpre ⟨0, .data⟩ (by simp) rfl))
      refine rg_val (v := .string d.name) ?_ (hK _ _ (Below.refl _ _) rfl hJ)
      simp [execOp, Act.eval, go_sem, s6, c0]
    | 2, _ =>
      simp only [List.getElem?_toArray, List.getElem?_cons_succ, List.getElem?_cons_zero, Option.some.injEq] at ho
      subst ho
      refine rg_val (v := .slice (some ⟨W.heap.size, 0, none⟩) 0 0) (w' := W.alloc (.cells #[] 9)) ?_ (hK _ _ (belowAlloc _ _) ⟨_, rfl, World.ownsRow_lit W #[] 0 (by omega) (Nat.zero_le _) rfl⟩ (belowTrans hJ (belowAlloc _ _)))
      simp [execOp, Act.eval, go_sem]
    | 3, _ =>
      simp only [List.getElem?_toArray, List.getElem?_cons_succ, List.getElem?_cons_zero, Option.some.injEq] at ho
      subst ho
      refine rg_val (v := .pointer (some ⟨w.heap.size, 1, none⟩)) ?_ (hK _ _ (Below.refl _ _) rfl hJ)
      simp [execOp, Act.eval, go_sem, s1]
    | 4, _ =>
      simp only [List.getElem?_toArray, List.getElem?_cons_succ, List.getElem?_cons_zero, Option.some.injEq] at ho
      subst ho
      have s9 := hF.slot (i := 3) rfl (by simp) (hV 3 (hpre ⟨3, .data⟩ (by simp) rfl))
      refine rg_val (v := .slice d.pa d.deps.length d.pc) ?_ (hK _ _ (Below.refl _ _) rfl hJ)
      simp [execOp, Act.eval, go_sem, s9, c1]
    | 5, _ =>
      simp only [List.getElem?_toArray, List.getElem?_cons_succ, List.getElem?_cons_zero, Option.some.injEq] at ho
      subst ho
      obtain ⟨g, e8, ho8⟩ := hV 2 (hpre ⟨2, .data⟩ (by simp) rfl)
      have s8 := hF.slot (i := 2) rfl (by simp) e8
      have s10 := hF.slot (i := 4) rfl (by simp) (hV 4 (hpre ⟨4, .data⟩ (by simp) rfl))
      refine wp_append_fresh W (.tmp 8) (.tmp 10) 22 rfl w.heap.size 9 i9 _ 1 16 Tryz.underlying22 hi9 hn0 hn1 hn2 rfl (by decide) ⟨g, 0, none⟩ (by simp [Act.eval, s8]) ho8 (.slice d.pa d.deps.length d.pc) d.deps.length (d.deps.map Value.string) (by simp [Act.eval, s10]) (textsSrc (h1.below (belowTrans hb1 hJ))) (by have := hl.1; unfold maxLen; omega) (by have := hl.1; omega) (by omega) ?_
      intro v' w' hown hb
      obtain ⟨a', c', rfl⟩ := ownShape hown
      exact hK _ _ hb ⟨a', c', rfl, hown⟩ (belowTrans hJ hb)
    | 6, _ =>
      simp only [List.getElem?_toArray, List.getElem?_cons_succ, List.getElem?_cons_zero, Option.some.injEq] at ho
      subst ho
      have s7 := hF.slot (i := 1) rfl (by simp) (hV 1 (hpre ⟨1, .data⟩ (by simp) rfl))
      obtain ⟨a', c', e, ho⟩ := hV 5 (hpre ⟨5, .data⟩ (by simp) rfl)
      have s11 := hF.slot (i := 5) rfl (by simp) e
      refine rg_val (v := .agg #[.string d.name, .slice a' d.deps.length c', .slice none 0 0]) ?_ (hK _ _ (Below.refl _ _) ⟨a', c', rfl, ho⟩ hJ)
      simp [execOp, Act.eval, go_sem, s7, s11]
    | 7, _ =>
      simp only [List.getElem?_toArray, List.getElem?_cons_succ, List.getElem?_cons_zero, Option.some.injEq] at ho
      subst ho
      refine rg_val (v := .pointer (some ⟨W.heap.size, 0, none⟩)) (w' := W.alloc (.cells #[.string ⟨#[]⟩, .slice none 0 0, .slice none 0 0] 25)) ?_ (hK _ _ (belowAlloc _ _) ⟨_, rfl, by omega, (MapKept.heap_alloc W _).1⟩ (belowTrans hJ (belowAlloc _ _)))
      simp [execOp, go_sem]
  case fin =>
    intro a W hF hJ hV
    obtain ⟨pa', pc', e5, ho⟩ := hV 6 (by omega)
    obtain ⟨B, e6, hB, hBz⟩ := hV 7 (by omega)
    rw [show slOf _ a 6 = a.tmps.getD 12 undef from rfl] at e5
    rw [show slOf _ a 7 = a.tmps.getD 3 undef from rfl] at e6
    rw [hF.lit [6, 7, 8, 9, 10, 11, 12, 3] (by kernel_rfl)]
    simp only [relaid, List.foldl_cons, List.foldl_nil, e5, e6]
    generalize a.tmps.getD 6 undef = u6
    generalize a.tmps.getD 7 undef = u7
    generalize a.tmps.getD 8 undef = u8
    generalize a.tmps.getD 9 undef = u9
    generalize a.tmps.getD 10 undef = u10
    generalize a.tmps.getD 11 undef = u11
    simp only [List.setIfInBounds_toArray, List.set_cons_succ, List.set_cons_zero, List.drop_succ_cons, List.drop_zero]
    clear hV hF e5 e6
    have hB0 : Below w.heap.size w W := belowTrans hb1 hJ
    have hres : W.heap[w.heap.size + 1]? = some (.cells #[.string ⟨#[]⟩, .slice none 0 0, .slice none 0 0] 25 (0, 0)) := by
      rw [hJ.block _ (by omega), ← hw1, show w.heap.size + 1 = (w.alloc (.cells #[.string d.name, .slice d.pa d.deps.length d.pc, .slice d.oa d.ops.length d.oc] 25)).heap.size from (allocSize _ _).symm]
      exact (MapKept.heap_alloc _ _).1
    have hbW := (hJ.block w.heap.size (by omega)).trans hbox
    have z0 : W.cell? ⟨B, 0, none⟩ = some (.string ⟨#[]⟩) := by simp [World.cell?, hBz]
    have z1 : W.cell? ⟨B, 1, none⟩ = some (.slice none 0 0) := by simp [World.cell?, hBz]
    have z2 : W.cell? ⟨B, 2, none⟩ = some (.slice none 0 0) := by simp [World.cell?, hBz]
    have zf : ∀ i, W.frozen? ⟨B, i, none⟩ = false := fun i => frozen_of_row W B i _ _ hBz
    clear hw1 hbox hs1 hb1 hJ
    go_wp2
    have hst : CopiedMem d w.heap.size B pa' pc' 0 w (((W.setCell ⟨B, 0, none⟩ (.string d.name)).setCell ⟨B, 1, none⟩ (.slice pa' d.deps.length pc')).setCell ⟨B, 2, none⟩ (.slice none 0 0)) := by
      refine ⟨((hB0.setCell (by show w.heap.size ≤ B; omega) _).setCell (by show w.heap.size ≤ B; omega) _).setCell (by show w.heap.size ≤ B; omega) _, ?_, ?_, ?_, none, 0, [], setCell_block _ (setCell_block _ (setCell_block _ hBz)), World.ownsRow_nil _ _ _ _, ⟨by simp, fun j x y _ h => by simp at h⟩, fun j y h => by simp at h⟩
      · rw [Below.heap_setCell _ _ _ _ (by show _ ≠ B; omega), Below.heap_setCell _ _ _ _ (by show _ ≠ B; omega), Below.heap_setCell _ _ _ _ (by show _ ≠ B; omega)]
        exact hbW
      · rw [Below.heap_setCell _ _ _ _ (by show _ ≠ B; omega), Below.heap_setCell _ _ _ _ (by show _ ≠ B; omega), Below.heap_setCell _ _ _ _ (by show _ ≠ B; omega)]
        exact hres
      · have hn := row_other ho hBz (by decide)
        exact ownsRow_setCell_other (ownsRow_setCell_other (ownsRow_setCell_other ho hn _) hn _) hn _
    clear z0 z1 z2 zf hBz hres hbW ho hB0
    go_loopw [4] (fun x w' => ∃ i : Nat, i ≤ d.ops.length ∧ x = .int .i64 i ∧ CopiedMem d w.heap.size B pa' pc' i w w') (fun x _ => d.ops.length - (intOf x).toNat)
    case atStart => exact ⟨0, Nat.zero_le _, rfl, hst⟩
    case round =>
      clear hst
      obtain ⟨i, hi, rfl, hM⟩ := hrel
      have hbx := hM.box
      have k2 : wr.cell? ⟨w.heap.size, 2, none⟩ = some (.slice d.oa d.ops.length d.oc) := by simp [World.cell?, hbx]
      by_cases hlt : i < d.ops.length
      · obtain ⟨b, o, hoa, hN⟩ : ∃ b o, d.oa = some ⟨b, o, none⟩ ∧ OpsAt w b o d.ops := h2.resolve_left (by omega)
        rw [hoa] at k2
        clear hoa
        have hd : d.ops[i]? = some d.ops[i] := List.getElem?_eq_getElem hlt
        obtain ⟨c0, c1, c2, c3, c4, c5, c6, c7, c8, c9, d0, d1, d2, d3, d4, d5⟩ := (hN.below hM.below).cell i _ hd
        obtain ⟨hids, htx, hdl, hll⟩ := (hN.below hM.below).sub i _ hd
        have hlt' : (i : Int) < (d.ops.length : Int) := by omega
        have hnn : ¬ (i : Int) < 0 := by omega
        have hnn0 : (0 : Int) ≤ (i : Int) := by omega
        obtain ⟨wo, rfl⟩ : ∃ wo : World, wo = wr := ⟨_, rfl⟩
        have hXl := hl.2.2.2.2.2 i _ hd
        generalize hX : d.ops[i] = X at hXl c0 c1 c2 c3 c4 c5 c6 c7 c8 c9 d0 d1 d2 d3 d4 d5 hids htx hdl hll hd
        go_wp2_with (at_builtin; refine wpList_plain rfl fun K hK => wp_append_fresh _ (.tmp 25) (.tmp 27) 51 rfl w.heap.size 50 ii _ 2 24 Tryz.underlying51 hii hi0 hi1 hi2 rfl (by decide) _ rfl (ownsRow_lit0 _ _ _ _ _ ?g1 ?g2) _ X.dels.length (X.dels.flatMap idCells) rfl (idsSrc ?ids) ?len ?bytes ?base ?_)
        case g2 => have := hM.below.size; omega
        case ids => exact hids.below (belowTrans (belowAlloc _ _) (belowAlloc _ _))
        case len => have := hXl.1; unfold maxLen; omega
        case bytes => have := hXl.1; omega
        case base => have := hM.below.size; omega
        intro v6 w6 hown6 hb6
        obtain ⟨da', dc', rfl⟩ := ownShape hown6
        refine hK _ _ ?_
        clear hK K
        have hW6 : Below wo.heap.size wo w6 := Below.trans (Below.trans (belowAlloc _ _) ((belowAlloc _ _).mono (by rw [allocSize]; omega))) (hb6.mono (by omega))
        have hw6s : wo.heap.size + 2 ≤ w6.heap.size := by have := hb6.size; rw [allocSize, allocSize] at this; omega
        have hop6 : w6.heap[wo.heap.size]? = some (.cells #[.int .i64 X.kind, .string X.self.p, .int .i64 X.self.n, .string X.parent.p, .int .i64 X.parent.n, .string X.to.p, .int .i64 X.to.n, .string X.name, .string X.toName, .string X.left.p, .int .i64 X.left.n, .string X.right.p, .int .i64 X.right.n, .slice X.da X.dels.length X.dc, .int .i64 X.first, .slice X.la X.lines.length X.lc] 53 (0, 0)) := by
          rw [hb6.block _ (by omega), Below.heap_alloc _ _ _ (by rw [allocSize]; omega)]
          exact (MapKept.heap_alloc wo _).1
        have e13 : w6.cell? ⟨wo.heap.size, 13, none⟩ = some (.slice X.da X.dels.length X.dc) := by simp [World.cell?, hop6]
        have f6 : ∀ k, w6.frozen? ⟨wo.heap.size, k, none⟩ = false := fun k => frozen_of_row w6 wo.heap.size k _ _ hop6
        have hop6' := setCell_block (i := 13) (.slice da' X.dels.length dc') hop6
        have hop6'' : (w6.setCell ⟨wo.heap.size, 13, none⟩ (.slice da' X.dels.length dc')).heap[wo.heap.size]? = some (.cells #[.int .i64 X.kind, .string X.self.p, .int .i64 X.self.n, .string X.parent.p, .int .i64 X.parent.n, .string X.to.p, .int .i64 X.to.n, .string X.name, .string X.toName, .string X.left.p, .int .i64 X.left.n, .string X.right.p, .int .i64 X.right.n, .slice da' X.dels.length dc', .int .i64 X.first, .slice X.la X.lines.length X.lc] 53 (0, 0)) := hop6'
        have e15 : ∀ x, ((w6.setCell ⟨wo.heap.size, 13, none⟩ (.slice da' X.dels.length dc')).alloc x).cell? ⟨wo.heap.size, 15, none⟩ = some (.slice X.la X.lines.length X.lc) := fun x => by
          rw [World.cell?_of_block (w := w6.setCell ⟨wo.heap.size, 13, none⟩ (.slice da' X.dels.length dc')) (Below.heap_alloc _ _ _ (by rw [setSize]; show wo.heap.size < _; omega))]
          simp [World.cell?, hop6'']
        clear hop6' c0 c1 c2 c3 c4 c5 c6 c7 c8 c9 d0 d1 d2 d3 d4 d5 k2
        go_wp2_with (at_builtin; go_loud (refine wpList_plain rfl fun K hK => wp_append_fresh _ (.tmp 30) (.tmp 32) 22 rfl w.heap.size 9 i9 _ 1 16 Tryz.underlying22 hi9 hn0 hn1 hn2 rfl (by decide) _ rfl (ownsRow_lit0 _ _ _ _ _ ?g3 ?g4) _ X.lines.length (X.lines.map Value.string) rfl (textsSrc ?txs) ?len2 ?bytes2 ?base2 ?_))
        case g3 => rw [setSize]
        case g4 => have := hM.below.size; omega
        case txs => exact htx.below ((hW6.setCell (p := ⟨wo.heap.size, 13, none⟩) (Nat.le_refl _) _).alloc (by rw [setSize]; omega) _)
        case len2 => have := hXl.2.1; unfold maxLen; omega
        case bytes2 => have := hXl.2.1; omega
        case base2 => have := hM.below.size; rw [allocSize, setSize]; omega
        intro v7 w7 hown7 hb7
        obtain ⟨la', lc', rfl⟩ := ownShape hown7
        refine hK _ _ ?_
        clear hK K
        have hb7' : Below (w6.heap.size + 1) ((w6.setCell ⟨wo.heap.size, 13, none⟩ (.slice da' X.dels.length dc')).alloc (.cells #[] 9)) w7 := hb7.mono (by simp)
        have hW7 : Below wo.heap.size wo w7 := Below.trans ((hW6.setCell (p := ⟨wo.heap.size, 13, none⟩) (Nat.le_refl _) _).alloc (by rw [setSize]; omega) _) (hb7'.mono (by omega))
        have hop7 : w7.heap[wo.heap.size]? = some (.cells #[.int .i64 X.kind, .string X.self.p, .int .i64 X.self.n, .string X.parent.p, .int .i64 X.parent.n, .string X.to.p, .int .i64 X.to.n, .string X.name, .string X.toName, .string X.left.p, .int .i64 X.left.n, .string X.right.p, .int .i64 X.right.n, .slice da' X.dels.length dc', .int .i64 X.first, .slice X.la X.lines.length X.lc] 53 (0, 0)) := by
          rw [hb7'.block _ (by omega), Below.heap_alloc _ _ _ (by rw [setSize]; omega)]
          exact hop6''
        have b0 : w7.cell? ⟨wo.heap.size, 0, none⟩ = some (.int .i64 X.kind) := by simp [World.cell?, hop7]
        have b1 : w7.cell? ⟨wo.heap.size, 1, none⟩ = some (.string X.self.p) := by simp [World.cell?, hop7]
        have b2 : w7.cell? ⟨wo.heap.size, 2, none⟩ = some (.int .i64 X.self.n) := by simp [World.cell?, hop7]
        have b3 : w7.cell? ⟨wo.heap.size, 3, none⟩ = some (.string X.parent.p) := by simp [World.cell?, hop7]
        have b4 : w7.cell? ⟨wo.heap.size, 4, none⟩ = some (.int .i64 X.parent.n) := by simp [World.cell?, hop7]
        have b5 : w7.cell? ⟨wo.heap.size, 5, none⟩ = some (.string X.to.p) := by simp [World.cell?, hop7]
        have b6 : w7.cell? ⟨wo.heap.size, 6, none⟩ = some (.int .i64 X.to.n) := by simp [World.cell?, hop7]
        have b7 : w7.cell? ⟨wo.heap.size, 7, none⟩ = some (.string X.name) := by simp [World.cell?, hop7]
        have b8 : w7.cell? ⟨wo.heap.size, 8, none⟩ = some (.string X.toName) := by simp [World.cell?, hop7]
        have b9 : w7.cell? ⟨wo.heap.size, 9, none⟩ = some (.string X.left.p) := by simp [World.cell?, hop7]
        have b10 : w7.cell? ⟨wo.heap.size, 10, none⟩ = some (.int .i64 X.left.n) := by simp [World.cell?, hop7]
        have b11 : w7.cell? ⟨wo.heap.size, 11, none⟩ = some (.string X.right.p) := by simp [World.cell?, hop7]
        have b12 : w7.cell? ⟨wo.heap.size, 12, none⟩ = some (.int .i64 X.right.n) := by simp [World.cell?, hop7]
        have b13 : w7.cell? ⟨wo.heap.size, 13, none⟩ = some (.slice da' X.dels.length dc') := by simp [World.cell?, hop7]
        have b14 : w7.cell? ⟨wo.heap.size, 14, none⟩ = some (.int .i64 X.first) := by simp [World.cell?, hop7]
        have b15 : w7.cell? ⟨wo.heap.size, 15, none⟩ = some (.slice X.la X.lines.length X.lc) := by simp [World.cell?, hop7]
        have f7 : ∀ k, w7.frozen? ⟨wo.heap.size, k, none⟩ = false := fun k => frozen_of_row w7 wo.heap.size k _ _ hop7
        have hop7' : (w7.setCell ⟨wo.heap.size, 15, none⟩ (.slice la' X.lines.length lc')).heap[wo.heap.size]? = some (.cells #[.int .i64 X.kind, .string X.self.p, .int .i64 X.self.n, .string X.parent.p, .int .i64 X.parent.n, .string X.to.p, .int .i64 X.to.n, .string X.name, .string X.toName, .string X.left.p, .int .i64 X.left.n, .string X.right.p, .int .i64 X.right.n, .slice da' X.dels.length dc', .int .i64 X.first, .slice la' X.lines.length lc'] 53 (0, 0)) := setCell_block (i := 15) (.slice la' X.lines.length lc') hop7
        have hW8 : Below wo.heap.size wo (w7.setCell ⟨wo.heap.size, 15, none⟩ (.slice la' X.lines.length lc')) := hW7.setCell (p := ⟨wo.heap.size, 15, none⟩) (Nat.le_refl _) _
        obtain ⟨oa', oc', ys, hBo, hown, hsame, hys⟩ := hM.out
        have hBs := (Array.getElem?_eq_some_iff.1 hBo).1
        have hBW := (hW8.block B hBs).trans hBo
        have hown8 := ownsRow_below hown hW8
        have q2 : (w7.setCell ⟨wo.heap.size, 15, none⟩ (.slice la' X.lines.length lc')).cell? ⟨B, 2, none⟩ = some (.slice oa' i oc') := by simp [World.cell?, hBW]
        have hne1 : ¬ B = wo.heap.size := by omega
        have hne2 : ¬ wo.heap.size = B := by omega
        have q3 : w7.cell? ⟨B, 2, none⟩ = some (.slice oa' i oc') := by simp [World.cell?, (hW7.block B hBs).trans hBo]
        go_wp2_with (at_builtin; refine wpList_append_src _ rfl (.tmp 36) (.tmp 38) 23 rfl w.heap.size 53 io _ 16 _ Tryz.underlying23 hio hz0 hz1 hz2 rfl (by decide) _ i _ rfl (hown8.alloc _) _ 1 [.int .i64 X.kind, .string X.self.p, .int .i64 X.self.n, .string X.parent.p, .int .i64 X.parent.n, .string X.to.p, .int .i64 X.to.n, .string X.name, .string X.toName, .string X.left.p, .int .i64 X.left.n, .string X.right.p, .int .i64 X.right.n, .slice da' X.dels.length dc', .int .i64 X.first, .slice la' X.lines.length lc'] rfl (.inr ⟨_, _, rfl, rfl, ?src⟩) ?one ?len3 ?bytes3 ?base3 ?_)
        case src =>
          intro j u hu
          rw [Addr.add_lit, cell_new2 _ _ (by simp only [setSize])]
          simpa using hu
        case one =>
          intro u hu
          simp only [List.mem_cons, List.not_mem_nil, or_false] at hu
          rcases hu with rfl | rfl | rfl | rfl | rfl | rfl | rfl | rfl | rfl | rfl | rfl | rfl | rfl | rfl | rfl | rfl <;> rfl
        case len3 => have := hl.2.1; unfold maxLen; omega
        case bytes3 => have := hl.2.1; omega
        case base3 => have := hM.below.size; have := hW7.size; rw [allocSize, setSize]; omega
        intro v' w' hown' hg _
        have hBr : (Value.slice oa' i oc').ownBlock ≠ some B := row_other hown hBo (by decide)
        have hold : ∀ k o, k < wo.heap.size → wo.heap[k]? = some o → some k ≠ (Value.slice oa' i oc').ownBlock → w'.heap[k]? = some o := fun k o hk h hn => by
          rw [hg.block k (by rw [allocSize, setSize]; have := hW7.size; omega) hn, Below.heap_alloc _ _ _ (by rw [setSize]; have := hW7.size; omega), hW8.block k hk]
          exact h
        have hB2 := hold B _ hBs hBo (fun e => hBr e.symm)
        have y2 : w'.cell? ⟨B, 2, none⟩ = some (.slice oa' i oc') := by simp [World.cell?, hB2]
        have yf : w'.frozen? ⟨B, 2, none⟩ = false := frozen_of_row w' B 2 _ _ hB2
        rcases hown'.2 with ⟨_, h0⟩ | ⟨g, cap, cur, rfl, hg1, hg2, _⟩
        · omega
        clear b0 b1 b2 b3 b4 b5 b6 b7 b8 b9 b10 b11 b12 b13 b14 b15 q2 q3
        have hmem : CopiedMem d w.heap.size B pa' pc' (i + 1) w (w'.setCell ⟨B, 2, none⟩ (.slice (some ⟨g, 0, none⟩) (i + 1) cap)) := by
          have hBg : (Value.slice (some ⟨g, 0, none⟩) (i + 1) cap).ownBlock ≠ some B := row_other hown' hB2 (by decide)
          have fin8 : ∀ {e : TypeId} {sz : Nat} {v : Value} {n : Nat} {xs : List Value}, e ≠ 53 → e ≠ 25 → (w7.setCell ⟨wo.heap.size, 15, none⟩ (.slice la' X.lines.length lc')).ownsRow w.heap.size e sz v n xs → (w'.setCell ⟨B, 2, none⟩ (.slice (some ⟨g, 0, none⟩) (i + 1) cap)).ownsRow w.heap.size e sz v n xs := fun n1 n2 h => by
            have h3 := kept_other (h.alloc _) (hown8.alloc _) n1 hg
            exact ownsRow_setCell_other h3 (row_other h3 hB2 n2) _
          have hrb : (Value.slice oa' i oc').ownBlock ≠ some w.heap.size := row_other hown hM.box (by decide)
          have hrr : (Value.slice oa' i oc').ownBlock ≠ some (w.heap.size + 1) := row_other hown hM.res (by decide)
          have hbel : Below w.heap.size w w' := by
            have h6 : Below w.heap.size w (w7.setCell ⟨wo.heap.size, 15, none⟩ (.slice la' X.lines.length lc')) := belowTrans hM.below hW8
            exact (h6.alloc h6.size _).grown hg (by rw [allocSize]; have := h6.size; omega) (fun k hk => (hown.lt k hk).1)
          refine ⟨hbel.setCell (by show _ ≤ B; omega) _, ?_, ?_, fin8 (by decide) (by decide) (ownsRow_below hM.deps hW8), _, _, ys ++ [{ X with da := da', dc := dc', la := la', lc := lc' }], setCell_block _ hB2, ?_, ?_, ?_⟩
          · rw [Below.heap_setCell _ _ _ _ (by show _ ≠ B; omega)]
            exact hold _ _ (Array.getElem?_eq_some_iff.1 hM.box).1 hM.box (fun e => hrb e.symm)
          · rw [Below.heap_setCell _ _ _ _ (by show _ ≠ B; omega)]
            exact hold _ _ (Array.getElem?_eq_some_iff.1 hM.res).1 hM.res (fun e => hrr e.symm)
          · rw [List.flatMap_append]
            exact ownsRow_setCell_other hown' hBg _
          · rw [List.take_add_one, hd]
            have hl1 := hsame.len
            refine ⟨by simp [hl1], fun j x y hx hy => ?_⟩
            have hti : (d.ops.take i).length = i := by simp; omega
            have hyi : ys.length = i := by omega
            by_cases hj : j < i
            · rw [List.getElem?_append_left (by omega)] at hx hy
              exact hsame.at' j x y hx hy
            · rw [List.getElem?_append_right (by omega)] at hx hy
              rw [hti] at hx
              rw [hyi] at hy
              have hj0 : j - i = 0 := by
                have := (List.getElem?_eq_some_iff.1 hy).1
                simpa using this
              rw [hj0] at hx hy
              obtain rfl := Option.some.inj hx
              obtain rfl := Option.some.inj hy
              exact ⟨rfl, rfl, rfl, rfl, rfl, rfl, rfl, rfl, rfl, rfl, rfl⟩
          · intro j y hy
            have hl1 := hsame.len
            have hti : (d.ops.take i).length = i := by simp; omega
            by_cases hj : j < ys.length
            · rw [List.getElem?_append_left hj] at hy
              have := hys j y hy
              exact ⟨fin8 (by decide) (by decide) (ownsRow_below this.dels hW8), fin8 (by decide) (by decide) (ownsRow_below this.lines hW8)⟩
            · rw [List.getElem?_append_right (by omega)] at hy
              have hj0 : j - ys.length = 0 := by
                have := (List.getElem?_eq_some_iff.1 hy).1
                simpa using this
              rw [hj0] at hy
              obtain rfl := Option.some.inj hy
              have r6 := ownsRow_setCell_other hown6 (row_other hown6 hop6 (by decide)) (a := ⟨wo.heap.size, 13, none⟩) (.slice da' X.dels.length dc')
              have r7 := ownsRow_below (r6.alloc (.cells #[] 9)) (hb7.mono (by rw [allocSize, setSize]; omega))
              exact ⟨fin8 (by decide) (by decide) (ownsRow_setCell_other r7 (row_other r7 hop7 (by decide)) _), fin8 (by decide) (by decide) (ownsRow_setCell_other hown7 (row_other hown7 hop7 (by decide)) _)⟩
        go_wp2
        first
          | exact ⟨⟨i + 1, by omega, by push_cast; rfl, hmem⟩, by simp [intOf]; omega⟩
          | exact ⟨⟨_, _, _, _, _, _, _, _, _, _, _, _, _, _, _, _, _, _, _, _, _, _, _, _, _, _, _, _, _, _, ⟨i + 1, by omega, by push_cast; rfl, hmem⟩, rfl⟩, by simp [intOf]; omega⟩
      · have hlt' : ¬ (i : Int) < (d.ops.length : Int) := by omega
        obtain ⟨oa', oc', ys, hBc, hown, hsame, hys⟩ := hM.out
        have hi' : i = d.ops.length := by omega
        subst hi'
        have hB2 : w.heap.size + 2 ≤ B := hB
        have y0 : wr.cell? ⟨B, 0, none⟩ = some (.string d.name) := by simp [World.cell?, hBc]
        have y1 : wr.cell? ⟨B, 1, none⟩ = some (.slice pa' d.deps.length pc') := by simp [World.cell?, hBc]
        have y2 : wr.cell? ⟨B, 2, none⟩ = some (.slice oa' d.ops.length oc') := by simp [World.cell?, hBc]
        have r0 : wr.cell? ⟨w.heap.size + 1, 0, none⟩ = some (.string ⟨#[]⟩) := by simp [World.cell?, hM.res]
        have r1 : wr.cell? ⟨w.heap.size + 1, 1, none⟩ = some (.slice none 0 0) := by simp [World.cell?, hM.res]
        have r2 : wr.cell? ⟨w.heap.size + 1, 2, none⟩ = some (.slice none 0 0) := by simp [World.cell?, hM.res]
        have rf : ∀ k, wr.frozen? ⟨w.heap.size + 1, k, none⟩ = false := fun k => frozen_of_row wr _ k _ _ hM.res
        go_wp2
        have hfin := setCell_block (.slice oa' d.ops.length oc') (setCell_block (i := 1) (.slice pa' d.deps.length pc') (setCell_block (i := 0) (.string d.name) hM.res)) (i := 2)
        refine bodyPost_ret_by (v := .agg #[.string d.name, .slice pa' d.deps.length pc', .slice oa' d.ops.length oc']) ?_ rfl ?_
        · exact results_cell_row rfl _ _ (w.heap.size + 1) 25 _ _ _ rfl hfin Tryz.underlying25 rfl (by kernel_rfl)
        have fin : ∀ {e : TypeId} {sz : Nat} {v : Value} {n : Nat} {xs : List Value}, e ≠ 25 → wr.ownsRow w.heap.size e sz v n xs → (((wr.setCell ⟨w.heap.size + 1, 0, none⟩ (.string d.name)).setCell ⟨w.heap.size + 1, 1, none⟩ (.slice pa' d.deps.length pc')).setCell ⟨w.heap.size + 1, 2, none⟩ (.slice oa' d.ops.length oc')).ownsRow w.heap.size e sz v n xs := fun hn h => by
          have h3 := row_other h hM.res hn
          exact ownsRow_setCell_other (ownsRow_setCell_other (ownsRow_setCell_other h h3 _) h3 _) h3 _
        rw [List.take_length] at hsame
        refine ⟨⟨⟨d.name, d.deps, pa', pc', ys, oa', oc'⟩, by show _ = Ending.returned (.agg #[.string d.name, .slice pa' d.deps.length pc', .slice oa' ys.length oc']); rw [hsame.len], ⟨rfl, rfl, hsame⟩, textsH_own (fin (by decide) hM.deps), opsH_own (by have h4 := fin (by decide) hown; rw [hsame.len] at h4; rw [hsame.len]; exact h4) (fun j y hy => ⟨fin (by decide) (hys j y hy).dels, fin (by decide) (hys j y hy).lines⟩) (fun j y hy => ?_)⟩, ((hM.below.setCell (by show _ ≤ w.heap.size + 1; omega) _).setCell (by show _ ≤ w.heap.size + 1; omega) _).setCell (by show _ ≤ w.heap.size + 1; omega) _⟩
        obtain ⟨x, hx⟩ : ∃ x, d.ops[j]? = some x := ⟨_, List.getElem?_eq_getElem (by have h5 : j < ys.length := (List.getElem?_eq_some_iff.1 hy).1; have := hsame.len; omega)⟩
        have hs := hsame.at' j x y hx hy
        have hx2 := hl.2.2.2.2.2 j x hx
        rw [← hs.dels, ← hs.lines]
        exact ⟨by have := hx2.1; omega, by have := hx2.2.1; omega⟩
end Go.Proofs.W
