/- A PART OF THE PROOF THAT WORKMAKES HOLDS FOR EVERY INPUT OF BULK AT MOST 1048576. No condition beyond the given statement. This part: WIs. -/
import Derived.Test.YthodcfgoeffbdaaGreatDoorWWork
import Derived.Test.YthodcfgoeffbdaaGreatDoorWIxT
import Derived.Test.YthodcfgoeffbdaaGreatDoorWSame
import Derived.Test.YthodcfgoeffbdaaGreatDoorRegRG
namespace Go.Proofs.W
open Go Go.Proofs Go.RowKit
set_option maxRecDepth 1000000

/-- files that are the same by contents, at a value -/
def FilesAs (fs : List FileV) (a : Option Addr) (ys : List FileV) (W : World) : Prop := ys.length = fs.length ∧ ys.map FileV.key = fs.map FileV.key ∧ FilesH W a ys
theorem FilesAs.below {fs : List FileV} {a : Option Addr} {ys : List FileV} {W W' : World} (h : FilesAs fs a ys W) (hb : Below W.heap.size W W') : FilesAs fs a ys W' := ⟨h.1, h.2.1, h.2.2.below hb⟩
def IV (kv xv : Value) (a : Option Addr) (c : Nat) (fs : List FileV) (gs : List TrackV) (i : Nat) (v : Value) (W : World) : Prop := match i with
  | 0 => v = kv
  | 3 => v = kv
  | 1 => v = .agg #[.slice a fs.length c]
  | 2 => ∃ a' c' ys, v = .slice a' ys.length c' ∧ FilesAs fs a' ys W
  | 4 => ∃ ra rc, v = .slice ra gs.length rc ∧ TracksH W ra gs
  | 5 => ∃ a' c' ys ra rc, v = .agg #[.slice a' ys.length c', .slice ra gs.length rc] ∧ FilesAs fs a' ys W ∧ TracksH W ra gs
  | 6 => v = xv
  | _ => True
theorem IV.below {kv xv : Value} {a : Option Addr} {c : Nat} {fs : List FileV} {gs : List TrackV} {i : Nat} {v : Value} {W W' : World} (hb : Below W.heap.size W W') (h : IV kv xv a c fs gs i v W) : IV kv xv a c fs gs i v W' := by
  unfold IV at h ⊢
  split at h
  any_goals exact h
  · obtain ⟨a', c', ys, e, h1⟩ := h
    exact ⟨a', c', ys, e, h1.below hb⟩
  · obtain ⟨ra, rc, e, h1⟩ := h
    exact ⟨ra, rc, e, h1.below hb⟩
  · obtain ⟨a', c', ys, ra, rc, e, h1, h2⟩ := h
    exact ⟨a', c', ys, ra, rc, e, h1.below hb, h2.below hb⟩

set_option maxHeartbeats 8000000 in
theorem law_Is (a ra a2 ra2 : Option Addr) (c rc c2 rc2 : Nat) (fs zs : List FileV) (gs : List TrackV) (w : World) (h : FilesH w a fs) (hl : ∀ f, f ∈ fs → f.lines.length ≤ 1000000) (hlen : fs.length ≤ 1000000) (ht : TracksH w ra gs) (htl : gs.length ≤ 1000000)
    (h2 : FilesH w a2 zs) (hk : zs.map FileV.key = fs.map FileV.key) (ht2 : TracksH w ra2 gs) :
    Calls Tryz.prog 9 #[.agg #[.slice a fs.length c, .slice ra gs.length rc], .agg #[.slice a2 zs.length c2, .slice ra2 gs.length rc2]] w fun e w' => e = .returned (.bool true) ∧ Below w.heap.size w w' := by
  obtain ⟨W0, hW0⟩ : ∃ W0, W0 = (w.alloc (.cells #[.slice a fs.length c, .slice ra gs.length rc] 32)).alloc (.cells #[.slice a2 zs.length c2, .slice ra2 gs.length rc2] 42) := ⟨_, rfl⟩
  have hA : Below w.heap.size w W0 := by rw [hW0]; exact belowTrans (belowAlloc _ _) (belowAlloc _ _)
  have b1 : W0.heap[w.heap.size]? = some (.cells #[.slice a fs.length c, .slice ra gs.length rc] 32 (0, 0)) := by
    rw [hW0, Below.heap_alloc _ _ _ (by simp)]
    exact (MapKept.heap_alloc w _).1
  have b2 : W0.heap[w.heap.size + 1]? = some (.cells #[.slice a2 zs.length c2, .slice ra2 gs.length rc2] 42 (0, 0)) := by
    rw [hW0, show w.heap.size + 1 = (w.alloc (.cells #[.slice a fs.length c, .slice ra gs.length rc] 32)).heap.size by simp]
    exact (MapKept.heap_alloc _ _).1
  have hz : W0.heap.size = w.heap.size + 2 := by rw [hW0]; simp
  have H1 : Hid _ := b1
  have H2 : Hid _ := b2
  have HA : Hid _ := hA
  have HZ : Hid _ := hz
  clear b1 b2 hA hz
  go_enter Tryz.func9, Tryz.ntmps9
  go_wp2_with fail
  simp only [← hW0]
  clear hW0
  refine wp_region_go 7 4 13 (by kernel_rfl) ?ok ?forced rfl (IV (.agg #[.slice a fs.length c, .slice ra gs.length rc]) (.agg #[.slice a2 zs.length c2, .slice ra2 gs.length rc2]) a c fs gs) (fun W => Below W0.heap.size W0 W) (fun W W' => Below W.heap.size W W') (fun _ _ _ _ h hv => hv.below h) (belowDrew1 _) ?step ?fin
  case ok => kernel_rfl
  case forced => kernel_rfl
  case step =>
    intro i o hi ho L A W hpre hF hJ hV K hK
    have s2 : A.tmps[2]? = some (.pointer (some ⟨w.heap.size, 0, none⟩)) := hF.at (by kernel_rfl) rfl
    have s3 : A.tmps[3]? = some (.pointer (some ⟨w.heap.size + 1, 0, none⟩)) := hF.at (by kernel_rfl) rfl
    have d1 := (hJ.block w.heap.size (by rw [HZ.out]; omega)).trans H1.out
    have d2 := (hJ.block (w.heap.size + 1) (by rw [HZ.out]; omega)).trans H2.out
    have c0 : W.cell? ⟨w.heap.size, 0, none⟩ = some (.slice a fs.length c) := by simp [World.cell?, d1]
    have c1 : W.cell? ⟨w.heap.size, 1, none⟩ = some (.slice ra gs.length rc) := by simp [World.cell?, d1]
    have c2' : W.cell? ⟨w.heap.size + 1, 0, none⟩ = some (.slice a2 zs.length c2) := by simp [World.cell?, d2]
    have c3 : W.cell? ⟨w.heap.size + 1, 1, none⟩ = some (.slice ra2 gs.length rc2) := by simp [World.cell?, d2]
    have hBW := belowTrans HA.out hJ
    match i, hi with
    | 0, _ =>
      simp only [List.getElem?_toArray, List.getElem?_cons_zero, Option.some.injEq] at ho
      subst ho
      refine rg_val (v := .agg #[.slice a fs.length c, .slice ra gs.length rc]) ?_ (hK _ _ (Below.refl _ _) rfl hJ)
      simp [execOp, Act.eval, go_sem, s2, c0, c1]
    | 1, _ =>
      simp only [List.getElem?_toArray, List.getElem?_cons_succ, List.getElem?_cons_zero, Option.some.injEq] at ho
      subst ho
      have sx := hF.slot (i := 0) rfl (by simp) (hV 0 (hpre ⟨0, .data⟩ (by simp) rfl))
      refine rg_enter (f := 20) (args := #[.agg #[.slice a fs.length c, .slice ra gs.length rc]]) (w' := W) ?_ (work_Tree a ra c rc fs.length gs.length W) ?_ ?_ ?_
      · simp [Act.eval, go_sem, sx]
      · rintro v w'' ⟨e, hb⟩
        cases e
        exact hK _ _ hb rfl (belowTrans hJ hb)
      · rintro chain w'' ⟨e, _⟩
        cases e
      · rintro w'' ⟨e, _⟩
        cases e
    | 2, _ =>
      simp only [List.getElem?_toArray, List.getElem?_cons_succ, List.getElem?_cons_zero, Option.some.injEq] at ho
      subst ho
      have sx := hF.slot (i := 1) rfl (by simp) (hV 1 (hpre ⟨1, .data⟩ (by simp) rfl))
      refine rg_enter (f := 10) (args := #[.agg #[.slice a fs.length c]]) (w' := W) ?_ (tree_All a c fs W (h.below hBW) hl hlen) ?_ ?_ ?_
      · simp [Act.eval, go_sem, sx]
      · rintro v w'' ⟨⟨a', c', ys, h1, h2, e, h3, _⟩, hb⟩
        cases e
        exact hK _ _ hb ⟨a', c', ys, rfl, h1, h2, h3⟩ (belowTrans hJ hb)
      · rintro chain w'' ⟨⟨_, _, _, _, _, e, _⟩, _⟩
        cases e
      · rintro w'' ⟨⟨_, _, _, _, _, e, _⟩, _⟩
        cases e
    | 3, _ =>
      simp only [List.getElem?_toArray, List.getElem?_cons_succ, List.getElem?_cons_zero, Option.some.injEq] at ho
      subst ho
      refine rg_val (v := .agg #[.slice a fs.length c, .slice ra gs.length rc]) ?_ (hK _ _ (Below.refl _ _) rfl hJ)
      simp [execOp, Act.eval, go_sem, s2, c0, c1]
    | 4, _ =>
      simp only [List.getElem?_toArray, List.getElem?_cons_succ, List.getElem?_cons_zero, Option.some.injEq] at ho
      subst ho
      have sx := hF.slot (i := 3) rfl (by simp) (hV 3 (hpre ⟨3, .data⟩ (by simp) rfl))
      refine rg_enter (f := 19) (args := #[.agg #[.slice a fs.length c, .slice ra gs.length rc]]) (w' := W) ?_ (work_Tracks a ra c rc fs.length gs W (ht.below hBW) (by omega)) ?_ ?_ ?_
      · simp [Act.eval, go_sem, sx]
      · rintro v w'' ⟨⟨v', e, ho⟩, hb⟩
        cases e
        obtain ⟨ra', rc', rfl⟩ := ownShape ho
        exact hK _ _ hb ⟨ra', rc', rfl, tracksH_row ho⟩ (belowTrans hJ hb)
      · rintro chain w'' ⟨⟨_, e, _⟩, _⟩
        cases e
      · rintro w'' ⟨⟨_, e, _⟩, _⟩
        cases e
    | 5, _ =>
      simp only [List.getElem?_toArray, List.getElem?_cons_succ, List.getElem?_cons_zero, Option.some.injEq] at ho
      subst ho
      obtain ⟨a', c', ys, e2, h3⟩ := hV 2 (hpre ⟨2, .data⟩ (by simp) rfl)
      obtain ⟨ra', rc', e4, h5⟩ := hV 4 (hpre ⟨4, .data⟩ (by simp) rfl)
      have sx := hF.slot (i := 2) rfl (by simp) e2
      have sy := hF.slot (i := 4) rfl (by simp) e4
      refine rg_val (v := .agg #[.slice a' ys.length c', .slice ra' gs.length rc']) ?_ (hK _ _ (Below.refl _ _) ⟨a', c', ys, ra', rc', rfl, h3, h5⟩ hJ)
      simp [execOp, Act.eval, go_sem, sx, sy]
    | 6, _ =>
      simp only [List.getElem?_toArray, List.getElem?_cons_succ, List.getElem?_cons_zero, Option.some.injEq] at ho
      subst ho
      refine rg_val (v := .agg #[.slice a2 zs.length c2, .slice ra2 gs.length rc2]) ?_ (hK _ _ (Below.refl _ _) rfl hJ)
      simp [execOp, Act.eval, go_sem, s3, c2', c3]
  case fin =>
    intro A W hF hJ hV
    obtain ⟨a', c', ys, ra', rc', e5, h5, h6⟩ := hV 5 (by omega)
    have e5 : A.tmps.getD 10 undef = .agg #[.slice a' ys.length c', .slice ra' gs.length rc'] := e5
    have e6 : A.tmps.getD 11 undef = .agg #[.slice a2 zs.length c2, .slice ra2 gs.length rc2] := hV 6 (by omega)
    rw [hF.lit [5, 6, 7, 8, 9, 10, 11, 12, 4] (by kernel_rfl)]
    simp only [relaid, List.foldl_cons, List.foldl_nil, e5, e6]
    generalize A.tmps.getD 5 undef = y5
    generalize A.tmps.getD 6 undef = y6
    generalize A.tmps.getD 7 undef = y7
    generalize A.tmps.getD 8 undef = y8
    generalize A.tmps.getD 9 undef = y9
    generalize A.tmps.getD 12 undef = y12
    generalize A.tmps.getD 4 undef = y4
    simp only [List.setIfInBounds_toArray, List.set_cons_succ, List.set_cons_zero, List.drop_succ_cons]
    clear hV hF e5 e6
    have hBW := belowTrans HA.out hJ
    have hs := R22_Same a' a2 ra' ra2 c' c2 rc' rc2 ys zs gs W h5.2.2 (h2.below hBW) (h5.2.1.trans hk.symm) (by have := h5.1; omega) h6 (ht2.below hBW) (by omega)
    have HS : Hid _ := hs
    have HB : Hid _ := hBW
    clear hs hBW hJ h5 h6
    go_wp2_with fail
    refine Calls.mono HS.out ?_
    rintro e w5 ⟨rfl, hb5⟩
    go_wp2
    go_ret
    exact ⟨rfl, belowTrans HB.out hb5⟩
end Go.Proofs.W
