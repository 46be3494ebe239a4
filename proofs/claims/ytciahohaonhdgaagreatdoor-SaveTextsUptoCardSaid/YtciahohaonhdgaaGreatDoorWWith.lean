/- A PART OF THE PROOF THAT SAVETEXTS HOLDS FOR EVERY INPUT OF BULK AT MOST 1048576. No condition beyond the given statement. This part: WWith. -/
import Derived.Test.YtciahohaonhdgaaGreatDoorWInsert
import Derived.Test.YtciahohaonhdgaaGreatDoorWLine
namespace Go.Proofs.W
open Go Go.Proofs Go.RowKit Go.Op Go.Sort
set_option maxRecDepth 1000000
theorem filesH_own {w : World} {b : Nat} {a : Option Addr} {c : Nat} {xs : List FileV} (h : w.ownsRow b 56 3 (.slice a xs.length c) xs.length (xs.flatMap FileV.cells)) (hs : ∀ (j : Nat) y, xs[j]? = some y → TextsH w y.la y.lines ∧ y.lines.length < 9223372036854775808) : FilesH w a xs := by
 rcases h.2 with ⟨_, h0⟩ | ⟨g, cap, cur, e, _, hh, _⟩
 ·exact .inl h0
 ·cases e
  refine .inr ⟨g, 0, rfl, (Array.getElem?_eq_some_iff.1 hh).1, fun j x hj => ?_, hs⟩
  have hjl := (List.getElem?_eq_some_iff.1 hj).1
  have hc : ∀ r, r < 3 → w.cell? ⟨g, 0 + j * 3 + r, none⟩ = x.cells[r]? := fun r hr => by
   rw [Nat.zero_add, h.cellAt (j * 3 + r) (by omega)]
   exact flatMap_at FileV.cells 3 (fun _ => rfl) xs j r x hj hr
  exact ⟨hc 0 (by decide), hc 1 (by decide), hc 2 (by decide)⟩
def WithRet (fs : List FileV) (f : FileV) (e : Ending) (w' : World) : Prop := ∃ (a' : Option Addr) (c' : Nat) (g : FileV), g.path = f.path ∧ g.dir = f.dir ∧ g.lines = f.lines ∧ e = .returned (.agg #[.slice a' (fs.length + 1) c']) ∧ FilesH w' a' (fs.take (rankP (pathsOf fs) f.path) ++ g :: fs.drop (rankP (pathsOf fs) f.path))
set_option maxHeartbeats 8000000 in
theorem tree_with (a : Option Addr) (c : Nat) (fs : List FileV) (f : FileV) (w : World) (h : FilesH w a fs) (hf : FsOk fs) (hp : f.path.size < 4294967281) (hm : HasM w) (ht : TextsH w f.la f.lines) (hl : f.lines.length ≤ 1000000) (hnew : hasP (pathsOf fs) f.path = false) (hlen : fs.length < 1000000) :
  Calls Tryz.prog 73 #[.agg #[.slice a fs.length c], f.val] w fun e w' => WithRet fs f e w' ∧ Below w.heap.size w w' := by
 obtain ⟨W, hW⟩ : ∃ W, W = ((w.alloc (.cells #[.slice a fs.length c] 27)).alloc (.cells #[.string f.path, .bool f.dir, .slice f.la f.lines.length f.lc] 56)).alloc (.cells #[.slice none 0 0] 27) := ⟨_, rfl⟩
 have hA : Below w.heap.size w W := by rw [hW]; exact belowTrans (belowTrans (belowAlloc _ _) (belowAlloc _ _)) (belowAlloc _ _)
 have hz : W.heap.size = w.heap.size + 3 := by rw [hW]; simp
 have b1 : W.heap[w.heap.size]? = some (.cells #[.slice a fs.length c] 27 (0, 0)) := by
  rw [hW, Below.heap_alloc _ _ _ (by simp; omega), Below.heap_alloc _ _ _ (by simp)]
  exact (MapKept.heap_alloc w _).1
 have b2 : W.heap[w.heap.size + 1]? = some (.cells #[.string f.path, .bool f.dir, .slice f.la f.lines.length f.lc] 56 (0, 0)) := by
  rw [hW, Below.heap_alloc _ _ _ (by simp), show w.heap.size + 1 = (w.alloc (.cells #[.slice a fs.length c] 27)).heap.size by simp]
  exact (MapKept.heap_alloc _ _).1
 have b3 : W.heap[w.heap.size + 2]? = some (.cells #[.slice none 0 0] 27 (0, 0)) := by
  rw [hW, show w.heap.size + 2 = ((w.alloc (.cells #[.slice a fs.length c] 27)).alloc (.cells #[.string f.path, .bool f.dir, .slice f.la f.lines.length f.lc] 56)).heap.size by simp]
  exact (MapKept.heap_alloc _ _).1
 have q0 : W.cell? ⟨w.heap.size, 0, none⟩ = some (.slice a fs.length c) := by simp [World.cell?, b1]
 have q1 : W.cell? ⟨w.heap.size + 1, 0, none⟩ = some (.string f.path) := by simp [World.cell?, b2]
 have hpl := tree_place a c fs f.path W (h.below hA) hf hp (hm.below hA)
 rw [hnew] at hpl
 have hrk : rankP (pathsOf fs) f.path ≤ fs.length := by have := rankP_le (pathsOf fs) f.path; unfold pathsOf at this ⊢; rwa [List.length_map] at this
 unfold WithRet FileV.val
 generalize rankP (pathsOf fs) f.path = rk at hpl hrk ⊢
 have HPL : Hid _ := hpl
 clear hpl
 go_enter Tryz.func73, Tryz.ntmps73
 go_wp2_with fail
 simp only [← hW]
 refine Calls.mono HPL.out ?_
 rintro e w2 ⟨rfl, hb2⟩
 have hB2 := belowTrans hA hb2
 have c1 := (hb2.block w.heap.size (by omega)).trans b1
 have c2 := (hb2.block (w.heap.size + 1) (by omega)).trans b2
 have c3 := (hb2.block (w.heap.size + 2) (by omega)).trans b3
 have hs2 := hb2.size
 have p0 : w2.cell? ⟨w.heap.size, 0, none⟩ = some (.slice a fs.length c) := by simp [World.cell?, c1]
 clear q0 q1
 go_wp2_with fail
 refine (cloneFiles a c fs w2 (h.below hB2) (by omega)).mono ?_
 rintro e w3 ⟨⟨v3, rfl, hown3⟩, hb3⟩
 obtain ⟨a3, k3, rfl⟩ := ownShape hown3
 have hB3 := belowTrans hB2 hb3
 have d2 := (hb3.block (w.heap.size + 1) (by omega)).trans c2
 have d3 := (hb3.block (w.heap.size + 2) (by omega)).trans c3
 have hs3 := hb3.size
 have p1 : w3.cell? ⟨w.heap.size + 1, 0, none⟩ = some (.string f.path) := by simp [World.cell?, d2]
 have p2 : w3.cell? ⟨w.heap.size + 1, 1, none⟩ = some (.bool f.dir) := by simp [World.cell?, d2]
 have p3 : w3.cell? ⟨w.heap.size + 1, 2, none⟩ = some (.slice f.la f.lines.length f.lc) := by simp [World.cell?, d2]
 have hownf := tree_own f w3 (ht.below hB3) hl
 unfold FileV.val at hownf
 clear p0
 go_wp2_with fail
 refine hownf.mono ?_
 rintro e w4 ⟨⟨la, lc, rfl, hlo⟩, hb4⟩
 have hB4 := belowTrans hB3 hb4
 have e3 := (hb4.block (w.heap.size + 2) (by omega)).trans d3
 have hs4 := hb4.size
 clear p1 p2 p3
 have hown4 := ownsRow_below hown3 hb4
 obtain ⟨W5, hW5⟩ : ∃ W5, W5 = w4.alloc (.cells #[.string f.path, .bool f.dir, .slice la f.lines.length lc] 56) := ⟨_, rfl⟩
 have hb5 : Below w4.heap.size w4 W5 := by rw [hW5]; exact belowAlloc _ _
 have hz5 : W5.heap.size = w4.heap.size + 1 := by rw [hW5]; simp
 have hv5 : W5.heap[w4.heap.size]? = some (.cells #[.string f.path, .bool f.dir, .slice la f.lines.length lc] 56 (0, 0)) := by rw [hW5]; exact (MapKept.heap_alloc w4 _).1
 have hown5 := ownsRow_below hown4 hb5
 have hne5 : (Value.slice a3 fs.length k3).ownBlock ≠ some w4.heap.size := by
  rcases hown4.2 with ⟨h0, _⟩ | ⟨g, cap, cur, h0, _, hh, _⟩
  ·rw [h0]; simp [Value.ownBlock]
  ·rw [h0]
   have := (Array.getElem?_eq_some_iff.1 hh).1
   simp [Value.ownBlock]
   omega
 have hins := files_Insert w2.heap.size (.slice a3 fs.length k3) fs ⟨f.path, f.dir, f.lines, la, lc⟩ rk w4.heap.size W5 hown5 hrk (by omega) (by have := hb5.size; omega) hv5 hne5
 have hlo5 := ownsRow_below hlo hb5
 have HI : Hid _ := hins
 have HL : Hid _ := hlo5
 clear hins hlo hlo5 hown3 hown4 hownf
 go_wp2_with fail
 simp only [← hW5]
 refine Calls.mono HI.out ?_
 rintro e w6 ⟨⟨v6, rfl, hown6⟩, hg6⟩
 obtain ⟨a6, k6, rfl⟩ := ownShape hown6
 have hyl : (fs.take rk ++ (⟨f.path, f.dir, f.lines, la, lc⟩ : FileV) :: fs.drop rk).length = fs.length + 1 := by rw [List.length_append, List.length_cons, List.length_take, List.length_drop]; omega
 have hB5 := belowTrans hB4 hb5
 have hB6 : Below w.heap.size w w6 := hB5.grown hg6 hB5.size (fun k hk => by have := (World.ownsRow.lt hown5 k hk).1; omega)
 have e5 := (hb5.block (w.heap.size + 2) (by omega)).trans e3
 have e6 := (hg6.block (w.heap.size + 2) (by omega) (fun e => row_other hown5 e5 (by decide) e.symm)).trans e5
 have r0 : w6.cell? ⟨w.heap.size + 2, 0, none⟩ = some (.slice none 0 0) := by simp [World.cell?, e6]
 have rf : ∀ k, w6.frozen? ⟨w.heap.size + 2, k, none⟩ = false := fun k => frozen_of_row w6 _ k _ _ e6
 have hl6 := kept_other HL.out hown5 (by decide) hg6
 rw [hyl] at hown6 ⊢
 have hfin := setCell_block (.slice a6 (fs.length + 1) k6) e6 (i := 0)
 have hBf := hB6.setCell (p := ⟨w.heap.size + 2, 0, none⟩) (by show w.heap.size ≤ w.heap.size + 2; omega) (.slice a6 (fs.length + 1) k6)
 have ho := ownsRow_setCell_other hown6 (a := ⟨w.heap.size + 2, 0, none⟩) (row_other hown6 e6 (by decide)) (.slice a6 (fs.length + 1) k6)
 have hlf := textsH_own (ownsRow_setCell_other hl6 (a := ⟨w.heap.size + 2, 0, none⟩) (row_other hl6 e6 (by decide)) (.slice a6 (fs.length + 1) k6))
 have hsub : ∀ y, y ∈ fs → TextsH w y.la y.lines := fun y hy => by
  rcases h with h0 | ⟨b, o, _, hN⟩
  ·rw [List.eq_nil_of_length_eq_zero h0] at hy; cases hy
  ·obtain ⟨j, hj⟩ := List.mem_iff_getElem?.1 hy
   exact (hN.sub j y hj).1
 have hfiles : FilesH (w6.setCell ⟨w.heap.size + 2, 0, none⟩ (.slice a6 (fs.length + 1) k6)) a6 (fs.take rk ++ (⟨f.path, f.dir, f.lines, la, lc⟩ : FileV) :: fs.drop rk) := by
  refine filesH_own (c := k6) (by rw [hyl]; exact ho) fun j y hy => ?_
  have hm := List.mem_of_getElem? hy
  rcases List.mem_append.1 hm with hm | hm
  ·have hm2 := List.mem_of_mem_take hm
   exact ⟨(hsub y hm2).below hBf, by have := hf.lines y hm2; omega⟩
  ·rcases List.mem_cons.1 hm with rfl | hm
   ·exact ⟨hlf, by show f.lines.length < _; omega⟩
   ·have hm2 := List.mem_of_mem_drop hm
    exact ⟨(hsub y hm2).below hBf, by have := hf.lines y hm2; omega⟩
 have HF : Hid _ := hfiles
 have HB : Hid _ := hBf
 have HN : Hid _ := hfin
 clear hfiles hBf hfin ho hlf hl6 hsub hown6 hown5 hg6 HI HL hyl
 go_wp2
 refine bodyPost_ret_by (v := .agg #[.slice a6 (fs.length + 1) k6]) ?_ rfl ?_
 ·exact results_cell_row rfl _ _ (w.heap.size + 2) 27 _ _ _ rfl HN.out Tryz.underlying27 rfl (by kernel_rfl)
 ·exact ⟨⟨a6, k6, ⟨f.path, f.dir, f.lines, la, lc⟩, rfl, rfl, rfl, rfl, HF.out⟩, HB.out⟩
end Go.Proofs.W
namespace Go.Proofs.W
open Go Go.Proofs Go.RowKit Go.Op Go.Sort
set_option maxRecDepth 1000000
theorem textsH_set {w : World} {k : Nat} {a : Option Addr} {xs : List ByteArray} (h : TextsH w a xs) {s : Value} {t : TypeId} {r : Nat × Nat} (hk : w.heap[k]? = some (.cells #[s] t r)) (hs : ∀ x, s ≠ .string x) (v : Value) : TextsH (w.setCell ⟨k, 0, none⟩ v) a xs := by
 rcases h with h | ⟨b, o, h1, h2⟩
 ·exact .inl h
 ·cases xs with
  | nil => exact .inl rfl
  | cons x xs =>
   refine .inr ⟨b, o, h1, h2.keep (Nat.lt_of_lt_of_le h2.lt ((Below.refl 0 w).setCell (p := ⟨k, 0, none⟩) (Nat.zero_le _) v).size) (Below.heap_setCell _ _ _ _ fun e => ?_)⟩
   have hc := h2.cell 0 x rfl
   have e' : b = k := e
   subst e'
   simp only [World.cell?, hk] at hc
   cases o with
   | zero => exact hs x (by simpa using hc)
   | succ o => simp at hc
theorem filesH_set {w : World} {k : Nat} {a : Option Addr} {xs : List FileV} (h : FilesH w a xs) {s : Value} {t : TypeId} {r : Nat × Nat} (hk : w.heap[k]? = some (.cells #[s] t r)) (hs : ∀ x, s ≠ .string x) (v : Value) : FilesH (w.setCell ⟨k, 0, none⟩ v) a xs := by
 rcases h with h | ⟨b, o, h1, h2⟩
 ·exact .inl h
 ·cases xs with
  | nil => exact .inl rfl
  | cons x xs =>
   have hne : b ≠ k := fun e' => by
    have hc := (h2.cell 0 x rfl).1
    subst e'
    simp only [World.cell?, hk] at hc
    cases o with
    | zero => exact hs x.path (by simpa using hc)
    | succ o => simp at hc
   have hb : (w.setCell ⟨k, 0, none⟩ v).heap[b]? = w.heap[b]? := Below.heap_setCell _ _ _ _ hne
   refine .inr ⟨b, o, h1, Nat.lt_of_lt_of_le h2.lt ((Below.refl 0 w).setCell (p := ⟨k, 0, none⟩) (Nat.zero_le _) v).size, fun j d hd => ?_, fun j d hd => ⟨textsH_set (h2.sub j d hd).1 hk hs v, (h2.sub j d hd).2⟩⟩
   have hc : ∀ i, (w.setCell ⟨k, 0, none⟩ v).cell? ⟨b, i, none⟩ = w.cell? ⟨b, i, none⟩ := fun i => World.cell?_of_block hb
   simp only [hc]
   exact h2.cell j d hd
theorem dir_enters : ∀ args w, (callFunc 72 args).run Tryz.prog w = .ok (.enter 72 args) w := enters_of Tryz.func72 (by kernel_rfl) rfl
theorem tdir_enters : ∀ args w, (callFunc 71 args).run Tryz.prog w = .ok (.enter 71 args) w := enters_of Tryz.func71 (by kernel_rfl) rfl
end Go.Proofs.W
namespace Go.Proofs.W
open Go Go.Proofs Go.RowKit Go.Op Go.Sort
set_option maxRecDepth 1000000
def comeE (fs : List FileV) (f : FileV) : Int :=
 if pathR f.path then if hasP (pathsOf fs) f.path then 10 else if dirIs fs (dirP f.path) then if linesE f.lines = 0 then if f.dir && decide (0 < f.lines.length) then 6 else 0 else linesE f.lines else 9 else 8
def ComeRetX (fs : List FileV) (f : FileV) (e : Ending) (w' : World) : Prop := (comeE fs f ≠ 0 ∧ e = .returned (.tuple #[.agg #[.slice none 0 0], .int .i64 (comeE fs f)])) ∨
 (comeE fs f = 0 ∧ pathR f.path = true ∧ hasP (pathsOf fs) f.path = false ∧ ∃ (a' : Option Addr) (c' : Nat) (g : FileV), g.path = f.path ∧ g.dir = f.dir ∧ g.lines = f.lines ∧ e = .returned (.tuple #[.agg #[.slice a' (fs.length + 1) c'], .int .i64 0]) ∧ FilesH w' a' (fs.take (rankP (pathsOf fs) f.path) ++ g :: fs.drop (rankP (pathsOf fs) f.path)))
set_option maxHeartbeats 16000000 in
theorem tree_comeX (a : Option Addr) (c : Nat) (fs : List FileV) (f : FileV) (w : World) (h : FilesH w a fs) (hf : FsOk fs) (hp : f.path.size < 4294967281) (hm : HasM w) (hU : HasU w) (ht : TextsH w f.la f.lines) (hl : f.lines.length ≤ 1000000) (hls : ∀ s, s ∈ f.lines → s.size ≤ 9223372036854775807) (hlen : fs.length < 1000000) :
  Calls Tryz.prog 30 #[.agg #[.slice a fs.length c], f.val] w fun e w' => ComeRetX fs f e w' ∧ Below w.heap.size w w' := by
 have mixed : Tryz.prog.follows .mixedOrders = true := by kernel_rfl
 obtain ⟨W, hW⟩ : ∃ W, W = ((w.alloc (.cells #[.slice a fs.length c] 27)).alloc (.cells #[.string f.path, .bool f.dir, .slice f.la f.lines.length f.lc] 56)).alloc (.cells #[.slice none 0 0] 27) := ⟨_, rfl⟩
 have hA : Below w.heap.size w W := by rw [hW]; exact belowTrans (belowTrans (belowAlloc _ _) (belowAlloc _ _)) (belowAlloc _ _)
 have hz : W.heap.size = w.heap.size + 3 := by rw [hW]; simp
 have b1 : W.heap[w.heap.size]? = some (.cells #[.slice a fs.length c] 27 (0, 0)) := by
  rw [hW, Below.heap_alloc _ _ _ (by simp; omega), Below.heap_alloc _ _ _ (by simp)]
  exact (MapKept.heap_alloc w _).1
 have b2 : W.heap[w.heap.size + 1]? = some (.cells #[.string f.path, .bool f.dir, .slice f.la f.lines.length f.lc] 56 (0, 0)) := by
  rw [hW, Below.heap_alloc _ _ _ (by simp), show w.heap.size + 1 = (w.alloc (.cells #[.slice a fs.length c] 27)).heap.size by simp]
  exact (MapKept.heap_alloc _ _).1
 have b3 : W.heap[w.heap.size + 2]? = some (.cells #[.slice none 0 0] 27 (0, 0)) := by
  rw [hW, show w.heap.size + 2 = ((w.alloc (.cells #[.slice a fs.length c] 27)).alloc (.cells #[.string f.path, .bool f.dir, .slice f.la f.lines.length f.lc] 56)).heap.size by simp]
  exact (MapKept.heap_alloc _ _).1
 have box : ∀ W', Below W.heap.size W W' → W'.cell? ⟨w.heap.size, 0, none⟩ = some (.slice a fs.length c) ∧ W'.cell? ⟨w.heap.size + 1, 0, none⟩ = some (.string f.path) ∧ W'.cell? ⟨w.heap.size + 1, 1, none⟩ = some (.bool f.dir) ∧ W'.cell? ⟨w.heap.size + 1, 2, none⟩ = some (.slice f.la f.lines.length f.lc) ∧ W'.cell? ⟨w.heap.size + 2, 0, none⟩ = some (.slice none 0 0) ∧ (∀ k, W'.frozen? ⟨w.heap.size + 2, k, none⟩ = false) ∧ W'.heap[w.heap.size + 2]? = some (.cells #[.slice none 0 0] 27 (0, 0)) := fun W' hb => by
  have c1 := (hb.block w.heap.size (by omega)).trans b1
  have c2 := (hb.block (w.heap.size + 1) (by omega)).trans b2
  have c3 := (hb.block (w.heap.size + 2) (by omega)).trans b3
  exact ⟨by simp [World.cell?, c1], by simp [World.cell?, c2], by simp [World.cell?, c2], by simp [World.cell?, c2], by simp [World.cell?, c3], fun k => frozen_of_row W' _ k _ _ c3, c3⟩
 have BOX : Hid _ := box
 have hA' : Hid (Below w.heap.size w W) := hA
 unfold FileV.val
 have hright := path_Right f.path W hp (hm.below hA)
 obtain ⟨x0, x1, x2, x3, x4, x5, x6⟩ := box W (Below.refl _ _)
 clear box b1 b2 b3 hA
 cases hpr : pathR f.path with
 | false =>
  have HE : Hid (comeE fs f = 8) := by show _ = _; unfold comeE; rw [hpr]; rfl
  rw [hpr] at hright
  go_enter Tryz.func30, Tryz.ntmps30
  go_wp2_with fail
  simp only [← hW]
  refine hright.mono ?_
  rintro e w2 ⟨rfl, hb2⟩
  obtain ⟨y0, y1, y2, y3, y4, y5, y6⟩ := BOX.out w2 hb2
  have HB : Hid (Below w.heap.size w w2) := belowTrans hA'.out hb2
  have H6 : Hid _ := y6
  clear x0 x1 x2 x3 x4 x5 x6 y6 hright
  go_wp2
  have hfin := setCell_block (.slice none 0 0) H6.out (i := 0)
  refine bodyPost_ret_by (results_cell_row_tmp (p := 4) (u := 5) rfl _ _ (w.heap.size + 2) _ _ _ _ ?hp hfin Tryz.underlying27 rfl (by kernel_rfl)) rfl ⟨Or.inl ⟨by rw [HE.out]; decide, by rw [HE.out]; rfl⟩, HB.out.setCell (by show _ ≤ w.heap.size + 2; omega) _⟩
  case hp => rfl
 | true =>
  rw [hpr] at hright
  have HPR : Hid (pathR f.path = true) := hpr
  clear hpr
  go_enter Tryz.func30, Tryz.ntmps30
  go_wp2_with fail
  simp only [← hW]
  refine hright.mono ?_
  rintro e w2 ⟨rfl, hb2⟩
  obtain ⟨y0, y1, y2, y3, y4, y5, y6⟩ := BOX.out w2 hb2
  have hB2 : Below w.heap.size w w2 := belowTrans hA'.out hb2
  have hget := tree_Get a c fs f.path w2 (h.below hB2) hf hp (hm.below hB2)
  clear x0 x1 x2 x3 x4 x5 x6 y6 hright
  go_wp2_with fail
  refine Calls.mono hget ?_
  rintro e w3 ⟨⟨g, rfl, hgs, _⟩, hb3⟩
  clear hget hgs y0 y1 y2 y3 y4 y5
  have hB3 := belowTrans hb2 hb3
  have hA4 := belowAlloc w3 (.cells #[.string g.path, .bool g.dir, .slice g.la g.lines.length g.lc] 56)
  have hB4 := belowTrans hB3 hA4
  obtain ⟨y0, y1, y2, y3, y4, y5, y6⟩ := BOX.out _ hB4
  have hchk := lines_CheckX f.la f.lc f.lines _ (ht.below (belowTrans hA'.out hB4)) (by omega) hls (hU.below (belowTrans hA'.out hB4))
  obtain ⟨en, hen0⟩ : ∃ en, linesE f.lines = en := ⟨_, rfl⟩
  rw [hen0] at hchk
  have HEN : Hid (linesE f.lines = en) := hen0
  clear hen0
  have HC : Hid _ := hchk
  have HB4 : Hid _ := hB4
  clear y6 hchk hB4 hA4 hB3 hb3
  unfold FileV.val
  go_wp2_with fail
  refine Calls.mono HC.out ?_
  rintro e w5 ⟨rfl, hb5⟩
  clear HC y0 y1 y2 y3 y4 y5
  have hB5 := belowTrans HB4.out hb5
  obtain ⟨y0, y1, y2, y3, y4, y5, y6⟩ := BOX.out w5 hB5
  have HB5 : Hid (Below W.heap.size W w5) := hB5
  have HW5 : Hid (Below w.heap.size w w5) := belowTrans hA'.out hB5
  have H6 : Hid _ := y6
  clear hB5 HB4 hb5 y6
  cases his : hasP (pathsOf fs) f.path with
  | true =>
   have HE : Hid (comeE fs f = 10) := by show _ = _; unfold comeE; rw [HPR.out, his]; rfl
   go_wp2
   have hfin := setCell_block (.slice none 0 0) H6.out (i := 0)
   refine bodyPost_ret_by (results_cell_row_tmp (p := 4) (u := 5) rfl _ _ (w.heap.size + 2) _ _ _ _ ?hp hfin Tryz.underlying27 rfl (by kernel_rfl)) rfl ⟨Or.inl ⟨by rw [HE.out]; decide, by rw [HE.out]; rfl⟩, HW5.out.setCell (by show _ ≤ w.heap.size + 2; omega) _⟩
   case hp => rfl
  | false =>
   have HS : Hid _ := his
   clear his y0 y1 y2 y3 y4 y5
   have hD : ∀ n os, Calls Tryz.prog 72 #[.string f.path] (Sort.grow (w5.drewN n) os) fun e w' => e = .returned (.string (dirP f.path)) ∧ ∃ q os', w' = Sort.grow ((Sort.grow (w5.drewN n) os).drewN q) os' := fun n os => (path_Dir f.path _ hp (hm.below (belowTrans HW5.out (belowGrow w5 n os)))).grows
   have hT : ∀ n os, Calls Tryz.prog 71 #[.agg #[.slice a fs.length c], .string (dirP f.path)] (Sort.grow (w5.drewN n) os) fun e w' => e = .returned (.bool (dirIs fs (dirP f.path))) ∧ ∃ q os', w' = Sort.grow ((Sort.grow (w5.drewN n) os).drewN q) os' := fun n os => (tree_dir a c fs _ _ (h.below (belowTrans HW5.out (belowGrow w5 n os))) hf (Nat.lt_of_le_of_lt (dirP_size f.path) hp) (hm.below (belowTrans HW5.out (belowGrow w5 n os)))).grows
   have q0 : ∀ n os, (Sort.grow (w5.drewN n) os).cell? ⟨w.heap.size, 0, none⟩ = some (.slice a fs.length c) := fun n os => (BOX.out _ (belowTrans HB5.out (belowGrow w5 n os))).1
   have q1 : ∀ n os, (Sort.grow (w5.drewN n) os).cell? ⟨w.heap.size + 1, 0, none⟩ = some (.string f.path) := fun n os => (BOX.out _ (belowTrans HB5.out (belowGrow w5 n os))).2.1
   obtain ⟨dp, hdp⟩ : ∃ dp, dirP f.path = dp := ⟨_, rfl⟩
   rw [hdp] at hD hT
   obtain ⟨td, htd⟩ : ∃ td, dirIs fs dp = td := ⟨_, rfl⟩
   rw [htd] at hT
   have HTD : Hid (dirIs fs (dirP f.path) = td) := by show _ = _; rw [hdp, htd]
   clear hdp htd
   have hgB := belowGrow w5
   have HGB : Hid _ := hgB
   have eg1 := dir_enters
   have eg2 := tdir_enters
   clear hgB H6
   cases td with
   | false =>
    have HE : Hid (comeE fs f = 9) := by show _ = _; unfold comeE; rw [HPR.out, HS.out, HTD.out]; rfl
    go_wp2_with fail
    go_quiet_grown (first | (go_at_fn 72; refine Calls.grown_of (hD _ _)) | (go_at_fn 71; refine Calls.grown_of (hT _ _)))
    clear hD hT q0 q1
    have hB6 := HGB.out nq osq
    generalize Sort.grow (w5.drewN nq) osq = w6 at hB6 ⊢
    have HB6 : Hid _ := belowTrans HW5.out hB6
    obtain ⟨y0, y1, y2, y3, y4, y5, y6⟩ := BOX.out w6 (belowTrans HB5.out hB6)
    have H6 : Hid _ := y6
    clear hB6 y6
    go_wp2
    have hfin := setCell_block (.slice none 0 0) H6.out (i := 0)
    refine bodyPost_ret_by (results_cell_row_tmp (p := 4) (u := 5) rfl _ _ (w.heap.size + 2) _ _ _ _ ?hp hfin Tryz.underlying27 rfl (by kernel_rfl)) rfl ⟨Or.inl ⟨by rw [HE.out]; decide, by rw [HE.out]; rfl⟩, HB6.out.setCell (by show _ ≤ w.heap.size + 2; omega) _⟩
    case hp => rfl
   | true =>
    go_wp2_with fail
    go_quiet_grown (first | (go_at_fn 72; refine Calls.grown_of (hD _ _)) | (go_at_fn 71; refine Calls.grown_of (hT _ _)))
    clear hD hT q0 q1
    have hB6 := HGB.out nq osq
    generalize Sort.grow (w5.drewN nq) osq = w6 at hB6 ⊢
    have HB6 : Hid _ := belowTrans HW5.out hB6
    obtain ⟨y0, y1, y2, y3, y4, y5, y6⟩ := BOX.out w6 (belowTrans HB5.out hB6)
    have H6 : Hid _ := y6
    have HB6' : Hid (Below W.heap.size W w6) := belowTrans HB5.out hB6
    clear hB6 y6
    by_cases hen : en = 0
    ·subst hen
     have HE0 : Hid (comeE fs f = if f.dir && decide (0 < f.lines.length) then 6 else 0) := by show _ = _; unfold comeE; rw [HPR.out, HS.out, HTD.out, HEN.out]; rfl
     have hw := tree_with a c fs f w6 (h.below HB6.out) hf hp (hm.below HB6.out) (ht.below HB6.out) hl HS.out hlen
     unfold FileV.val at hw
     have HWT : Hid _ := hw
     clear hw
     cases hdd : f.dir with
     | false =>
      have HE : Hid (comeE fs f = 0) := by show _ = _; rw [HE0.out, hdd]; rfl
      rw [hdd] at HWT y2
      go_wp2_with fail
      refine Calls.mono HWT.out ?_
      rintro e w7 ⟨⟨a', c', g, hg1, hg2, hg3, rfl, hF⟩, hb7⟩
      clear y0 y1 y2 y3 y4 y5
      obtain ⟨y0, y1, y2, y3, y4, y5, y6⟩ := BOX.out w7 (belowTrans HB6'.out hb7)
      have HB7 : Hid _ := belowTrans HB6.out hb7
      have H7 : Hid _ := y6
      clear hb7 y6
      have hFF := filesH_set hF H7.out (fun x => by simp) (.slice a' (fs.length + 1) c')
      have HFF : Hid _ := hFF
      clear hF hFF
      go_wp2
      have hfin := setCell_block (.slice a' (fs.length + 1) c') H7.out (i := 0)
      refine bodyPost_ret_by (results_cell_row_tmp (p := 4) (u := 5) rfl _ _ (w.heap.size + 2) _ _ _ _ ?hp hfin Tryz.underlying27 rfl (by kernel_rfl)) rfl ⟨Or.inr ⟨HE.out, HPR.out, HS.out, a', c', g, hg1, hg2, hg3, rfl, HFF.out⟩, HB7.out.setCell (by show _ ≤ w.heap.size + 2; omega) _⟩
      case hp => rfl
     | true =>
      have hdd' := hdd
      rw [hdd] at HWT y2
      by_cases hll : 0 < f.lines.length
      ·have hl1 : (0 : Int) < (f.lines.length : Int) := by omega
       have HE : Hid (comeE fs f = 6) := by show _ = _; rw [HE0.out, hdd', decide_eq_true hll]; rfl
       clear HWT
       go_wp2
       have hfin := setCell_block (.slice none 0 0) H6.out (i := 0)
       refine bodyPost_ret_by (results_cell_row_tmp (p := 4) (u := 5) rfl _ _ (w.heap.size + 2) _ _ _ _ ?hp hfin Tryz.underlying27 rfl (by kernel_rfl)) rfl ⟨Or.inl ⟨by rw [HE.out]; decide, by rw [HE.out]; rfl⟩, HB6.out.setCell (by show _ ≤ w.heap.size + 2; omega) _⟩
       case hp => rfl
      ·have hl1 : ¬ (0 : Int) < (f.lines.length : Int) := by omega
       have HE : Hid (comeE fs f = 0) := by show _ = _; rw [HE0.out, hdd', decide_eq_false hll]; rfl
       go_wp2_with fail
       refine Calls.mono HWT.out ?_
       rintro e w7 ⟨⟨a', c', g, hg1, hg2, hg3, rfl, hF⟩, hb7⟩
       clear y0 y1 y2 y3 y4 y5
       obtain ⟨y0, y1, y2, y3, y4, y5, y6⟩ := BOX.out w7 (belowTrans HB6'.out hb7)
       have HB7 : Hid _ := belowTrans HB6.out hb7
       have H7 : Hid _ := y6
       clear hb7 y6
       have hFF := filesH_set hF H7.out (fun x => by simp) (.slice a' (fs.length + 1) c')
       have HFF : Hid _ := hFF
       clear hF hFF
       go_wp2
       have hfin := setCell_block (.slice a' (fs.length + 1) c') H7.out (i := 0)
       refine bodyPost_ret_by (results_cell_row_tmp (p := 4) (u := 5) rfl _ _ (w.heap.size + 2) _ _ _ _ ?hp hfin Tryz.underlying27 rfl (by kernel_rfl)) rfl ⟨Or.inr ⟨HE.out, HPR.out, HS.out, a', c', g, hg1, hg2, hg3, rfl, HFF.out⟩, HB7.out.setCell (by show _ ≤ w.heap.size + 2; omega) _⟩
       case hp => rfl
    ·have HE : Hid (comeE fs f = en) := by show _ = _; unfold comeE; rw [HPR.out, HS.out, HTD.out, if_pos rfl, if_neg (by simp), if_pos rfl, if_neg (by rw [HEN.out]; exact hen), HEN.out]
     go_wp2
     have hfin := setCell_block (.slice none 0 0) H6.out (i := 0)
     refine bodyPost_ret_by (results_cell_row_tmp (p := 4) (u := 5) rfl _ _ (w.heap.size + 2) _ _ _ _ ?hp hfin Tryz.underlying27 rfl (by kernel_rfl)) rfl ⟨Or.inl ⟨by rw [HE.out]; exact hen, by rw [HE.out]; rfl⟩, HB6.out.setCell (by show _ ≤ w.heap.size + 2; omega) _⟩
     case hp => rfl
end Go.Proofs.W
