/- A PART OF THE PROOF THAT SAVETEXTS HOLDS FOR EVERY INPUT OF BULK AT MOST 1048576. No condition beyond the given statement. This part: WWork. -/
import Derived.Test.YtciahohaonhdgaaGreatDoorWOwn
import Derived.Test.YtciahohaonhdgaaGreatDoorWHead
import Derived.Deep.LoopGhost
import Derived.Test.YtciahohaonhdgaaGreatDoorWTrack
namespace Go.Proofs.W
open Go Go.Proofs Go.RowKit Go.Op
set_option maxRecDepth 1000000
structure FilesOwn (base : Nat) (w : World) (v : Value) (ys : List FileV) : Prop where
 row : w.ownsRow base 56 3 v ys.length (ys.flatMap FileV.cells)
 sub : ∀ y, y ∈ ys → w.ownsRow base 9 1 (.slice y.la y.lines.length y.lc) y.lines.length (y.lines.map Value.string) ∧ y.lines.length ≤ 1000000
theorem filesAt_row {w : World} {base g c : Nat} {xs : List FileV} (h : w.ownsRow base 56 3 (.slice (some ⟨g, 0, none⟩) xs.length c) xs.length (xs.flatMap FileV.cells)) (hs : ∀ y, y ∈ xs → TextsH w y.la y.lines ∧ y.lines.length < 9223372036854775808) (hne : 0 < xs.length) : FilesAt w g 0 xs := by
 obtain ⟨g', cur, e, _, hh⟩ := row_at h hne
 cases e
 refine ⟨(Array.getElem?_eq_some_iff.1 hh).1, fun j d hd => ?_, fun j d hd => hs d (List.mem_of_getElem? hd)⟩
 have hj : j < xs.length := (List.getElem?_eq_some_iff.1 hd).1
 have hc : ∀ i, i < xs.length * 3 → w.cell? ⟨g, i, none⟩ = (xs.flatMap FileV.cells)[i]? := fun i hi => h.cellAt i (by omega)
 have hv : ∀ r, r < 3 → (xs.flatMap FileV.cells)[j * 3 + r]? = (FileV.cells d)[r]? := fun r hr => flatMap_at FileV.cells 3 fileCells_len xs j r d hd hr
 simp only [Nat.zero_add]
 refine ⟨?_, ?_, ?_⟩
 ·have := hv 0 (by decide)
  rw [hc (j * 3) (by omega), show j * 3 = j * 3 + 0 from rfl, this]
  rfl
 ·have := hv 1 (by decide)
  rw [hc (j * 3 + 1) (by omega), this]
  rfl
 ·have := hv 2 (by decide)
  rw [hc (j * 3 + 2) (by omega), this]
  rfl
theorem FilesOwn.filesH {base : Nat} {w : World} {a : Option Addr} {c : Nat} {ys : List FileV} (h : FilesOwn base w (.slice a ys.length c) ys) : FilesH w a ys := by
 rcases h.row.2 with ⟨_, h0⟩ | ⟨g, cap, cur, e, _⟩
 ·exact .inl h0
 ·cases e
  by_cases h0 : ys.length = 0
  ·exact .inl h0
  ·exact .inr ⟨g, 0, rfl, filesAt_row h.row (fun y hy => ⟨textsH_own (h.sub y hy).1, by have := (h.sub y hy).2; omega⟩) (by omega)⟩
def AllRet (fs : List FileV) (e : Ending) (w' : World) : Prop := ∃ (a' : Option Addr) (c' : Nat) (ys : List FileV), ys.length = fs.length ∧ ys.map FileV.key = fs.map FileV.key ∧ e = .returned (.slice a' ys.length c') ∧ FilesH w' a' ys ∧ ∀ y, y ∈ ys → y.lines.length ≤ 1000000
set_option maxHeartbeats 16000000 in
theorem tree_All (a : Option Addr) (c : Nat) (fs : List FileV) (w : World) (h : FilesH w a fs) (hl : ∀ f, f ∈ fs → f.lines.length ≤ 1000000) (hlen : fs.length ≤ 1000000) :
  Calls Tryz.prog 10 #[.agg #[.slice a fs.length c]] w fun e w' => AllRet fs e w' ∧ Below w.heap.size w w' := by
 obtain ⟨io, hio, hz0, hz1, hz2⟩ := info_file
 have hA := belowAlloc w (.cells #[.slice a fs.length c] 27)
 have q0 : (w.alloc (.cells #[.slice a fs.length c] 27)).cell? ⟨w.heap.size, 0, none⟩ = some (.slice a fs.length c) := by rw [cell_newBlock]; rfl
 have HA : Hid _ := hA
 go_enter Tryz.func10, Tryz.ntmps10
 clear hA
 go_wp2
 clear q0
 go_loopg [3, 9] fs.length (fun kx s3 s9 wr => ∃ (i : Nat) (ta : Option Addr) (tc : Nat) (ys : List FileV), s3 = .slice ta i tc ∧ s9 = .int .i64 i ∧ i ≤ fs.length ∧ fs.length - i ≤ kx ∧ Hid (ys.length = i ∧ ys.map FileV.key = (fs.take i).map FileV.key ∧ FilesOwn w.heap.size wr (.slice ta i tc) ys ∧ Below w.heap.size w wr))
 case atStart =>
  refine ⟨0, none, 0, [], rfl, rfl, Nat.zero_le _, Nat.le_refl _, rfl, rfl, ⟨World.ownsRow_nil _ _ _ _, fun _ hy => (by cases hy)⟩, HA.out⟩
 case round =>
  obtain ⟨i, ta, tc, ys, rfl, rfl, hin, hkx, REL⟩ := hrel
  by_cases hlt : i < fs.length
  ·obtain ⟨r1, r2, r3, r4⟩ := REL.out
   obtain ⟨b, o, rfl, hN⟩ : ∃ b o, a = some ⟨b, o, none⟩ ∧ FilesAt w b o fs := h.resolve_left (by omega)
   obtain ⟨f, hf⟩ : ∃ f, fs[i]? = some f := ⟨_, List.getElem?_eq_getElem hlt⟩
   have hff : f ∈ fs := List.mem_of_getElem? hf
   obtain ⟨e0, e1, e2⟩ := (hN.below r4).cell i f hf
   have hiz : (i : Int) < (fs.length : Int) := by omega
   have hB5 := belowAlloc wr (.cells #[.string f.path, .bool f.dir, .slice f.la f.lines.length f.lc] 56)
   have hown := tree_own f _ (((hN.sub i f hf).1.below r4).below hB5) (hl f hff)
   have HO : Hid _ := hown
   have H5 : Hid _ := hB5
   clear hown hB5 r1 r2 r3 r4 hN
   go_wp2_with fail
   refine Calls.mono HO.out ?_
   rintro e w6 ⟨⟨la, lc, rfl, hown⟩, hb6⟩
   obtain ⟨r1, r2, r3, r4⟩ := REL.out
   have hB6 := belowTrans H5.out hb6
   have hB6' := belowTrans r4 hB6
   unfold FileV.val
   subst r1
   have hown3 := ownsRow_below r3.row hB6
   have hsub : ∀ y, y ∈ ys → w6.ownsRow w.heap.size 9 1 (.slice y.la y.lines.length y.lc) y.lines.length (y.lines.map Value.string) := fun y hy => ownsRow_below (r3.sub y hy).1 hB6
   have hown := ownsRow_base (b' := w.heap.size) hown (Nat.le_trans r4.size H5.out.size)
   go_wp2_with (at_builtin; refine wpList_append_src _ rfl (.tmp 13) (.tmp 16) 22 rfl w.heap.size 56 io _ 3 _ Tryz.underlying22 hio hz0 hz1 hz2 rfl (by decide) _ ys.length _ rfl (hown3.alloc _) _ 1 [.string f.path, .bool f.dir, .slice la f.lines.length lc] rfl (.inr ⟨_, _, rfl, rfl, ?src⟩) ?one ?len3 ?bytes3 ?base3 ?_)
   case src =>
    intro j u hu
    rw [Addr.add_lit, cell_new2 _ _ rfl]
    simpa using hu
   case one =>
    intro u hu
    simp only [List.mem_cons, List.not_mem_nil, or_false] at hu
    rcases hu with rfl | rfl | rfl <;> rfl
   case len3 => unfold maxLen; omega
   case bytes3 => omega
   case base3 => have := hB6'.size; rw [allocSize]; omega
   intro v' w' hown' hg _
   rcases hown'.2 with ⟨_, h0⟩ | ⟨g, cap, cur, rfl, hg1, hg2, _⟩
   ·omega
   have hb7 : Below w.heap.size w w' := (hB6'.alloc hB6'.size _).grown hg (by rw [allocSize]; have := hB6'.size; omega) (fun k hk => (hown3.lt k hk).1)
   have hst : ∀ {y : FileV}, w6.ownsRow w.heap.size 9 1 (.slice y.la y.lines.length y.lc) y.lines.length (y.lines.map Value.string) → w'.ownsRow w.heap.size 9 1 (.slice y.la y.lines.length y.lc) y.lines.length (y.lines.map Value.string) := fun hy => kept_other (hy.alloc _) (hown3.alloc _) (by decide) hg
   have HN : Hid (FilesOwn w.heap.size w' (.slice (some ⟨g, 0, none⟩) (ys.length + 1) cap) (ys ++ [⟨f.path, f.dir, f.lines, la, lc⟩])) := by
    refine ⟨?_, fun y hy => ?_⟩
    ·rw [List.length_append, List.flatMap_append]
     exact hown'
    ·rcases List.mem_append.1 hy with hy | hy
     ·exact ⟨hst (hsub y hy), (r3.sub y hy).2⟩
     ·obtain rfl := List.mem_singleton.1 hy
      exact ⟨hst (y := ⟨f.path, f.dir, f.lines, la, lc⟩) hown, hl f hff⟩
   have HB7 : Hid _ := hb7
   have HK : Hid ((ys ++ [(⟨f.path, f.dir, f.lines, la, lc⟩ : FileV)]).map FileV.key = (fs.take (ys.length + 1)).map FileV.key) := by
    show _ = _
    rw [List.map_append, r2, List.take_add_one, hf, Option.toList_some, List.map_append]
    rfl
   clear hb7 hst hsub hown hown3 hown' hg hg1 hg2 r2 r3 r4 hB6 hB6' hb6 REL
   go_wp2
   go_roundg (fs.length - (ys.length + 1))
   case measure => omega
   case rel => exact ⟨ys.length + 1, _, _, ys ++ [⟨f.path, f.dir, f.lines, la, lc⟩], rfl, by go_num, by omega, Nat.le_refl _, by simp, HK.out, HN.out, HB7.out⟩
  ·have hiz : ¬ (i : Int) < (fs.length : Int) := by omega
   obtain ⟨r1, r2, r3, r4⟩ := REL.out
   have hi : i = fs.length := by omega
   subst r1
   have hR : Hid (AllRet fs (.returned (.slice ta fs.length tc)) wr) := ⟨ta, tc, ys, hi, by rw [r2, hi, List.take_length], by rw [hi], FilesOwn.filesH r3, fun y hy => (r3.sub y hy).2⟩
   have HB : Hid _ := r4
   clear r2 r3 r4 REL hkx
   go_wp2
   go_ret
   exact ⟨hR.out, HB.out⟩
end Go.Proofs.W
namespace Go.Proofs.W
open Go Go.Proofs Go.RowKit Go.Op
set_option maxRecDepth 1000000
theorem tracksAt_row {w : World} {base g c : Nat} {xs : List TrackV} (h : w.ownsRow base 40 3 (.slice (some ⟨g, 0, none⟩) xs.length c) xs.length (xs.flatMap TrackV.cells)) (hlt : g < w.heap.size) : TracksAt w g 0 xs := by
 refine ⟨hlt, fun j d hd => ?_⟩
 have hj : j < xs.length := (List.getElem?_eq_some_iff.1 hd).1
 have hc : ∀ i, i < xs.length * 3 → w.cell? ⟨g, i, none⟩ = (xs.flatMap TrackV.cells)[i]? := fun i hi => h.cellAt i (by omega)
 have hv : ∀ r, r < 3 → (xs.flatMap TrackV.cells)[j * 3 + r]? = (TrackV.cells d)[r]? := fun r hr => flatMap_at TrackV.cells 3 trackCells_len xs j r d hd hr
 simp only [Nat.zero_add]
 refine ⟨?_, ?_, ?_⟩
 ·have := hv 0 (by decide)
  rw [hc (j * 3) (by omega), show j * 3 = j * 3 + 0 from rfl, this]
  rfl
 ·have := hv 1 (by decide)
  rw [hc (j * 3 + 1) (by omega), this]
  rfl
 ·have := hv 2 (by decide)
  rw [hc (j * 3 + 2) (by omega), this]
  rfl
theorem tracksH_row {w : World} {base : Nat} {a : Option Addr} {c : Nat} {xs : List TrackV} (h : w.ownsRow base 40 3 (.slice a xs.length c) xs.length (xs.flatMap TrackV.cells)) : TracksH w a xs := by
 rcases h.2 with ⟨_, h0⟩ | ⟨g, cap, cur, e, _, hh, _⟩
 ·exact .inl h0
 ·cases e
  exact .inr ⟨g, 0, rfl, tracksAt_row h (Array.getElem?_eq_some_iff.1 hh).1⟩
end Go.Proofs.W
namespace Go.Proofs.W
open Go Go.Proofs Go.RowKit Go.Op
set_option maxRecDepth 1000000
theorem work_Tracks (a ta : Option Addr) (c tc n : Nat) (ts : List TrackV) (w : World) (h : TracksH w ta ts) (hlen : ts.length ≤ 1099511627776) :
  Calls Tryz.prog 17 #[.agg #[.slice a n c, .slice ta ts.length tc]] w fun e w' => (∃ v', e = .returned v' ∧ w'.ownsRow (w.heap.size + 1) 40 3 v' ts.length (ts.flatMap TrackV.cells)) ∧ Below w.heap.size w w' := by
 have hA := belowAlloc w (.cells #[.slice a n c, .slice ta ts.length tc] 42)
 have hc := cloneTracks ta tc ts _ (h.below hA) hlen
 rw [show (w.alloc (.cells #[.slice a n c, .slice ta ts.length tc] 42)).heap.size = w.heap.size + 1 by simp] at hc
 have HC : Hid _ := hc
 have HA : Hid _ := hA
 clear hc hA
 go_enter Tryz.func17, Tryz.ntmps17
 go_wp2_with fail
 refine Calls.mono HC.out ?_
 rintro e w2 ⟨⟨v, rfl, hown⟩, hb⟩
 have HO : Hid _ := hown
 have HB : Hid (Below w.heap.size w w2) := HA.out.trans (hb.mono (Nat.le_succ _))
 clear hown hb
 go_wp2
 go_ret
 exact ⟨⟨_, rfl, HO.out⟩, HB.out⟩
end Go.Proofs.W
namespace Go.Proofs.W
open Go Go.Proofs Go.RowKit Go.Op
set_option maxRecDepth 1000000
theorem work_Tree (a ta : Option Addr) (c tc n m : Nat) (w : World) :
  Calls Tryz.prog 19 #[.agg #[.slice a n c, .slice ta m tc]] w fun e w' => e = .returned (.agg #[.slice a n c]) ∧ Below w.heap.size w w' := by
 go_enter Tryz.func19, Tryz.ntmps19
 go_wp2
 refine bodyPost_ret_by (v := .agg #[.slice a n c]) ?_ rfl ⟨rfl, ?_⟩
 ·exact results_cell_row rfl _ _ (w.heap.size + 1) 27 _ _ _ rfl (by simpa using (MapKept.heap_alloc (w.alloc (.cells #[.slice a n c, .slice ta m tc] 42)) (.cells #[.slice a n c] 27)).1) Tryz.underlying27 rfl (by kernel_rfl)
 ·exact belowTrans (belowAlloc _ _) (belowAlloc _ _)
end Go.Proofs.W
namespace Go.Proofs.W
open Go Go.Proofs Go.RowKit
set_option maxRecDepth 1000000
def FilesAs (fs : List FileV) (a : Option Addr) (ys : List FileV) (W : World) : Prop := ys.length = fs.length ∧ ys.map FileV.key = fs.map FileV.key ∧ FilesH W a ys
theorem FilesAs.below {fs : List FileV} {a : Option Addr} {ys : List FileV} {W W' : World} (h : FilesAs fs a ys W) (hb : Below W.heap.size W W') : FilesAs fs a ys W' := ⟨h.1, h.2.1, h.2.2.below hb⟩
end Go.Proofs.W
