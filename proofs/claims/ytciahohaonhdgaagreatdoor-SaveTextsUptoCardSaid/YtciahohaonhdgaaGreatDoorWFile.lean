/- A PART OF THE PROOF THAT SAVETEXTS HOLDS FOR EVERY INPUT OF BULK AT MOST 1048576. No condition beyond the given statement. This part: WFile. -/
import Derived.Test.YtciahohaonhdgaaGreatDoorWName
import Derived.Test.YtciahohaonhdgaaGreatDoorWHead
import Derived.Test.YtciahohaonhdgaaGreatDoorDrawn
import Derived.Shelf.SlSortCmp.KitK
import Derived.Deep.LoopGhost
namespace Go.Proofs.W
open Go Go.Proofs Go.RowKit Go.Op
set_option maxRecDepth 1000000
set_option maxHeartbeats 4000000 in
theorem tree_order (x y : FileV) (w : World) (hx : x.path.size < 4294967281) (hy : y.path.size < 4294967281) (hm : HasM w) :
  Calls Tryz.prog 29 #[x.val, y.val] w fun e w' => e = .returned (.int .i64 (orderP x.path y.path)) ∧ Below w.heap.size w w' := by
 unfold FileV.val orderP
 have hA := belowTrans (belowAlloc w (.cells #[.string x.path, .bool x.dir, .slice x.la x.lines.length x.lc] 56)) (belowAlloc _ (.cells #[.string y.path, .bool y.dir, .slice y.la y.lines.length y.lc] 56))
 have hl1 : ∀ w, HasM w → Calls Tryz.prog 69 #[.string x.path, .string y.path] w fun e w' => e = .returned (.bool (pathLess x.path y.path)) ∧ Below w.heap.size w w' := fun w h => path_Less _ _ w hx hy h
 have hl2 : ∀ w, HasM w → Calls Tryz.prog 69 #[.string y.path, .string x.path] w fun e w' => e = .returned (.bool (pathLess y.path x.path)) ∧ Below w.heap.size w w' := fun w h => path_Less _ _ w hy hx h
 have q1 : ((w.alloc (.cells #[.string x.path, .bool x.dir, .slice x.la x.lines.length x.lc] 56)).alloc (.cells #[.string y.path, .bool y.dir, .slice y.la y.lines.length y.lc] 56)).cell? ⟨w.heap.size, 0, none⟩ = some (.string x.path) := by
  rw [World.cell?_of_block (Below.heap_alloc _ _ _ (by simp)), cell_newBlock]
  rfl
 have q2 : ((w.alloc (.cells #[.string x.path, .bool x.dir, .slice x.la x.lines.length x.lc] 56)).alloc (.cells #[.string y.path, .bool y.dir, .slice y.la y.lines.length y.lc] 56)).cell? ⟨w.heap.size + 1, 0, none⟩ = some (.string y.path) := by
  rw [show w.heap.size + 1 = (w.alloc (.cells #[.string x.path, .bool x.dir, .slice x.la x.lines.length x.lc] 56)).heap.size by simp, cell_newBlock]
  rfl
 have hz : ((w.alloc (.cells #[.string x.path, .bool x.dir, .slice x.la x.lines.length x.lc] 56)).alloc (.cells #[.string y.path, .bool y.dir, .slice y.la y.lines.length y.lc] 56)).heap.size = w.heap.size + 2 := by simp
 generalize pathLess x.path y.path = r1 at hl1 ⊢
 generalize pathLess y.path x.path = r2 at hl2 ⊢
 have HL1 : Hid _ := hl1
 have HL2 : Hid _ := hl2
 clear hl1 hl2
 cases r1 with
 | true =>
  rw [if_pos rfl]
  go_enter Tryz.func29, Tryz.ntmps29
  go_wp2_with fail
  generalize (w.alloc (.cells #[.string x.path, .bool x.dir, .slice x.la x.lines.length x.lc] 56)).alloc (.cells #[.string y.path, .bool y.dir, .slice y.la y.lines.length y.lc] 56) = W at hA q1 q2 hz ⊢
  refine (HL1.out W (hm.below hA)).mono ?_
  rintro e w2 ⟨rfl, hb2⟩
  go_wp2
  go_ret
  exact ⟨rfl, belowTrans hA hb2⟩
 | false =>
  rw [if_neg (by simp)]
  cases r2 with
  | true =>
   rw [if_pos rfl]
   go_enter Tryz.func29, Tryz.ntmps29
   go_wp2_with fail
   generalize (w.alloc (.cells #[.string x.path, .bool x.dir, .slice x.la x.lines.length x.lc] 56)).alloc (.cells #[.string y.path, .bool y.dir, .slice y.la y.lines.length y.lc] 56) = W at hA q1 q2 hz ⊢
   refine (HL1.out W (hm.below hA)).mono ?_
   rintro e w2 ⟨rfl, hb2⟩
   have p1 := (hb2.cell (p := ⟨w.heap.size, 0, none⟩) (by show w.heap.size < W.heap.size; omega)).trans q1
   have p2 := (hb2.cell (p := ⟨w.heap.size + 1, 0, none⟩) (by show w.heap.size + 1 < W.heap.size; omega)).trans q2
   have hB2 := belowTrans hA hb2
   clear q1 q2
   go_wp2_with fail
   refine (HL2.out w2 (hm.below hB2)).mono ?_
   rintro e w3 ⟨rfl, hb3⟩
   go_wp2
   go_ret
   exact ⟨rfl, belowTrans hB2 hb3⟩
  | false =>
   rw [if_neg (by simp)]
   go_enter Tryz.func29, Tryz.ntmps29
   go_wp2_with fail
   generalize (w.alloc (.cells #[.string x.path, .bool x.dir, .slice x.la x.lines.length x.lc] 56)).alloc (.cells #[.string y.path, .bool y.dir, .slice y.la y.lines.length y.lc] 56) = W at hA q1 q2 hz ⊢
   refine (HL1.out W (hm.below hA)).mono ?_
   rintro e w2 ⟨rfl, hb2⟩
   have p1 := (hb2.cell (p := ⟨w.heap.size, 0, none⟩) (by show w.heap.size < W.heap.size; omega)).trans q1
   have p2 := (hb2.cell (p := ⟨w.heap.size + 1, 0, none⟩) (by show w.heap.size + 1 < W.heap.size; omega)).trans q2
   have hB2 := belowTrans hA hb2
   clear q1 q2
   go_wp2_with fail
   refine (HL2.out w2 (hm.below hB2)).mono ?_
   rintro e w3 ⟨rfl, hb3⟩
   go_wp2
   go_ret
   exact ⟨rfl, belowTrans hB2 hb3⟩
theorem order_enters : ∀ args w, (callFunc 29 args).run Tryz.prog w = .ok (.enter 29 args) w := enters_of Tryz.func29 (by kernel_rfl) rfl
end Go.Proofs.W
namespace Go.Proofs.W
open Go Go.Proofs Go.RowKit Go.Op Go.Sort
set_option maxRecDepth 1000000
theorem belowGrow (W : World) (q : Nat) (os : Array Obj) : Below W.heap.size W (grow (W.drewN q) os) :=
 ⟨rfl, rfl, rfl, by simp [grow, World.drewN], fun k hk => by show (W.heap ++ os)[k]? = _; rw [Array.getElem?_append_left hk]⟩
end Go.Proofs.W
namespace Go.Proofs.W
open Go Go.Proofs Go.RowKit Go.Op Go.Sort
set_option maxRecDepth 1000000
theorem HasM.grow {W : World} (h : HasM W) (q : Nat) (os : Array Obj) : HasM (grow (W.drewN q) os) := h.below (belowGrow W q os)
def pathsOf (fs : List FileV) : List ByteArray := fs.map (·.path)
def hasP (ps : List ByteArray) (p : ByteArray) : Bool := decide (ps[rankP ps p]? = some p)
theorem hasP_iff {ps : List ByteArray} (h : Rising pathLess ps) (p : ByteArray) : hasP ps p = true ↔ p ∈ ps := by
 unfold hasP
 rw [decide_eq_true_eq, rankP_mem h]
set_option maxHeartbeats 8000000 in
theorem file_search (a : Option Addr) (c : Nat) (fs : List FileV) (t : FileV) (w : World) (h : FilesH w a fs) (hr : Rising pathLess (pathsOf fs)) (hsz : ∀ f, f ∈ fs → f.path.size < 4294967281) (ht : t.path.size < 4294967281) (hm : HasM w) (hlen : fs.length < 4611686018427387904) :
  Calls Tryz.prog 131 #[.slice a fs.length c, t.val, .func (.func 29) #[] #[]] w fun e w' => e = .returned (.tuple #[.int .i64 (rankP (pathsOf fs) t.path), .bool (hasP (pathsOf fs) t.path)]) ∧ Below w.heap.size w w' := by
 have mixed : Tryz.prog.follows .mixedOrders = true := by kernel_rfl
 have eg := order_enters
 have hA := belowAlloc w (.cells #[.string t.path, .bool t.dir, .slice t.la t.lines.length t.lc] 56)
 have hbx := (MapKept.heap_alloc w (.cells #[.string t.path, .bool t.dir, .slice t.la t.lines.length t.lc] 56)).1
 have hz1 : (w.alloc (.cells #[.string t.path, .bool t.dir, .slice t.la t.lines.length t.lc] 56)).heap.size = w.heap.size + 1 := by simp
 have R : Hid (Rising pathLess (pathsOf fs)) := hr
 have HS : Hid (∀ f, f ∈ fs → f.path.size < 4294967281) := hsz
 have hrk : rankP (pathsOf fs) t.path ≤ fs.length := by have := rankP_le (pathsOf fs) t.path; unfold pathsOf at this ⊢; rwa [List.length_map] at this
 clear hr hsz
 generalize hrank : rankP (pathsOf fs) t.path = rk at hrk ⊢
 have RK : Hid (rankP (pathsOf fs) t.path = rk) := hrank
 clear hrank
 generalize hfin : hasP (pathsOf fs) t.path = fin
 have FIN : Hid (hasP (pathsOf fs) t.path = fin) := hfin
 clear hfin
 unfold FileV.val
 go_enter Tryz.func131, Tryz.ntmps131
 go_wp2
 go_loopw [9, 10] (fun x y w' => ∃ lo hi : Nat, x = .int .i64 lo ∧ y = .int .i64 hi ∧ lo ≤ rk ∧ rk ≤ hi ∧ hi ≤ fs.length ∧ Below w.heap.size w w' ∧ w'.heap[w.heap.size]? = some (.cells #[.string t.path, .bool t.dir, .slice t.la t.lines.length t.lc] 56 (0, 0))) (fun x y _ => (intOf y).toNat - (intOf x).toNat)
 case atStart => exact ⟨0, fs.length, rfl, rfl, Nat.zero_le _, hrk, Nat.le_refl _, hA, hbx⟩
 case round =>
  obtain ⟨lo, hi, rfl, rfl, hlo, hhi, hin, hB, hbW⟩ := hrel
  have q0 : ∀ n os, (grow (wr.drewN n) os).cell? ⟨w.heap.size, 0, none⟩ = some (.string t.path) := fun n os => cell_grown (Array.getElem?_eq_some_iff.1 hbW).1 (by simp [World.cell?, hbW]) n os
  have q1 : ∀ n os, (grow (wr.drewN n) os).cell? ⟨w.heap.size, 1, none⟩ = some (.bool t.dir) := fun n os => cell_grown (Array.getElem?_eq_some_iff.1 hbW).1 (by simp [World.cell?, hbW]) n os
  have q2 : ∀ n os, (grow (wr.drewN n) os).cell? ⟨w.heap.size, 2, none⟩ = some (.slice t.la t.lines.length t.lc) := fun n os => cell_grown (Array.getElem?_eq_some_iff.1 hbW).1 (by simp [World.cell?, hbW]) n os
  by_cases hlt : lo < hi
  ·obtain ⟨b, o, rfl, hN⟩ : ∃ b o, a = some ⟨b, o, none⟩ ∧ FilesAt w b o fs := h.resolve_left (by omega)
   obtain ⟨m, hmm⟩ : ∃ m, m = (lo + hi) / 2 := ⟨_, rfl⟩
   have hmi : ((lo : Int) + (hi : Int)) / 2 = (m : Int) := by omega
   have hml : m < fs.length := by omega
   have hmlo : lo ≤ m := by omega
   have hmhi : m < hi := by omega
   clear hmm
   obtain ⟨f, hf⟩ : ∃ f, fs[m]? = some f := ⟨_, List.getElem?_eq_getElem hml⟩
   have hNr := hN.below hB
   obtain ⟨e0, e1, e2⟩ := hNr.cell m f hf
   have f0 : ∀ n os, (grow (wr.drewN n) os).cell? ⟨b, o + m * 3, none⟩ = some (.string f.path) := fun n os => cell_grown hNr.lt e0 n os
   have f1 : ∀ n os, (grow (wr.drewN n) os).cell? ⟨b, o + m * 3 + 1, none⟩ = some (.bool f.dir) := fun n os => cell_grown hNr.lt e1 n os
   have f2 : ∀ n os, (grow (wr.drewN n) os).cell? ⟨b, o + m * 3 + 2, none⟩ = some (.slice f.la f.lines.length f.lc) := fun n os => cell_grown hNr.lt e2 n os
   have hcg : ∀ n os, Calls Tryz.prog 29 #[.agg #[.string f.path, .bool f.dir, .slice f.la f.lines.length f.lc], .agg #[.string t.path, .bool t.dir, .slice t.la t.lines.length t.lc]] (grow (wr.drewN n) os) fun e w' => e = .returned (.int .i64 (orderP f.path t.path)) ∧ ∃ q os', w' = grow ((grow (wr.drewN n) os).drewN q) os' := fun n os => (tree_order f t _ (HS.out f (List.mem_of_getElem? hf)) ht ((hm.below hB).grow n os)).grows
   have hside : pathLess f.path t.path = true ↔ m < rk := by
    rw [← RK.out]
    exact rankP_iff R.out t.path (by unfold pathsOf; rw [List.getElem?_map, hf]; rfl)
   have hneg := orderP_neg f.path t.path
   generalize orderP f.path t.path = r at hcg hneg
   have hm0 : ¬ (m : Int) < 0 := by omega
   have hm1 : (m : Int) < (fs.length : Int) := by omega
   have hm2 : (0 : Int) ≤ (m : Int) := by omega
   have hw1 : wrap64 ((m : Int) + 1) = (m : Int) + 1 := by unfold wrap64; omega
   have hgB := belowGrow wr
   have hkeep : ∀ q os, (grow (wr.drewN q) os).heap[w.heap.size]? = some (.cells #[.string t.path, .bool t.dir, .slice t.la t.lines.length t.lc] 56 (0, 0)) := fun q os => ((belowGrow wr q os).block _ (Array.getElem?_eq_some_iff.1 hbW).1).trans hbW
   by_cases hmr : m < rk
   ·have hr0 : r < 0 := hneg.2 (hside.2 hmr)
    clear hneg hside
    go_wp2_with fail
    go_quiet_grown (first | (go_at_fn 29; refine Calls.grown_of (hcg _ _)))
    clear q0 q1 q2 f0 f1 f2 e0 e1 e2
    have hB2 := belowTrans hB (hgB nq osq)
    have hK2 := hkeep nq osq
    clear hcg hgB hkeep
    generalize grow (wr.drewN nq) osq = w2 at hB2 hK2 ⊢
    go_wp2
    go_roundw
    case rel => exact ⟨m + 1, hi, by push_cast; rfl, rfl, by omega, hhi, hin, hB2, hK2⟩
    case measure => simp [intOf]; omega
   ·have hr0 : ¬ r < 0 := fun e => hmr (hside.1 (hneg.1 e))
    clear hneg hside
    go_wp2_with fail
    go_quiet_grown (first | (go_at_fn 29; refine Calls.grown_of (hcg _ _)))
    clear q0 q1 q2 f0 f1 f2 e0 e1 e2
    have hB2 := belowTrans hB (hgB nq osq)
    have hK2 := hkeep nq osq
    clear hcg hgB hkeep
    generalize grow (wr.drewN nq) osq = w2 at hB2 hK2 ⊢
    go_wp2
    go_roundw
    case rel => exact ⟨lo, m, rfl, rfl, hlo, by omega, by omega, hB2, hK2⟩
    case measure => simp [intOf]; omega
  ·obtain rfl : lo = rk := by omega
   obtain rfl : hi = lo := by omega
   by_cases hn : hi < fs.length
   ·obtain ⟨b, o, rfl, hN⟩ : ∃ b o, a = some ⟨b, o, none⟩ ∧ FilesAt w b o fs := h.resolve_left (by omega)
    obtain ⟨f, hf⟩ : ∃ f, fs[hi]? = some f := ⟨_, List.getElem?_eq_getElem hn⟩
    have hNr := hN.below hB
    obtain ⟨e0, e1, e2⟩ := hNr.cell hi f hf
    have f0 : ∀ n os, (grow (wr.drewN n) os).cell? ⟨b, o + hi * 3, none⟩ = some (.string f.path) := fun n os => cell_grown hNr.lt e0 n os
    have f1 : ∀ n os, (grow (wr.drewN n) os).cell? ⟨b, o + hi * 3 + 1, none⟩ = some (.bool f.dir) := fun n os => cell_grown hNr.lt e1 n os
    have f2 : ∀ n os, (grow (wr.drewN n) os).cell? ⟨b, o + hi * 3 + 2, none⟩ = some (.slice f.la f.lines.length f.lc) := fun n os => cell_grown hNr.lt e2 n os
    have hcg : ∀ n os, Calls Tryz.prog 29 #[.agg #[.string f.path, .bool f.dir, .slice f.la f.lines.length f.lc], .agg #[.string t.path, .bool t.dir, .slice t.la t.lines.length t.lc]] (grow (wr.drewN n) os) fun e w' => e = .returned (.int .i64 (orderP f.path t.path)) ∧ ∃ q os', w' = grow ((grow (wr.drewN n) os).drewN q) os' := fun n os => (tree_order f t _ (HS.out f (List.mem_of_getElem? hf)) ht ((hm.below hB).grow n os)).grows
    have hz := orderP_zero f.path t.path
    have hfin : fin = decide (f.path = t.path) := by
     rw [← FIN.out]
     unfold hasP
     rw [RK.out]
     have : (pathsOf fs)[hi]? = some f.path := by unfold pathsOf; rw [List.getElem?_map, hf]; rfl
     rw [this]
     simp
    generalize orderP f.path t.path = r at hcg hz
    have hm0 : ¬ (hi : Int) < 0 := by omega
    have hm1 : (hi : Int) < (fs.length : Int) := by omega
    have hm2 : (0 : Int) ≤ (hi : Int) := by omega
    have hgB := belowGrow wr
    have hre : (r == 0) = fin := by
     rw [hfin, Bool.eq_iff_iff, beq_iff_eq, decide_eq_true_eq]
     exact hz
    have HF : Hid ((r == 0) = fin) := hre
    clear hre hfin hz
    go_wp2_with fail
    go_quiet_grown (first | (go_at_fn 29; refine Calls.grown_of (hcg _ _)))
    clear q0 q1 q2 f0 f1 f2 e0 e1 e2
    have hB2 := belowTrans hB (hgB nq osq)
    clear hcg hgB
    generalize grow (wr.drewN nq) osq = w2 at hB2 ⊢
    go_wp2
    go_ret2
    exact ⟨by rw [← HF.out]; rfl, hB2⟩
   ·have hm1 : ¬ (hi : Int) < (fs.length : Int) := by omega
    have hfin : fin = false := by
     rw [← FIN.out]
     unfold hasP
     rw [RK.out]
     have : (pathsOf fs)[hi]? = none := List.getElem?_eq_none (by unfold pathsOf; rw [List.length_map]; omega)
     rw [this]
     simp
    have HF : Hid (fin = false) := hfin
    clear hfin q0 q1 q2
    have hdB : Below w.heap.size w wr.drew := belowTrans hB (belowDrew1 wr)
    go_wp2_with fail
    go_big_region_o
    all_goals go_wp2
    all_goals go_ret2
    all_goals exact ⟨by rw [HF.out]; rfl, hdB⟩
end Go.Proofs.W
