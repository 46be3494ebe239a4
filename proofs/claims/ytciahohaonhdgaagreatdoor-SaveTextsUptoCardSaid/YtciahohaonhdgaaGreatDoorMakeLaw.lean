/- A PART OF THE PROOF THAT SAVETEXTS HOLDS FOR EVERY INPUT OF BULK AT MOST 1048576. No condition beyond the given statement. This part: MakeLaw. -/
import Derived.Test.YtciahohaonhdgaaGreatDoorWHead
import Derived.Test.YtciahohaonhdgaaGreatDoorWOwn
import Derived.Test.YtciahohaonhdgaaGreatDoorNodesLaw
import Derived.Test.YtciahohaonhdgaaGreatDoorWIxT
import Derived.Test.YtciahohaonhdgaaGreatDoorWTrack
import Derived.Test.YtciahohaonhdgaaGreatDoorRegRG
namespace Go.Proofs.W
open Go Go.Proofs
def sameT (x y : TrackV) : Bool := decide (x.path = y.path) || (decide (x.patch = y.patch) && decide (x.n = y.n))
def makeE (has : ByteArray → Bool) : List TrackV → List TrackV → Int
 | _, [] => 0
 | pre, x :: r => if has x.path then if pre.any (sameT x) then 10 else makeE has (pre ++ [x]) r else 9
theorem makeE_at (has : ByteArray → Bool) {ts : List TrackV} {i : Nat} {x : TrackV} (h : ts[i]? = some x) : makeE has (ts.take i) (ts.drop i) = if has x.path then if (ts.take i).any (sameT x) then 10 else makeE has (ts.take (i + 1)) (ts.drop (i + 1)) else 9 := by
 obtain ⟨h1, h2⟩ := List.getElem?_eq_some_iff.1 h
 rw [List.drop_eq_getElem_cons h1, h2, makeE, List.take_add_one, h]
 rfl
theorem makeE_end (has : ByteArray → Bool) (ts : List TrackV) : makeE has (ts.take ts.length) (ts.drop ts.length) = 0 := by
 rw [List.drop_length]
 rfl
theorem makeE_zero (has : ByteArray → Bool) : ∀ (r pre : List TrackV), makeE has pre r = 0 → (∀ x, x ∈ r → has x.path = true ∧ ∀ y, y ∈ pre → y.path ≠ x.path) ∧ r.Pairwise (fun x y => x.path ≠ y.path)
 | [], pre, _ => ⟨fun _ h => (by cases h), List.Pairwise.nil⟩
 | x :: r, pre, h => by
  unfold makeE at h
  split at h
  ·rename_i hx
   split at h
   ·exact absurd h (by decide)
   ·rename_i hy
    obtain ⟨h1, h2⟩ := makeE_zero has r (pre ++ [x]) h
    have hp : ∀ y, y ∈ pre → y.path ≠ x.path := fun y hm e => by
     apply hy
     exact List.any_eq_true.2 ⟨y, hm, by unfold sameT; rw [decide_eq_true e.symm]; rfl⟩
    refine ⟨fun z hz => ?_, List.Pairwise.cons (fun z hz => (h1 z hz).2 x (by simp)) h2⟩
    rcases List.mem_cons.1 hz with rfl | hz
    ·exact ⟨hx, hp⟩
    ·exact ⟨(h1 z hz).1, fun y hm => (h1 z hz).2 y (by simp [hm])⟩
  ·exact absurd h (by decide)
end Go.Proofs.W
namespace Go.Proofs.W
open Go Go.Proofs Go.RowKit Go.Op Go.Sort
set_option maxRecDepth 1000000
def ltT (x y : TrackV) : Bool := pathLess x.path y.path
theorem ltT_ne {x y : TrackV} (h1 : pathLess x.path y.path = false) (h2 : x.path ≠ y.path) : pathLess y.path x.path = true := by
 cases h3 : pathLess y.path x.path with
 | true => rfl
 | false => exact absurd (pathLess_tri h1 h3) h2
theorem perm_ne {ts gs : List TrackV} (hd : ts.Pairwise (fun x y => x.path ≠ y.path)) (hp : gs.Perm ts) : gs.Pairwise (fun x y => x.path ≠ y.path) := (hp.pairwise_iff (fun h e => h e.symm)).2 hd
theorem rise1 {gs : List TrackV} (hdg : gs.Pairwise (fun x y => x.path ≠ y.path)) (hs : gs.Pairwise (fun x y => pathLess y.path x.path = false)) : gs.Pairwise (fun a b => ltT a b = true) := by
 rw [List.pairwise_iff_getElem] at *
 intro i j hi hj hij
 have h1 := hdg i j hi hj hij
 have h2 := hs i j hi hj hij
 generalize gs[i] = x at *
 generalize gs[j] = y at *
 show pathLess x.path y.path = true
 exact ltT_ne (x := y) (y := x) h2 (fun e => h1 e.symm)
theorem rise2 {ts : List TrackV} (hd : ts.Pairwise (fun x y => x.path ≠ y.path)) : ts.Pairwise (fun y x => ltT x y = false → ltT y x = true) := by
 refine List.Pairwise.imp (R := fun x y => x.path ≠ y.path) ?_ hd
 intro y x h h1
 exact ltT_ne h1 (fun e => h e.symm)
theorem ltT_tr (x y z : TrackV) (h1 : ltT x y = true) (h2 : ltT y z = true) : ltT x z = true := pathLess_tr h1 h2
theorem ltT_as (x y : TrackV) (h1 : ltT x y = true) (h2 : ltT y x = true) : False := by
 have h3 : pathLess y.path x.path = false := pathLess_asymm h1
 have h4 : pathLess y.path x.path = true := h2
 rw [h3] at h4
 cases h4
theorem sorted_unique {ts gs : List TrackV} (hd : ts.Pairwise (fun x y => x.path ≠ y.path)) (hp : gs.Perm ts) (hs : gs.Pairwise (fun x y => pathLess y.path x.path = false)) : gs = insAll ltT ts :=
 rising_unique ltT_as (rise1 (perm_ne hd hp) hs) (insAll_rising ltT_tr (rise2 hd)) (hp.trans (insAll_perm (lt := ltT) ts).symm)
end Go.Proofs.W
namespace Go.Proofs.W
open Go Go.Proofs Go.RowKit
set_option maxRecDepth 1000000
set_option maxHeartbeats 4000000 in
theorem make_1 (B : Nat) (x y : TrackV) (w : World) (h : w.heap[B]? = some (.cells #[.string x.path, .string x.patch, .int .i64 x.n] 40 (0, 0))) : Calls Tryz.prog 41 #[.agg #[.string y.path, .string y.patch, .int .i64 y.n], .pointer (some ⟨B, 0, none⟩)] w fun e w' => e = .returned (.bool (sameT x y)) ∧ Below w.heap.size w w' := by
 have hA := belowAlloc w (.cells #[.string y.path, .string y.patch, .int .i64 y.n] 40)
 have h2 := (hA.block B (Array.getElem?_eq_some_iff.1 h).1).trans h
 have p0 : (w.alloc (.cells #[.string y.path, .string y.patch, .int .i64 y.n] 40)).cell? ⟨B, 0, none⟩ = some (.string x.path) := by simp [World.cell?, h2]
 have p1 : (w.alloc (.cells #[.string y.path, .string y.patch, .int .i64 y.n] 40)).cell? ⟨B, 1, none⟩ = some (.string x.patch) := by simp [World.cell?, h2]
 have p2 : (w.alloc (.cells #[.string y.path, .string y.patch, .int .i64 y.n] 40)).cell? ⟨B, 2, none⟩ = some (.int .i64 x.n) := by simp [World.cell?, h2]
 have hs : sameT x y = ((x.path.toList == y.path.toList) || ((x.patch.toList == y.patch.toList) && (x.n == y.n))) := by
  unfold sameT
  rw [toList_eq_iff, toList_eq_iff]
  rfl
 rw [hs]
 clear hs h2 h
 cases hq : (x.path.toList == y.path.toList)
 all_goals
  go_enter Tryz.func41, Tryz.ntmps41
  go_wp2
  all_goals
   go_ret
   exact ⟨by simp [*], hA⟩
theorem make_enters : ∀ args w, (callFunc 41 args).run Tryz.prog w = .ok (.enter 41 args) w := enters_of Tryz.func41 (by kernel_rfl) rfl
end Go.Proofs.W
namespace Go.Proofs.W
open Go Go.Proofs Go.RowKit Go.Op Go.Sort
set_option maxRecDepth 1000000
def MakeRet (fs : List FileV) (a : Option Addr) (c : Nat) (ts : List TrackV) (e : Ending) (w' : World) : Prop :=
 (makeE (hasP (pathsOf fs)) [] ts ≠ 0 ∧ e = .returned (.tuple #[.agg #[.slice none 0 0, .slice none 0 0], .int .i64 (makeE (hasP (pathsOf fs)) [] ts)])) ∨
 (makeE (hasP (pathsOf fs)) [] ts = 0 ∧ ∃ (ra : Option Addr) (rc : Nat) (gs : List TrackV), gs.Perm ts ∧ gs.Pairwise (fun x y => pathLess y.path x.path = false) ∧ e = .returned (.tuple #[.agg #[.slice a fs.length c, .slice ra ts.length rc], .int .i64 0]) ∧ TracksH w' ra gs)
theorem tracksH_other {w : World} {a : Option Addr} {xs : List TrackV} (h : TracksH w a xs) {k i : Nat} (hne : ∀ b o, a = some ⟨b, o, none⟩ → b ≠ k) (v : Value) : TracksH (w.setCell ⟨k, i, none⟩ v) a xs := by
 rcases h with h | ⟨b, o, h1, h2⟩
 ·exact .inl h
 ·have hb : (w.setCell ⟨k, i, none⟩ v).heap[b]? = w.heap[b]? := RowKit.Below.heap_setCell _ _ _ _ (hne b o h1)
  refine .inr ⟨b, o, h1, by rw [setSize]; exact h2.lt, fun j d hd => ?_⟩
  have hc : ∀ i', (w.setCell ⟨k, i, none⟩ v).cell? ⟨b, i', none⟩ = w.cell? ⟨b, i', none⟩ := fun i' => World.cell?_of_block hb
  simp only [hc]
  exact h2.cell j d hd
def MV (B n c tc : Nat) (a ta : Option Addr) (ts : List TrackV) (L : Nat → Bool) (i : Nat) (v : Value) (W : World) : Prop := match i with
 | 0 => v = .agg #[.slice a n c]
 | 1 => v = .slice ta ts.length tc
 | 2 => L 3 = false → ∃ ra rc, v = .slice ra ts.length rc ∧ W.ownsRow B 40 3 (.slice ra ts.length rc) ts.length (ts.flatMap TrackV.cells)
 | 3 => ∃ ra rc gs, v = .slice ra ts.length rc ∧ gs.Perm ts ∧ gs.Pairwise (fun x y => pathLess y.path x.path = false) ∧ TracksH W ra gs ∧ ∀ b o, ra = some ⟨b, o, none⟩ → B ≤ b
 | _ => True
theorem MV.below {B n c tc : Nat} {a ta : Option Addr} {ts : List TrackV} {L : Nat → Bool} {i : Nat} (hi : i ≠ 3) {W W' : World} (hb : RowKit.Below W.heap.size W W') (j : Nat) (u : Value) (h : MV B n c tc a ta ts L j u W) : MV B n c tc a ta ts (upd L i) j u W' := by
 unfold MV at h ⊢
 split at h
 any_goals exact h
 ·intro hL
  have hL' : L 3 = false := by unfold upd at hL; rwa [if_neg (fun e => hi e.symm)] at hL
  obtain ⟨ra, rc, e, ho⟩ := h hL'
  exact ⟨ra, rc, e, ownsRow_below ho hb⟩
 ·obtain ⟨ra, rc, gs, e, h1, h2, h3, h4⟩ := h
  exact ⟨ra, rc, gs, e, h1, h2, h3.below hb, h4⟩
theorem MV.fin {B n c tc : Nat} {a ta : Option Addr} {ts : List TrackV} {L : Nat → Bool} (hL3 : L 3 = false) {W W' : World} (j : Nat) (u : Value) (hj : L j = true) (h : MV B n c tc a ta ts L j u W) : MV B n c tc a ta ts (upd L 3) j u W' := by
 unfold MV at h ⊢
 split at h
 any_goals exact h
 ·intro hL
  simp [upd] at hL
 ·rw [hL3] at hj; cases hj
set_option maxHeartbeats 16000000 in
theorem work_Make (a ta : Option Addr) (c tc : Nat) (fs : List FileV) (ts : List TrackV) (w : World) (h : FilesH w a fs) (hf : FsOk fs) (ht : TracksH w ta ts) (hsz : ∀ t, t ∈ ts → t.path.size < 4294967281) (hlen : ts.length ≤ 1000000) (hcap : ts.length ≤ tc) (hm : HasM w) :
  Calls Tryz.prog 13 #[.agg #[.slice a fs.length c], .slice ta ts.length tc] w fun e w' => MakeRet fs a c ts e w' ∧ RowKit.Below w.heap.size w w' := by
 obtain ⟨W0, hW0⟩ : ∃ W0, W0 = (w.alloc (.cells #[.slice a fs.length c] 27)).alloc (.cells #[.slice none 0 0, .slice none 0 0] 42) := ⟨_, rfl⟩
 have hA : RowKit.Below w.heap.size w W0 := by rw [hW0]; exact belowTrans (belowAlloc _ _) (belowAlloc _ _)
 have b1 : W0.heap[w.heap.size]? = some (.cells #[.slice a fs.length c] 27 (0, 0)) := by
  rw [hW0, RowKit.Below.heap_alloc _ _ _ (by simp)]
  exact (MapKept.heap_alloc w _).1
 have b2 : W0.heap[w.heap.size + 1]? = some (.cells #[.slice none 0 0, .slice none 0 0] 42 (0, 0)) := by
  rw [hW0, show w.heap.size + 1 = (w.alloc (.cells #[.slice a fs.length c] 27)).heap.size by simp]
  exact (MapKept.heap_alloc _ _).1
 have hz : W0.heap.size = w.heap.size + 2 := by rw [hW0]; simp
 have H1 : Hid _ := b1
 have H2 : Hid _ := b2
 have HA : Hid _ := hA
 have HZ : Hid _ := hz
 have HM : Hid (HasM w) := hm
 have HCAP : Hid _ := hcap
 clear b1 b2 hA hz hcap
 go_enter Tryz.func13, Tryz.ntmps13
 go_wp2_with fail
 simp only [← hW0]
 clear hW0
 generalize hE : makeE (hasP (pathsOf fs)) [] ts = E
 have HE : Hid _ := hE
 clear hE
 go_loopg [12] ts.length (fun kx s12 wr => ∃ (i : Nat), s12 = .int .i64 i ∧ i ≤ ts.length ∧ ts.length - i ≤ kx ∧ Hid (makeE (hasP (pathsOf fs)) (ts.take i) (ts.drop i) = E ∧ RowKit.Below W0.heap.size W0 wr))
 case atStart => exact ⟨0, rfl, Nat.zero_le _, Nat.le_refl _, by rw [← HE.out]; rfl, RowKit.Below.refl _ _⟩
 case round =>
  obtain ⟨i, rfl, hi, hkx, REL⟩ := hrel
  by_cases hlt : i < ts.length
  ·obtain ⟨b, o, rfl, hN⟩ : ∃ b o, ta = some ⟨b, o, none⟩ ∧ TracksAt w b o ts := ht.resolve_left (by omega)
   obtain ⟨X, hX⟩ : ∃ X, ts[i]? = some X := ⟨_, List.getElem?_eq_getElem hlt⟩
   have hXm := List.mem_of_getElem? hX
   have hB := belowTrans HA.out REL.out.2
   obtain ⟨x0, x1, x2⟩ := (hN.below hB).cell i X hX
   have hiz : (i : Int) < (ts.length : Int) := by omega
   have hnn : ¬ (i : Int) < 0 := by omega
   have hnn0 : (0 : Int) ≤ (i : Int) := by omega
   have hic : (i : Int) ≤ (tc : Int) := by have := HCAP.out; omega
   have hA1 := belowAlloc wr (.cells #[.string X.path, .string X.patch, .int .i64 X.n] 40)
   have hB1 := belowTrans hB hA1
   have hB01 := belowTrans REL.out.2 hA1
   have q0 : (wr.alloc (.cells #[.string X.path, .string X.patch, .int .i64 X.n] 40)).cell? ⟨w.heap.size, 0, none⟩ = some (.slice a fs.length c) := by
    have := (hB01.block w.heap.size (by rw [HZ.out]; omega)).trans H1.out
    simp [World.cell?, this]
   have hget := tree_Get a c fs X.path _ (h.below hB1) hf (hsz X hXm) (hm.below hB1)
   have hbx := (MapKept.heap_alloc wr (.cells #[.string X.path, .string X.patch, .int .i64 X.n] 40)).1
   have HBX : Hid _ := hbx
   have HG : Hid _ := hget
   have HB1 : Hid _ := hB1
   have HB01 : Hid _ := hB01
   have HA1 : Hid _ := hA1
   have HX : Hid _ := hX
   have HN : Hid (TracksAt w b o ts) := hN
   clear hA1 hB1 hB01 hget hbx hX hN hB
   go_wp2_with fail
   refine Calls.mono HG.out ?_
   rintro e w2 ⟨⟨g, rfl, hgs, _⟩, hb2⟩
   clear q0 x0 x1 x2
   have HB2 : Hid _ := belowTrans HB1.out hb2
   have HB02 : Hid _ := belowTrans HB01.out hb2
   have HBX2 : Hid _ := (hb2.block _ (Array.getElem?_eq_some_iff.1 HBX.out).1).trans HBX.out
   clear hb2
   unfold FileV.val
   cases hp : hasP (pathsOf fs) X.path with
   | false =>
    have hEe := makeE_at (hasP (pathsOf fs)) HX.out
    rw [hp, if_neg (by simp)] at hEe
    have HEE : Hid (E = 9) := by rw [← REL.out.1, hEe]; rfl
    clear hEe hgs
    have HA3 : Hid _ := belowAlloc w2 (.cells #[.string g.path, .bool g.dir, .slice g.la g.lines.length g.lc] 56)
    have d2 := ((belowTrans HB02.out HA3.out).block (w.heap.size + 1) (by rw [HZ.out]; omega)).trans H2.out
    have f0 : (w2.alloc (.cells #[.string g.path, .bool g.dir, .slice g.la g.lines.length g.lc] 56)).cell? ⟨w.heap.size + 1, 0, none⟩ = some (.slice none 0 0) := by simp [World.cell?, d2]
    have f1 : (w2.alloc (.cells #[.string g.path, .bool g.dir, .slice g.la g.lines.length g.lc] 56)).cell? ⟨w.heap.size + 1, 1, none⟩ = some (.slice none 0 0) := by simp [World.cell?, d2]
    have fz : ∀ k, (w2.alloc (.cells #[.string g.path, .bool g.dir, .slice g.la g.lines.length g.lc] 56)).frozen? ⟨w.heap.size + 1, k, none⟩ = false := fun k => frozen_of_row _ _ k _ _ d2
    have HF : Hid _ := setCell_block (.slice none 0 0) (setCell_block (.slice none 0 0) d2 (i := 0)) (i := 1)
    have HR : Hid _ := ((belowTrans HB2.out HA3.out).setCell (p := ⟨w.heap.size + 1, 0, none⟩) (by show _ ≤ w.heap.size + 1; omega) (.slice none 0 0)).setCell (p := ⟨w.heap.size + 1, 1, none⟩) (by show _ ≤ w.heap.size + 1; omega) (.slice none 0 0)
    clear d2
    go_wp2
    (try simp only [Exit.inBlock, Exit.then])
    refine bodyPost_ret_by (results_cell_row_tmp (p := 4) (u := 5) rfl _ _ (w.heap.size + 1) _ _ _ _ ?hp HF.out Tryz.underlying42 rfl (by kernel_rfl)) rfl ⟨Or.inl ⟨by rw [HE.out, HEE.out]; decide, ?he⟩, HR.out⟩
    case hp => rfl
    case he => rw [HE.out, HEE.out]; rfl
   | true =>
    have hEe := makeE_at (hasP (pathsOf fs)) HX.out
    rw [hp, if_pos rfl] at hEe
    have HEE : Hid _ := hEe
    have HA3 : Hid _ := belowAlloc w2 (.cells #[.string g.path, .bool g.dir, .slice g.la g.lines.length g.lc] 56)
    have HB3 : Hid _ := belowTrans HB2.out HA3.out
    have HB03 : Hid _ := belowTrans HB02.out HA3.out
    have hbx3 := (HA3.out.block _ (Array.getElem?_eq_some_iff.1 HBX2.out).1).trans HBX2.out
    have hsay : SaysT 41 (.pointer (some ⟨wr.heap.size, 0, none⟩)) (sameT X) (ts.take i) (w2.alloc (.cells #[.string g.path, .bool g.dir, .slice g.la g.lines.length g.lc] 56)) := fun W' y hb _ => make_1 _ X y W' ((hb.block _ (Array.getElem?_eq_some_iff.1 hbx3).1).trans hbx3)
    have htk : (ts.take i).length = i := by rw [List.length_take]; omega
    have hT3 : TracksH (w2.alloc (.cells #[.string g.path, .bool g.dir, .slice g.la g.lines.length g.lc] 56)) (some ⟨b, o, none⟩) (ts.take i) := .inr ⟨b, o, rfl, (HN.out.below HB3.out).lt, fun j d hd => (HN.out.below HB3.out).cell j d (by
     rw [List.getElem?_take] at hd
     split at hd
     ·exact hd
     ·cases hd)⟩
    have hcon := tracks_ContainsFunc 41 _ make_enters (sameT X) (some ⟨b, o, none⟩) tc (ts.take i) _ hsay hT3 (by omega)
    rw [htk] at hcon
    have HC : Hid _ := hcon
    clear hcon hT3 hsay hbx3 hEe hgs htk
    go_wp2_with fail
    refine Calls.mono HC.out ?_
    rintro e w4 ⟨rfl, hb4⟩
    have HBW : Hid _ := belowTrans HB3.out hb4
    have HB04 : Hid _ := belowTrans HB03.out hb4
    clear hb4
    cases ha : (ts.take i).any (sameT X) with
    | true =>
     have hEE2 := HEE.out
     rw [ha, if_pos rfl] at hEE2
     have HEE : Hid (E = 10) := by rw [← REL.out.1, hEE2]; rfl
     clear hEE2
     have d2 := (HB04.out.block (w.heap.size + 1) (by rw [HZ.out]; omega)).trans H2.out
     have f0 : w4.cell? ⟨w.heap.size + 1, 0, none⟩ = some (.slice none 0 0) := by simp [World.cell?, d2]
     have f1 : w4.cell? ⟨w.heap.size + 1, 1, none⟩ = some (.slice none 0 0) := by simp [World.cell?, d2]
     have fz : ∀ k, w4.frozen? ⟨w.heap.size + 1, k, none⟩ = false := fun k => frozen_of_row _ _ k _ _ d2
     have HF : Hid _ := setCell_block (.slice none 0 0) (setCell_block (.slice none 0 0) d2 (i := 0)) (i := 1)
     have HR : Hid _ := (HBW.out.setCell (p := ⟨w.heap.size + 1, 0, none⟩) (by show _ ≤ w.heap.size + 1; omega) (.slice none 0 0)).setCell (p := ⟨w.heap.size + 1, 1, none⟩) (by show _ ≤ w.heap.size + 1; omega) (.slice none 0 0)
     clear d2
     go_wp2
     (try simp only [Exit.inBlock, Exit.then])
     refine bodyPost_ret_by (results_cell_row_tmp (p := 4) (u := 5) rfl _ _ (w.heap.size + 1) _ _ _ _ ?hp HF.out Tryz.underlying42 rfl (by kernel_rfl)) rfl ⟨Or.inl ⟨by rw [HE.out, HEE.out]; decide, ?he⟩, HR.out⟩
     case hp => rfl
     case he => rw [HE.out, HEE.out]; rfl
    | false =>
     have hEE2 := HEE.out
     rw [ha, if_neg (by simp)] at hEE2
     have HEN : Hid _ := REL.out.1
     have HEE2 : Hid _ := hEE2
     clear hEE2
     go_wp2
     go_roundg (ts.length - (i + 1))
     case measure => omega
     case rel => exact ⟨i + 1, by go_num, by omega, Nat.le_refl _, by rw [← HEE2.out]; exact HEN.out, HB04.out⟩
  ·have hiz : ¬ (i : Int) < (ts.length : Int) := by omega
   obtain rfl : i = ts.length := by omega
   have hE0 := REL.out.1
   rw [makeE_end] at hE0
   have HE0 : Hid _ := hE0
   have HB0 : Hid _ := REL.out.2
   clear hE0 REL hkx
   rename World => w1
   have hs1 : w.heap.size + 2 ≤ w1.heap.size := by have := HB0.out.size; rw [HZ.out] at this; exact this
   have hml : 2 < w.heap.size + 2 := by obtain ⟨_, _, h2⟩ := HM.out; omega
   go_wp2_with fail
   refine wp_region_gd 4 3 39 (by kernel_rfl) ?ok ?forced rfl (MV (w.heap.size + 2) fs.length c tc a ta ts) (fun W => RowKit.Below (w.heap.size + 2) w1 W) ((belowDrew1 _).mono hs1) ?step ?fin
   case ok => kernel_rfl
   case forced => kernel_rfl
   case step =>
    intro i o hi ho L A W hLi hpre hF hJ hV
    have s1 : A.tmps[1]? = some (.slice ta ts.length tc) := hF.at (by kernel_rfl) rfl
    have s2 : A.tmps[2]? = some (.pointer (some ⟨w.heap.size, 0, none⟩)) := hF.at (by kernel_rfl) rfl
    have hB0W : RowKit.Below w.heap.size w W := HA.out.trans ((HB0.out.mono (by rw [HZ.out]; omega)).trans (hJ.mono (by omega)))
    have d1 := (hJ.block w.heap.size (by omega)).trans ((HB0.out.block w.heap.size (by rw [HZ.out]; omega)).trans H1.out)
    have c0 : W.cell? ⟨w.heap.size, 0, none⟩ = some (.slice a fs.length c) := by simp [World.cell?, d1]
    have hWs : w.heap.size + 2 ≤ W.heap.size := Nat.le_trans hs1 hJ.size
    match i, hi with
    | 0, _ =>
     simp only [List.getElem?_toArray, List.getElem?_cons_zero, Option.some.injEq] at ho
     subst ho
     refine ⟨wanted_none rfl, fun K hK => rg_val (v := .agg #[.slice a fs.length c]) ?_ (hK _ _ (fun j u _ => MV.below (by decide) (RowKit.Below.refl _ _) j u) rfl hJ)⟩
     simp [execOp, Act.eval, go_sem, s2, c0]
    | 1, _ =>
     cases ho
     refine ⟨wanted_none rfl, fun K hK => rg_val (v := .slice ta ts.length tc) ?_ (hK _ _ (fun j u _ => MV.below (by decide) (RowKit.Below.refl _ _) j u) rfl hJ)⟩
     simp [execOp, Act.eval, go_sem, s1]
    | 2, _ =>
     cases ho
     have sx := hF.slot (i := 1) rfl (by simp) (hV 1 (hpre ⟨1, .data⟩ (by simp) rfl))
     refine ⟨wanted_none rfl, fun K hK => rg_enter (f := 43) (args := #[.slice ta ts.length tc]) (w' := W) ?_ (cloneTracks ta tc ts W (ht.below hB0W) (by omega)) ?_ ?_ ?_⟩
     ·simp [Act.eval, go_sem, sx]
     ·rintro v w'' ⟨⟨v', e, ho⟩, hb⟩
      cases e
      obtain ⟨ra, rc, rfl⟩ := ownShape ho
      exact hK _ _ (fun j u _ => MV.below (by decide) hb j u) (fun _ => ⟨ra, rc, rfl, ownsRow_base ho (by omega)⟩) (hJ.trans (hb.mono hWs))
     ·rintro chain w'' ⟨⟨_, e, _⟩, _⟩
      cases e
     ·rintro w'' ⟨⟨_, e, _⟩, _⟩
      cases e
    | 3, _ =>
     cases ho
     obtain ⟨ra, rc, e2, hown⟩ := hV 2 (hpre ⟨2, .data⟩ (by simp) rfl) hLi
     have sx := hF.slot (i := 2) rfl (by simp) e2
     refine ⟨wanted_none rfl, fun K hK => rg_enter (f := 42) (args := #[.slice ra ts.length rc]) (w' := W) ?_ (work_sorted (w.heap.size + 2) ra rc ts W hown hWs hml (HM.out.below hB0W) hsz (by omega)) ?_ ?_ ?_⟩
     ·simp [Act.eval, go_sem, sx]
     ·rintro v w'' ⟨e, gs, h1, h2, h3, hb⟩
      cases e
      exact hK _ _ (fun j u hj => MV.fin hLi j u hj) ⟨ra, rc, gs, rfl, h1, h2, h3, fun b o e => by
       rcases hown.2 with ⟨e2, _⟩ | ⟨g, _, _, e2, hg, _⟩
       ·injection e2 with e2; rw [e2] at e; cases e
       ·injection e2 with e2; rw [e2] at e; cases e; exact hg⟩ (hJ.trans hb)
     ·rintro chain w'' ⟨e, _⟩
      cases e
     ·rintro w'' ⟨e, _⟩
      cases e
   case fin =>
    intro A W hF hJ hV
    have e0 : A.tmps.getD 34 undef = .agg #[.slice a fs.length c] := hV 0 (by omega)
    obtain ⟨ra, rc, gs, e3, h1, h2, h3, h4⟩ := hV 3 (by omega)
    have e3 : A.tmps.getD 37 undef = .slice ra ts.length rc := e3
    rw [hF.lit [34, 35, 36, 37, 38, 5] (by kernel_rfl)]
    simp only [relaid, List.foldl_cons, List.foldl_nil, e0, e3]
    generalize A.tmps.getD 35 undef = y35
    generalize A.tmps.getD 36 undef = y36
    generalize A.tmps.getD 38 undef = y38
    generalize A.tmps.getD 5 undef = y5
    simp only [List.setIfInBounds_toArray, List.set_cons_succ, List.set_cons_zero, List.drop_succ_cons]
    clear hV hF e0 e3
    have d3 := (hJ.block (w.heap.size + 1) (by omega)).trans ((HB0.out.block (w.heap.size + 1) (by rw [HZ.out]; omega)).trans H2.out)
    have f0 : W.cell? ⟨w.heap.size + 1, 0, none⟩ = some (.slice none 0 0) := by simp [World.cell?, d3]
    have f1 : W.cell? ⟨w.heap.size + 1, 1, none⟩ = some (.slice none 0 0) := by simp [World.cell?, d3]
    have fz : ∀ k, W.frozen? ⟨w.heap.size + 1, k, none⟩ = false := fun k => frozen_of_row W _ k _ _ d3
    have HJ : Hid (RowKit.Below w.heap.size w W) := HA.out.trans ((HB0.out.mono (by rw [HZ.out]; omega)).trans (hJ.mono (by omega)))
    have HF : Hid _ := setCell_block (.slice ra ts.length rc) (setCell_block (.slice a fs.length c) d3 (i := 0)) (i := 1)
    have HT : Hid (TracksH ((W.setCell ⟨w.heap.size + 1, 0, none⟩ (.slice a fs.length c)).setCell ⟨w.heap.size + 1, 1, none⟩ (.slice ra ts.length rc)) ra gs) := tracksH_other (tracksH_other h3 (fun b o e => by have := h4 b o e; omega) _) (fun b o e => by have := h4 b o e; omega) _
    have HP : Hid (gs.Perm ts ∧ gs.Pairwise (fun x y => pathLess y.path x.path = false)) := ⟨h1, h2⟩
    clear d3 hJ h1 h2 h3 h4
    go_wp2
    refine bodyPost_ret_by (results_cell_row_tmp (p := 4) (u := 5) rfl _ _ (w.heap.size + 1) _ _ _ _ ?hp HF.out Tryz.underlying42 rfl (by kernel_rfl)) rfl ⟨Or.inr ⟨by rw [HE.out, ← HE0.out], ra, rc, gs, HP.out.1, HP.out.2, rfl, HT.out⟩, (HJ.out.setCell (by show _ ≤ w.heap.size + 1; omega) _).setCell (by show _ ≤ w.heap.size + 1; omega) _⟩
    case hp => rfl
end Go.Proofs.W
