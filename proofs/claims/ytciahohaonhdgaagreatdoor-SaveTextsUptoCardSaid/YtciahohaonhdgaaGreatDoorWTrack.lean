/- A PART OF THE PROOF THAT SAVETEXTS HOLDS FOR EVERY INPUT OF BULK AT MOST 1048576. No condition beyond the given statement. This part: WTrack. -/
import Derived.Test.YtciahohaonhdgaaGreatDoorWHead
import Derived.Lib.AppendZeros
import Derived.Test.YtciahohaonhdgaaGreatDoorWOf1
namespace Go.Proofs.W
open Go Go.Proofs Go.RowKit Go.Op
set_option maxRecDepth 1000000
set_option maxHeartbeats 4000000 in
theorem cloneTracks (a : Option Addr) (c : Nat) (xs : List TrackV) (w : World) (h : TracksH w a xs) (hlen : xs.length ≤ 1099511627776) :
  Calls Tryz.prog 43 #[.slice a xs.length c] w fun e w' => (∃ v', e = .returned v' ∧ w'.ownsRow w.heap.size 40 3 v' xs.length (xs.flatMap TrackV.cells)) ∧ Below w.heap.size w w' := by
 obtain ⟨i0, hi0, hz0, hz1, hz2⟩ := info_track
 have qn : ∀ (w : World) (a : Option Addr) (n c n' c' : Nat), (binOp .eql 23 (.slice a n c) (.slice none n' c')).run Tryz.prog w = .ok (.bool a.isNone) w := fun w a n c n' c' => Lib.run_eql_slice_nil w _ _ a n c n' c' Tryz.underlying23
 cases a with
 | none =>
  have h0 : xs.length = 0 := h.elim id (fun ⟨_, _, h, _⟩ => by cases h)
  go_enter Tryz.func43, Tryz.ntmps43
  go_wp2
  go_ret
  refine ⟨⟨_, rfl, ?_⟩, Below.refl _ _⟩
  have : xs = [] := List.eq_nil_of_length_eq_zero h0
  subst this
  exact World.ownsRow_nil _ _ _ _
 | some ad =>
  have hsrc : ∀ x, ∃ ad' c', (Value.slice (some ad) xs.length c) = .slice (some ad') xs.length c' ∧ (xs.flatMap TrackV.cells).length = xs.length * 3 ∧ ∀ j u, (xs.flatMap TrackV.cells)[j]? = some u → (w.alloc x).cell? (ad'.add j) = some u := fun x => by
   refine ⟨ad, c, rfl, flatMap_len TrackV.cells 3 trackCells_len xs, fun j u hu => ?_⟩
   rcases h with h0 | ⟨b, o, h1, h2⟩
   ·have : xs = [] := List.eq_nil_of_length_eq_zero h0
    subst this
    simp at hu
   ·cases h1
    exact tracksCells_get (h2.below (belowAlloc _ _)) j u hu
  go_enter Tryz.func43, Tryz.ntmps43
  go_wp2_with (at_builtin; refine wpList_append_src _ rfl (.tmp 5) (.tmp 6) 23 rfl w.heap.size 40 i0 (.agg #[.string ⟨#[]⟩, .string ⟨#[]⟩, .int .i64 0]) 3 40 Tryz.underlying23 hi0 hz0 hz1 hz2 rfl (by decide) _ 0 [] rfl (World.ownsRow_lit w #[] 0 (Nat.le_refl _) (Nat.zero_le _) rfl) _ xs.length (xs.flatMap TrackV.cells) rfl (.inr (hsrc _)) ?one ?c1 ?c2 ?c3 ?_)
  case one => exact tracksCells_one xs
  case c1 => unfold maxLen; omega
  case c2 => omega
  case c3 => simp
  intro v' w' hown hg _
  go_wp2
  go_ret
  refine ⟨⟨_, rfl, by simpa using hown⟩, ?_⟩
  have hb := belowAlloc w (.cells #[] 40)
  exact ⟨hg.os.trans hb.os, hg.tape.trans hb.tape, hg.output.trans hb.output, Nat.le_trans hb.size hg.size, fun k hk => (hg.block k (by simp; omega) (by simp [Value.ownBlock]; omega)).trans (hb.block k hk)⟩
end Go.Proofs.W
namespace Go.Proofs.W
open Go Go.Proofs Go.Shelf Go.RowKit Go.Lib Go.Sort
set_option maxRecDepth 1000000
def trackP (p q : ByteArray) : Int := if pathLess p q then -1 else 1
theorem track_cmp (x y : TrackV) (w : World) (hx : x.path.size < 4294967281) (hy : y.path.size < 4294967281) (hm : HasM w) :
  Calls Tryz.prog 89 #[.agg #[.string x.path, .string x.patch, .int .i64 x.n], .agg #[.string y.path, .string y.patch, .int .i64 y.n]] w fun e w' => e = .returned (.int .i64 (trackP x.path y.path)) ∧ Below w.heap.size w w' := by
 obtain ⟨W, hW⟩ : ∃ W, W = (w.alloc (.cells #[.string x.path, .string x.patch, .int .i64 x.n] 40)).alloc (.cells #[.string y.path, .string y.patch, .int .i64 y.n] 40) := ⟨_, rfl⟩
 have hA : RowKit.Below w.heap.size w W := by rw [hW]; exact belowTrans (belowAlloc _ _) (belowAlloc _ _)
 have hl := path_Less x.path y.path W hx hy (hm.below hA)
 unfold trackP
 generalize pathLess x.path y.path = b at hl ⊢
 have HL : Hid _ := hl
 have HA : Hid _ := hA
 clear hl hA
 cases b
 all_goals
  go_enter Tryz.func89, Tryz.ntmps89
  go_wp2_with fail
  simp only [← hW]
  refine Calls.mono HL.out ?_
  rintro e w2 ⟨rfl, hb2⟩
  go_wp2
  go_ret
  exact ⟨rfl, belowTrans HA.out hb2⟩
end Go.Proofs.W
namespace Go.Proofs.W
open Go Go.Proofs Go.Shelf Go.RowKit Go.Lib Go.Sort
set_option maxRecDepth 1000000
theorem track_enters : ∀ args w, (callFunc 89 args).run Tryz.prog w = .ok (.enter 89 args) w := enters_of Tryz.func89 (by kernel_rfl) rfl
def TrackK : Type := { t : TrackV // t.path.size < 4294967281 }
instance : Inhabited TrackK := ⟨⟨⟨ByteArray.empty, ByteArray.empty, 0⟩, by show ByteArray.empty.size < _; decide⟩⟩
def TrackK.enc (x : TrackK) : List Value := x.1.cells
def TrackK.cf (x y : TrackK) : Int := trackP x.1.path y.1.path
theorem TrackK.lt (x y : TrackK) : ltOf TrackK.cf x y = pathLess x.1.path y.1.path := by
 unfold ltOf TrackK.cf trackP
 cases pathLess x.1.path y.1.path <;> rfl
theorem TrackK.swo : SWO (ltOf TrackK.cf) := by
 constructor
 ·intro x; rw [TrackK.lt]; exact pathLess_irr _
 ·intro x y z h1 h2; rw [TrackK.lt] at *; exact pathLess_tr h1 h2
 ·intro x y z h1 h2
  rw [TrackK.lt] at *
  cases h : pathLess x.1.path z.1.path with
  | false => rfl
  | true =>
   cases h3 : pathLess y.1.path x.1.path with
   | true => rw [pathLess_tr h3 h] at h2; cases h2
   | false => rw [pathLess_tri h1 h3] at h; rw [h] at h2; cases h2
theorem track_lays (w : World) (hm : HasM w) (blk off size : Nat) (hne : 2 ≠ blk) : CmpLays Tryz.prog 89 #[] TrackK.enc 3 TrackK.cf blk off size w := by
 intro m os dk _ x y
 exact (track_cmp x.1 y.1 _ x.2 y.2 (hm.swk blk off m dk os hne)).grows
theorem sortTracks (blk off cap : Nat) (d0 : Array TrackK) (w0 : World) (hm : HasM w0) (hne : 2 ≠ blk) (hH : HoldsK TrackK.enc 3 w0 blk off d0) (hblk : blk < w0.heap.size) (hsz : d0.size < 4611686018427387904) :
  Calls Tryz.prog 88 #[.slice (some ⟨blk, off, none⟩) d0.size cap, .func (.func 89) #[] #[]] w0 fun e w' => e = .returned (.tuple #[]) ∧ ∃ d', PermA d0 d' ∧ SortedIn (ltOf TrackK.cf) 0 d0.size d' ∧ SWK TrackK.enc 3 w0 blk off d' w' := by
 have h := AnyQ.slices_SortFunc Tryz.sortTrackLays 3 (fun w => by kernel_rfl) (fun w => by kernel_rfl) TrackK.enc (fun x => trackCells_len x.1) (fun x => trackCells_one x.1) TrackK.cf TrackK.swo 89 #[] blk off cap d0 w0 track_enters (track_lays w0 hm blk off _ hne) hH hblk hsz
 exact h.mono fun e w' ⟨h1, d', n, os, h2, h3, h4⟩ => ⟨h1, d', PermA.ofIn h2 (Nat.le_refl _), h3, n, os, h4⟩
end Go.Proofs.W
namespace Go.Proofs.W
open Go Go.Proofs Go.Shelf Go.RowKit Go.Lib Go.Sort
set_option maxRecDepth 1000000
theorem holds_ownT {w : World} {base c g : Nat} {xs : List TrackV} {ks : Array TrackK} (hk : ks.toList.map (·.1) = xs) (h : w.ownsRow base 40 3 (.slice (some ⟨g, 0, none⟩) xs.length c) xs.length (xs.flatMap TrackV.cells)) : HoldsK TrackK.enc 3 w g 0 ks ∧ g < w.heap.size ∧ base ≤ g := by
 have hsz : ks.size = xs.length := by rw [← hk]; simp
 rcases h.2 with ⟨e, _⟩ | ⟨g', cap, cur, e, hb, hh, _⟩
 ·cases e
 ·cases e
  refine ⟨fun j hj => ?_, (Array.getElem?_eq_some_iff.1 hh).1, hb⟩
  rw [size_flatK] at hj
  have hq : j / 3 < xs.length := by omega
  refine ⟨?_, frozen_of_row w _ _ _ _ hh⟩
  rw [Nat.zero_add, h.cellAt j (by omega), get_flatK _ _ _ _ hj]
  have hf : xs[j / 3]? = some xs[j / 3] := List.getElem?_eq_getElem hq
  have hj3 : j = j / 3 * 3 + j % 3 := by omega
  have hm : j % 3 < 3 := Nat.mod_lt _ (by decide)
  have h1 := flatMap_at TrackV.cells 3 (fun _ => rfl) xs (j / 3) (j % 3) _ hf hm
  rw [← hj3] at h1
  rw [h1]
  have hd : (ks[j / 3]!).1 = xs[j / 3] := by
   rw [getElem!_pos ks (j / 3) (by omega)]
   simp [← hk]
  unfold TrackK.enc
  rw [hd]
  exact (getElem?_pos _ _ (by rw [trackCells_len]; exact hm)).trans (by rw [getElem!_pos _ _ (by rw [trackCells_len]; exact hm)]; rfl)
theorem tracks_swk {w0 W : World} {g : Nat} {d0 dk : Array TrackK} (R : RowK TrackK.enc 3 w0 g 0 d0) (hs : dk.size = d0.size) (h : SWK TrackK.enc 3 w0 g 0 dk W) : TracksAt W g 0 (dk.toList.map (·.1)) := by
 have hH := h.holds R.hblk R.hH hs
 refine ⟨h.lt R.hblk, fun j d hd => ?_⟩
 rw [List.getElem?_map] at hd
 have hj : j < dk.size := by
  have := (List.getElem?_eq_some_iff.1 (Option.map_eq_some_iff.1 hd).choose_spec.1).1
  simpa using this
 have hx : (dk[j]!).1 = d := by
  rw [getElem!_pos dk j hj]
  have : dk.toList[j]? = some dk[j] := by simp [hj]
  rw [this] at hd
  exact Option.some.inj hd
 subst hx
 exact ⟨(hH.cell hj (c := 0) (by decide)).1, (hH.cell hj (c := 1) (by decide)).1, (hH.cell hj (c := 2) (by decide)).1⟩
end Go.Proofs.W
namespace Go.Proofs.W
open Go Go.Proofs Go.Shelf Go.RowKit Go.Lib Go.Sort
set_option maxRecDepth 1000000
def SortTRet (B : Nat) (w : World) (a : Option Addr) (ts : List TrackV) (w' : World) : Prop := ∃ gs : List TrackV, gs.Perm ts ∧ gs.Pairwise (fun x y => pathLess y.path x.path = false) ∧ TracksH w' a gs ∧ RowKit.Below B w w'
theorem pairwise_sorted (d : Array TrackK) (h : SortedIn (ltOf TrackK.cf) 0 d.size d) : (d.toList.map (·.1)).Pairwise (fun x y => pathLess y.path x.path = false) := by
 rw [List.pairwise_map, List.pairwise_iff_getElem]
 intro i j hi hj hij
 have hi' : i < d.size := by simpa using hi
 have hj' : j < d.size := by simpa using hj
 have := h i j (Nat.zero_le _) hij hj'
 rw [TrackK.lt, getElem!_pos d i hi', getElem!_pos d j hj'] at this
 simpa using this
theorem sortOwnT (B : Nat) (a : Option Addr) (c : Nat) (ts : List TrackV) (w : World) (h : w.ownsRow B 40 3 (.slice a ts.length c) ts.length (ts.flatMap TrackV.cells)) (hB : B ≤ w.heap.size) (hMB : 2 < B) (hm : HasM w)
  (hsz : ∀ f, f ∈ ts → f.path.size < 4294967281) (hlen : ts.length < 1152921504606846976) :
  Calls Tryz.prog 88 #[.slice a ts.length c, .func (.func 89) #[] #[]] w fun e w' => e = .returned (.tuple #[]) ∧ SortTRet B w a ts w' := by
 have hcase := h.2
 rcases hcase with ⟨e, h0⟩ | ⟨g, cap, cur, e, _, _⟩
 ·have hf : ts = [] := List.eq_nil_of_length_eq_zero h0
  subst hf
  cases e
  exact (AnyF.slices_SortFunc_none Tryz.sortTrackLays none 0 (.func (.func 89) #[] #[]) w).mono fun e w' ⟨h1, h2⟩ => ⟨h1, [], List.Perm.refl _, List.Pairwise.nil, .inl rfl, by rw [h2]; exact Below.refl _ _⟩
 ·cases e
  obtain ⟨ks, hk⟩ : ∃ ks : Array TrackK, ks.toList.map (·.1) = ts := ⟨(ts.pmap (fun f hf => (⟨f, hf⟩ : TrackK)) hsz).toArray, by
   refine (List.map_pmap (f := fun (f : TrackV) hf => (⟨f, hf⟩ : TrackK)) (g := fun x : TrackK => x.1) (l := ts) hsz).trans ?_
   exact (List.pmap_eq_map (p := fun f : TrackV => f.path.size < 4294967281) (f := fun f => f) (l := ts) hsz).trans (List.map_id' ts)⟩
  have hn : ks.size = ts.length := by rw [← hk]; simp
  obtain ⟨hH, hg, hBg⟩ := holds_ownT hk h
  have R : RowK TrackK.enc 3 w g 0 ks := ⟨fun x => trackCells_len x.1, fun x => trackCells_one x.1, hH, hg⟩
  have hs := sortTracks g 0 c ks w hm (by omega) hH hg (by omega)
  rw [hn] at hs
  refine hs.mono fun e w' ⟨h1, d', hp, ho, hS⟩ => ⟨h1, d'.toList.map (·.1), ?_, ?_, ?_, ?_⟩
  ·rw [← hk]; exact hp.map _
  ·exact pairwise_sorted d' (by rw [hp.size, hn]; exact ho)
  ·exact .inr ⟨g, 0, rfl, tracks_swk R hp.size hS⟩
  ·exact swk_below hS hBg hB
end Go.Proofs.W
namespace Go.Proofs.W
open Go Go.Proofs Go.RowKit Go.Op Go.Sort
set_option maxRecDepth 1000000
theorem work_sorted (B : Nat) (a : Option Addr) (c : Nat) (ts : List TrackV) (w : World) (h : w.ownsRow B 40 3 (.slice a ts.length c) ts.length (ts.flatMap TrackV.cells)) (hB : B ≤ w.heap.size) (hMB : 2 < B) (hm : HasM w)
  (hsz : ∀ f, f ∈ ts → f.path.size < 4294967281) (hlen : ts.length < 1152921504606846976) :
  Calls Tryz.prog 42 #[.slice a ts.length c] w fun e w' => e = .returned (.slice a ts.length c) ∧ SortTRet B w a ts w' := by
 have hs := sortOwnT B a c ts w h hB hMB hm hsz hlen
 have HS : Hid _ := hs
 clear hs h
 go_enter Tryz.func42, Tryz.ntmps42
 go_wp2_with fail
 refine Calls.mono HS.out ?_
 rintro e w2 ⟨rfl, hr⟩
 have HR : Hid _ := hr
 clear hr
 go_wp2
 go_ret
 exact ⟨rfl, HR.out⟩
end Go.Proofs.W
