/- A PART OF THE PROOF THAT SAVETEXTS HOLDS FOR EVERY INPUT OF BULK AT MOST 1048576. No condition beyond the given statement. This part: WOf1. -/
import Derived.Test.YtciahohaonhdgaaGreatDoorWStab1
import Derived.Shelf.SlSortCmp.NoneTotal
import Derived.Deep.LoopGhost
import Derived.Test.YtciahohaonhdgaaGreatDoorWWith
import Derived.Test.YtciahohaonhdgaaGreatDoorNodesLaw
namespace Go.Proofs.W
open Go Go.Proofs Go.Shelf Go.RowKit Go.Lib Go.Sort
set_option maxRecDepth 1000000
theorem swk_below {α : Type} [Inhabited α] {enc : α → List Value} {k : Nat} {W W' : World} {blk off : Nat} {dk : Array α} {B : Nat} (h : SWK enc k W blk off dk W') (hB : B ≤ blk) (hs : B ≤ W.heap.size) : RowKit.Below B W W' := by
 obtain ⟨n, os, rfl⟩ := h
 refine ⟨rfl, rfl, rfl, ?_, fun j hj => ?_⟩
 ·unfold sortWorldK; rw [size_grow, size_putRowK]; exact Nat.le_add_right _ _
 ·unfold sortWorldK
  show ((W.heap.modify blk _) ++ os)[j]? = _
  rw [Array.getElem?_append_left (by simp; omega), Array.getElem?_modify, if_neg (by omega)]
theorem holds_own {w : World} {base c g : Nat} {xs : List FileV} {ks : Array FileK} (hk : ks.toList.map (·.1) = xs) (h : w.ownsRow base 56 3 (.slice (some ⟨g, 0, none⟩) xs.length c) xs.length (xs.flatMap FileV.cells)) : HoldsK FileK.enc 3 w g 0 ks ∧ g < w.heap.size ∧ base ≤ g := by
 have hsz : ks.size = xs.length := by rw [← hk]; simp
 rcases h.2 with ⟨e, _⟩ | ⟨g', cap, cur, e, hb, hh, _⟩
 ·cases e
 ·cases e
  refine ⟨fun j hj => ?_, (Array.getElem?_eq_some_iff.1 hh).1, hb⟩
  rw [size_flatK] at hj
  have hq : j / 3 < xs.length := by omega
  refine ⟨?_, frozen_of_row w _ _ _ _ hh⟩
  rw [Nat.zero_add, h.cellAt j (by omega), get_flatK _ _ _ _ hj]
  have hf : xs[j / 3]? = some xs[j / 3] := List.getElem?_eq_getElem hq
  have hj3 : j = j / 3 * 3 + j % 3 := by omega
  have hm : j % 3 < 3 := Nat.mod_lt _ (by decide)
  have h1 := flatMap_at FileV.cells 3 (fun _ => rfl) xs (j / 3) (j % 3) _ hf hm
  rw [← hj3] at h1
  rw [h1]
  have hd : (ks[j / 3]!).1 = xs[j / 3] := by
   rw [getElem!_pos ks (j / 3) (by omega)]
   simp [← hk]
  unfold FileK.enc
  rw [hd]
  exact (getElem?_pos _ _ (by rw [fileCells_len]; exact hm)).trans (by rw [getElem!_pos _ _ (by rw [fileCells_len]; exact hm)]; rfl)
theorem files_swk {w0 W : World} {g : Nat} {d0 dk : Array FileK} (R : RowK FileK.enc 3 w0 g 0 d0) (hs : dk.size = d0.size) (h : SWK FileK.enc 3 w0 g 0 dk W) (ht : ∀ f, f ∈ dk.toList.map (·.1) → TextsH W f.la f.lines ∧ f.lines.length < 9223372036854775808) : FilesAt W g 0 (dk.toList.map (·.1)) := by
 have hH := h.holds R.hblk R.hH hs
 refine ⟨h.lt R.hblk, fun j d hd => ?_, fun j d hd => ht d (List.mem_of_getElem? hd)⟩
 rw [List.getElem?_map] at hd
 have hj : j < dk.size := by
  have := (List.getElem?_eq_some_iff.1 (Option.map_eq_some_iff.1 hd).choose_spec.1).1
  simpa using this
 have hx : (dk[j]!).1 = d := by
  rw [getElem!_pos dk j hj]
  have : dk.toList[j]? = some dk[j] := by simp [hj]
  rw [this] at hd
  exact Option.some.inj hd
 subst hx
 exact ⟨(hH.cell hj (c := 0) (by decide)).1, (hH.cell hj (c := 1) (by decide)).1, (hH.cell hj (c := 2) (by decide)).1⟩
end Go.Proofs.W
namespace Go.Proofs.W
open Go Go.Proofs Go.Shelf Go.RowKit Go.Lib Go.Sort
set_option maxRecDepth 1000000
set_option maxHeartbeats 4000000 in
theorem sortNone (cap : Nat) (w : World) : Calls Tryz.prog 28 #[.slice none 0 cap, .func (.func 29) #[] #[]] w fun e w' => e = .returned (.tuple #[]) ∧ w' = w := by
 have hst : Calls Tryz.prog 68 #[.slice none 0 cap, .int .i64 0, .func (.func 29) #[] #[]] w fun e w' => e = .returned (.tuple #[]) ∧ w' = w := by
  have hin := AnyF.insertionSortCmpFunc_none { Tryz.insLays with } none cap (.func (.func 29) #[] #[]) w
  go_enter Tryz.func68, Tryz.ntmps68
  go_wp2
  go_loopg [7, 8] 0 (fun kx s7 s8 wr => s7 = .int .i64 0 ∧ s8 = .int .i64 20 ∧ kx = 0 ∧ Aside (wr = w))
  case atStart => exact ⟨rfl, rfl, rfl, rfl⟩
  case round =>
   obtain ⟨rfl, rfl, _, hw⟩ := hrel
   have hw' : wr = w := hw
   subst hw'
   go_wp2_with fail
   refine Calls.mono hin ?_
   rintro e w' ⟨rfl, rfl⟩
   clear hin
   go_wp2
   go_loopg [6] 0 (fun kx s6 wr => s6 = .int .i64 20 ∧ kx = 0 ∧ Aside (wr = w'))
   case atStart => exact ⟨rfl, rfl, rfl⟩
   case round =>
    obtain ⟨rfl, _, hw⟩ := hrel
    have hw' : wr = w' := hw
    subst hw'
    go_wp2
    go_end0
    exact ⟨rfl, rfl⟩
 go_enter Tryz.func28, Tryz.ntmps28
 go_wp2_with fail
 refine Calls.mono hst ?_
 rintro e w' ⟨rfl, rfl⟩
 go_wp2
 go_end0
 exact ⟨rfl, rfl⟩
end Go.Proofs.W
namespace Go.Proofs.W
open Go Go.Proofs Go.Shelf Go.RowKit Go.Lib Go.Sort
set_option maxRecDepth 1000000
def SortRet (B : Nat) (w : World) (a : Option Addr) (fs : List FileV) (w' : World) : Prop := ∃ gs : List FileV, gs.Perm fs ∧ (Rising pathLess (pathsOf fs) → gs = fs) ∧ FilesH w' a gs ∧ RowKit.Below B w w'
theorem riseC_files {ks : Array FileK} (h : Rising pathLess (pathsOf (ks.toList.map (·.1)))) : RiseC FileK.cf ks := by
 intro i j hij hj hlt
 have h1 := List.pairwise_iff_getElem.1 h i j (by simp [pathsOf]; omega) (by simp [pathsOf]; omega) hij
 simp only [pathsOf, List.getElem_map, Array.getElem_toList] at h1
 rw [getElem!_pos ks i (by omega), getElem!_pos ks j hj] at hlt
 have h2 : pathLess (ks[j]).1.path (ks[i]).1.path = true := (orderP_neg _ _).1 hlt
 rw [pathLess_asymm h1] at h2
 cases h2
theorem sortOwn (B : Nat) (a : Option Addr) (c : Nat) (fs : List FileV) (w : World) (h : w.ownsRow B 56 3 (.slice a fs.length c) fs.length (fs.flatMap FileV.cells)) (hB : B ≤ w.heap.size) (hMB : 2 < B) (hm : HasM w)
  (hsz : ∀ f, f ∈ fs → f.path.size < 4294967281) (hlen : fs.length < 1152921504606846976) (ht : ∀ W', RowKit.Below B w W' → ∀ f, f ∈ fs → TextsH W' f.la f.lines ∧ f.lines.length < 9223372036854775808) :
  Calls Tryz.prog 28 #[.slice a fs.length c, .func (.func 29) #[] #[]] w fun e w' => e = .returned (.tuple #[]) ∧ SortRet B w a fs w' := by
 have hcase := h.2
 rcases hcase with ⟨e, h0⟩ | ⟨g, cap, cur, e, _, _⟩
 ·have hf : fs = [] := List.eq_nil_of_length_eq_zero h0
  subst hf
  cases e
  exact (sortNone 0 w).mono fun e w' ⟨h1, h2⟩ => ⟨h1, [], List.Perm.refl _, fun _ => rfl, .inl rfl, by rw [h2]; exact Below.refl _ _⟩
 ·cases e
  obtain ⟨ks, hk⟩ : ∃ ks : Array FileK, ks.toList.map (·.1) = fs := ⟨(fs.pmap (fun f hf => (⟨f, hf⟩ : FileK)) hsz).toArray, by
   refine (List.map_pmap (f := fun (f : FileV) hf => (⟨f, hf⟩ : FileK)) (g := fun x : FileK => x.1) (l := fs) hsz).trans ?_
   exact (List.pmap_eq_map (p := fun f : FileV => f.path.size < 4294967281) (f := fun f => f) (l := fs) hsz).trans (List.map_id' fs)⟩
  have hn : ks.size = fs.length := by rw [← hk]; simp
  obtain ⟨hH, hg, hBg⟩ := holds_own hk h
  have R : RowK FileK.enc 3 w g 0 ks := ⟨fun x => fileCells_len x.1, fun x => fileCells_one x.1, hH, hg⟩
  have hs := sortFiles g 0 c ks w hm (by omega) hH hg (by omega)
  rw [hn] at hs
  refine hs.mono fun e w' ⟨h1, d', hp, hS⟩ => ⟨h1, d'.toList.map (·.1), ?_, fun rr => ?_, ?_, ?_⟩
  ·rw [← hk]; exact hp.1.map _
  ·rw [hp.2 (riseC_files (by rw [hk]; exact rr)), hk]
  ·have hb := swk_below hS hBg hB
   refine .inr ⟨g, 0, rfl, files_swk R hp.1.size hS fun f hf => ht w' hb f ?_⟩
   rw [← hk]
   exact (hp.1.map _).mem_iff.1 hf
  ·exact swk_below hS hBg hB
end Go.Proofs.W
namespace Go.Proofs.W
open Go Go.Proofs Go.RowKit Go.Op Go.Sort
set_option maxRecDepth 1000000
structure OfOk (fs gs : List FileV) : Prop where
 perm : (gs.map FileV.key).Perm (fs.map FileV.key)
 ok : FsOk gs
 right : ∀ g, g ∈ gs → pathR g.path = true
theorem ofStep {ss gs : List FileV} {f g : FileV} {i : Nat} (hi : ss[i]? = some f) (hp : (gs.map FileV.key).Perm ((ss.take i).map FileV.key)) (ok : FsOk gs) (hlen : gs.length < 1000000) (hr : ∀ g, g ∈ gs → pathR g.path = true) (hpr : pathR f.path = true) (hnew : hasP (pathsOf gs) f.path = false)
  (h1 : g.path = f.path) (h2 : g.dir = f.dir) (h3 : g.lines = f.lines) (hsz : f.path.size < 4294967281) (hll : f.lines.length ≤ 1000000) (rk : Nat) (hrk : rk = rankP (pathsOf gs) f.path) :
  (gs.take rk ++ g :: gs.drop rk).length = gs.length + 1 ∧ ((gs.take rk ++ g :: gs.drop rk).map FileV.key).Perm ((ss.take (i + 1)).map FileV.key) ∧ FsOk (gs.take rk ++ g :: gs.drop rk) ∧ ∀ x, x ∈ gs.take rk ++ g :: gs.drop rk → pathR x.path = true := by
 have hperm : (gs.take rk ++ g :: gs.drop rk).Perm (g :: gs) := by
  refine List.perm_middle.trans ?_
  rw [List.take_append_drop]
 have hl := hperm.length_eq
 refine ⟨hl, ?_, ⟨?_, fun x hx => ?_, by rw [hl]; simp only [List.length_cons]; omega, fun x hx => ?_⟩, fun x hx => ?_⟩
 ·refine (hperm.map _).trans ?_
  rw [List.map_cons, List.take_add_one, hi, Option.toList_some, List.map_append]
  have hk : g.key = f.key := by unfold FileV.key; rw [h1, h2, h3]
  rw [hk]
  exact (hp.cons _).trans (List.perm_append_comm (l₁ := [f.key]))
 ·have hn : f.path ∉ pathsOf gs := fun hmem => by rw [(hasP_iff ok.rising _).2 hmem] at hnew; cases hnew
  have := rankP_put ok.rising hn
  rw [← hrk] at this
  unfold pathsOf at this ⊢
  rw [List.map_append, List.map_take, List.map_cons, List.map_drop, h1]
  exact this
 ·rcases List.mem_cons.1 (hperm.mem_iff.1 hx) with rfl | hm
  ·rw [h1]; exact hsz
  ·exact ok.size x hm
 ·rcases List.mem_cons.1 (hperm.mem_iff.1 hx) with rfl | hm
  ·rw [h3]; exact hll
  ·exact ok.lines x hm
 ·rcases List.mem_cons.1 (hperm.mem_iff.1 hx) with rfl | hm
  ·rw [h1]; exact hpr
  ·exact hr x hm
end Go.Proofs.W
namespace Go.Proofs.W
open Go Go.Proofs Go.RowKit Go.Op Go.Sort
open Go.Proofs.Np (split_join)
set_option maxRecDepth 1000000
theorem dirP_less {p : ByteArray} (hd : pathR (dirP p) = true) : pathLess (dirP p) p = true := by
 have hne : dirP p ≠ ByteArray.empty := fun e => by
  have h1 := splitP_nil (p := dirP p)
  have h2 : splitP (dirP p) ≠ [] := fun h => by rw [h1.1 h] at hd; cases hd
  obtain ⟨_, _, h3, h4⟩ := pathR_names hd
  rw [h4, e] at h2
  have h5 : Np.cutB ByteArray.empty = [ByteArray.empty] := by rfl
  have h6 := h3 ByteArray.empty (by rw [e, h5]; simp)
  exact ((nameR_iff _).1 h6).1 rfl
 have hs : splitP (dirP p) = (splitP p).dropLast := by
  have h1 := split_join (right := pathR) (L := (splitP p).dropLast) hne
  exact h1
 have hn : (splitP p).dropLast ≠ [] := fun h => by
  rw [h] at hs
  rw [splitP_nil.1 hs] at hd
  cases hd
 have hp : splitP p ≠ [] := fun h => by rw [h] at hn; exact hn rfl
 rw [pathLess_right hd p]
 apply decide_eq_true
 have e1 : rawP p = rawP (dirP p) ++ [((splitP p).getLast hp).data.toList] := by
  unfold rawP
  rw [hs]
  conv => lhs; rw [← List.dropLast_concat_getLast hp]
  rw [List.map_append]
  rfl
 have e2 : cmpL (rawP (dirP p)) (rawP p) = cmpL (rawP (dirP p) ++ []) (rawP (dirP p) ++ [((splitP p).getLast hp).data.toList]) := by rw [List.append_nil, ← e1]
 rw [e2, cmpL_same]
 simp [cmpL]
theorem path_at {fs : List FileV} (hr : Rising pathLess (pathsOf fs)) {i j : Nat} {f g : FileV} (hf : fs[i]? = some f) (hg : fs[j]? = some g) : (pathLess f.path g.path = true → i < j) ∧ (f.path = g.path → i = j) := by
 have hi := (List.getElem?_eq_some_iff.1 hf).1
 have hj := (List.getElem?_eq_some_iff.1 hg).1
 have key : ∀ {a b : Nat} {x y : FileV}, fs[a]? = some x → fs[b]? = some y → a < b → pathLess x.path y.path = true := fun {a b x y} hx hy hab => by
  obtain ⟨h1, rfl⟩ := List.getElem?_eq_some_iff.1 hx
  obtain ⟨h2, rfl⟩ := List.getElem?_eq_some_iff.1 hy
  have := List.pairwise_iff_getElem.1 hr a b (by simpa [pathsOf] using h1) (by simpa [pathsOf] using h2) hab
  simpa [pathsOf] using this
 refine ⟨fun h => ?_, fun h => ?_⟩
 ·rcases Nat.lt_trichotomy i j with h1 | h1 | h1
  ·exact h1
  ·subst h1
   rw [hf] at hg
   obtain rfl := Option.some.inj hg
   rw [pathLess_irr] at h; cases h
  ·have := key hg hf h1
   rw [pathLess_asymm this] at h; cases h
 ·rcases Nat.lt_trichotomy i j with h1 | h1 | h1
  ·have := key hf hg h1
   rw [h, pathLess_irr] at this; cases this
  ·exact h1
  ·have := key hg hf h1
   rw [h, pathLess_irr] at this; cases this
theorem dirIs_iff {fs : List FileV} (hr : Rising pathLess (pathsOf fs)) (p : ByteArray) : dirIs fs p = true ↔ p.toList.isEmpty = true ∨ ∃ f, f ∈ fs ∧ f.path = p ∧ f.dir = true := by
 unfold dirIs isDirAt
 rw [Bool.or_eq_true]
 refine or_congr Iff.rfl ?_
 constructor
 ·intro h
  rw [Bool.and_eq_true] at h
  obtain ⟨h1, h2⟩ := h
  obtain ⟨f, h3, h4⟩ := hasP_at h1
  rw [h3] at h2
  exact ⟨f, List.mem_of_getElem? h3, h4, h2⟩
 ·rintro ⟨f, hf, rfl, hd⟩
  have h1 : hasP (pathsOf fs) f.path = true := (hasP_iff hr _).2 (List.mem_map.2 ⟨f, hf, rfl⟩)
  obtain ⟨g, h3, h4⟩ := hasP_at h1
  obtain ⟨j, hj⟩ := List.getElem?_of_mem hf
  have e := (path_at hr h3 hj).2 h4
  rw [h1, h3, Bool.true_and]
  rw [e] at h3
  rw [hj] at h3
  obtain rfl := Option.some.inj h3
  exact hd
theorem comeE_zero {fs : List FileV} {f : FileV} : comeE fs f = 0 ↔ pathR f.path = true ∧ hasP (pathsOf fs) f.path = false ∧ dirIs fs (dirP f.path) = true ∧ linesE f.lines = 0 ∧ (f.dir = true → f.lines = []) := by
 unfold comeE
 cases h1 : pathR f.path with
 | false => simp
 | true =>
  cases h2 : hasP (pathsOf fs) f.path with
  | true => simp
  | false =>
   cases h3 : dirIs fs (dirP f.path) with
   | false => simp
   | true =>
    by_cases h4 : linesE f.lines = 0
    ·rw [if_pos rfl, if_neg (by simp), if_pos rfl, if_pos h4]
     cases h5 : f.dir with
     | false => simp [h4]
     | true =>
      by_cases h6 : f.lines = []
      ·have h8 : linesE [] = 0 := by rw [← h6]; exact h4
       simp [h6, h8]
      ·have : 0 < f.lines.length := by
        cases h7 : f.lines with
        | nil => exact absurd h7 h6
        | cons _ _ => simp
       simp [h6, this]
    ·rw [if_pos rfl, if_neg (by simp), if_pos rfl, if_neg h4]
     simp [h4]
def okFile (fs : List FileV) (f : FileV) : Prop := dirIs fs (dirP f.path) = true ∧ linesE f.lines = 0 ∧ (f.dir = true → f.lines = [])
structure Good (fs : List FileV) : Prop where
 rising : Rising pathLess (pathsOf fs)
 ok : ∀ f, f ∈ fs → pathR f.path = true ∧ okFile fs f
 len : fs.length ≤ 500
theorem key_mem {gs fs : List FileV} (hp : (gs.map FileV.key).Perm (fs.map FileV.key)) {g : FileV} (hg : g ∈ gs) : ∃ f, f ∈ fs ∧ f.path = g.path ∧ f.dir = g.dir ∧ f.lines = g.lines := by
 obtain ⟨f, hf, e⟩ := List.mem_map.1 (hp.mem_iff.1 (List.mem_map.2 ⟨g, hg, rfl⟩))
 unfold FileV.key at e
 simp only [Prod.mk.injEq] at e
 exact ⟨f, hf, e.1, e.2.1, e.2.2⟩
theorem okFile_mono {fs gs : List FileV} (hf : Rising pathLess (pathsOf fs)) (hg : Rising pathLess (pathsOf gs)) (hs : ∀ f, f ∈ fs → ∃ g, g ∈ gs ∧ g.path = f.path ∧ g.dir = f.dir) {f g : FileV} (h1 : g.path = f.path) (h2 : g.dir = f.dir) (h3 : g.lines = f.lines) (h : okFile fs f) : okFile gs g := by
 refine ⟨?_, by rw [h3]; exact h.2.1, by rw [h2, h3]; exact h.2.2⟩
 rw [h1]
 rw [dirIs_iff hg]
 rcases (dirIs_iff hf _).1 h.1 with h4 | ⟨x, hx, hx1, hx2⟩
 ·exact .inl h4
 ·obtain ⟨y, hy, hy1, hy2⟩ := hs x hx
  exact .inr ⟨y, hy, by rw [hy1, hx1], by rw [hy2, hx2]⟩
theorem good_step {fs gs : List FileV} (hG : Good fs) {i : Nat} {f : FileV} (hi : fs[i]? = some f) (hp : (gs.map FileV.key).Perm ((fs.take i).map FileV.key)) (hr : Rising pathLess (pathsOf gs)) : comeE gs f = 0 := by
 obtain ⟨h1, h2, h3, h4⟩ := hG.ok f (List.mem_of_getElem? hi)
 refine comeE_zero.2 ⟨h1, ?_, ?_, h3, h4⟩
 ·cases hq : hasP (pathsOf gs) f.path with
  | false => rfl
  | true =>
   obtain ⟨g, hg, e⟩ := List.mem_map.1 ((hasP_iff hr _).1 hq)
   obtain ⟨x, hx, hx1, _⟩ := key_mem hp hg
   obtain ⟨j, hj⟩ := List.getElem?_of_mem hx
   rw [List.getElem?_take] at hj
   split at hj
   ·have := (path_at hG.rising hj hi).2 (by rw [hx1, e])
    omega
   ·cases hj
 ·rw [dirIs_iff hr]
  rcases (dirIs_iff hG.rising _).1 h2 with h5 | ⟨x, hx, hx1, hx2⟩
  ·exact .inl h5
  ·obtain ⟨j, hj⟩ := List.getElem?_of_mem hx
   have hless : pathLess x.path f.path = true := by
    rw [hx1]
    exact dirP_less (by rw [← hx1]; exact (hG.ok x hx).1)
   have hji := (path_at hG.rising hj hi).1 hless
   have hx' : x ∈ fs.take i := List.mem_of_getElem? (i := j) (by rw [List.getElem?_take, if_pos hji]; exact hj)
   obtain ⟨y, hy, hy1, hy2, _⟩ := key_mem hp.symm hx'
   exact .inr ⟨y, hy, by rw [hy1, hx1], by rw [hy2, hx2]⟩
theorem okFile_put {gs : List FileV} {f g : FileV} {rk : Nat} (hr : Rising pathLess (pathsOf gs)) (hr' : Rising pathLess (pathsOf (gs.take rk ++ g :: gs.drop rk))) (hok : ∀ x, x ∈ gs → okFile gs x) (hc : comeE gs f = 0) (h1 : g.path = f.path) (h2 : g.dir = f.dir) (h3 : g.lines = f.lines) : ∀ x, x ∈ gs.take rk ++ g :: gs.drop rk → okFile (gs.take rk ++ g :: gs.drop rk) x := by
 have hperm : (gs.take rk ++ g :: gs.drop rk).Perm (g :: gs) := by
  refine List.perm_middle.trans ?_
  rw [List.take_append_drop]
 have hs : ∀ x, x ∈ gs → ∃ y, y ∈ gs.take rk ++ g :: gs.drop rk ∧ y.path = x.path ∧ y.dir = x.dir := fun x hx => ⟨x, hperm.mem_iff.2 (List.mem_cons_of_mem _ hx), rfl, rfl⟩
 intro x hx
 rcases List.mem_cons.1 (hperm.mem_iff.1 hx) with rfl | hm
 ·obtain ⟨_, _, q3, q4, q5⟩ := comeE_zero.1 hc
  exact okFile_mono hr hr' hs h1 h2 h3 ⟨q3, q4, q5⟩
 ·exact okFile_mono hr hr' hs rfl rfl rfl (hok x hm)
end Go.Proofs.W
