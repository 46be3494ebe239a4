/- A PART OF THE PROOF THAT WORKMAKES HOLDS FOR EVERY INPUT OF BULK AT MOST 1048576. No condition beyond the given statement. This part: WOf1. -/
import Derived.Test.YthodcfgoeffbdaaGreatDoorWStab6
import Derived.Shelf.SlSortCmp.NoneTotal
import Derived.Deep.LoopGhost
namespace Go.Proofs.W
open Go Go.Proofs Go.Shelf Go.RowKit Go.Lib Go.Sort
set_option maxRecDepth 1000000

/-- a sort changes nothing below its row -/
theorem swk_below {α : Type} [Inhabited α] {enc : α → List Value} {k : Nat} {W W' : World} {blk off : Nat} {dk : Array α} {B : Nat} (h : SWK enc k W blk off dk W') (hB : B ≤ blk) (hs : B ≤ W.heap.size) : RowKit.Below B W W' := by
  obtain ⟨n, os, rfl⟩ := h
  refine ⟨rfl, rfl, rfl, ?_, fun j hj => ?_⟩
  · unfold sortWorldK; rw [size_grow, size_putRowK]; exact Nat.le_add_right _ _
  · unfold sortWorldK
    show ((W.heap.modify blk _) ++ os)[j]? = _
    rw [Array.getElem?_append_left (by simp; omega), Array.getElem?_modify, if_neg (by omega)]

theorem holds_own {w : World} {base c g : Nat} {xs : List FileV} {ks : Array FileK} (hk : ks.toList.map (·.1) = xs) (h : w.ownsRow base 53 3 (.slice (some ⟨g, 0, none⟩) xs.length c) xs.length (xs.flatMap FileV.cells)) : HoldsK FileK.enc 3 w g 0 ks ∧ g < w.heap.size ∧ base ≤ g := by
  have hsz : ks.size = xs.length := by rw [← hk]; simp
  rcases h.2 with ⟨e, _⟩ | ⟨g', cap, cur, e, hb, hh, _⟩
  · cases e
  · cases e
    refine ⟨fun j hj => ?_, (Array.getElem?_eq_some_iff.1 hh).1, hb⟩
    rw [size_flatK] at hj
    have hq : j / 3 < xs.length := by omega
    refine ⟨?_, frozen_of_row w _ _ _ _ hh⟩
    rw [Nat.zero_add, h.cellAt j (by omega), get_flatK _ _ _ _ hj]
    have hf : xs[j / 3]? = some xs[j / 3] := List.getElem?_eq_getElem hq
    have hj3 : j = j / 3 * 3 + j % 3 := by omega
    have hm : j % 3 < 3 := Nat.mod_lt _ (by decide)
    have h1 := flatMap_at FileV.cells 3 (fun _ => rfl) xs (j / 3) (j % 3) _ hf hm
    rw [← hj3] at h1
    rw [h1]
    have hd : (ks[j / 3]!).1 = xs[j / 3] := by
      rw [getElem!_pos ks (j / 3) (by omega)]
      simp [← hk]
    unfold FileK.enc
    rw [hd]
    exact (getElem?_pos _ _ (by rw [fileCells_len]; exact hm)).trans (by rw [getElem!_pos _ _ (by rw [fileCells_len]; exact hm)]; rfl)

theorem files_swk {w0 W : World} {g : Nat} {d0 dk : Array FileK} (R : RowK FileK.enc 3 w0 g 0 d0) (hs : dk.size = d0.size) (h : SWK FileK.enc 3 w0 g 0 dk W) (ht : ∀ f, f ∈ dk.toList.map (·.1) → TextsH W f.la f.lines ∧ f.lines.length < 9223372036854775808) : FilesAt W g 0 (dk.toList.map (·.1)) := by
  have hH := h.holds R.hblk R.hH hs
  refine ⟨h.lt R.hblk, fun j d hd => ?_, fun j d hd => ht d (List.mem_of_getElem? hd)⟩
  rw [List.getElem?_map] at hd
  have hj : j < dk.size := by
    have := (List.getElem?_eq_some_iff.1 (Option.map_eq_some_iff.1 hd).choose_spec.1).1
    simpa using this
  have hx : (dk[j]!).1 = d := by
    rw [getElem!_pos dk j hj]
    have : dk.toList[j]? = some dk[j] := by simp [hj]
    rw [this] at hd
    exact Option.some.inj hd
  subst hx
  exact ⟨(hH.cell hj (c := 0) (by decide)).1, (hH.cell hj (c := 1) (by decide)).1, (hH.cell hj (c := 2) (by decide)).1⟩
end Go.Proofs.W
namespace Go.Proofs.W
open Go Go.Proofs Go.Shelf Go.RowKit Go.Lib Go.Sort
set_option maxRecDepth 1000000

set_option maxHeartbeats 4000000 in
/-- the stable sort of no row at all -/
theorem sortNone (cap : Nat) (w : World) : Calls Tryz.prog 23 #[.slice none 0 cap, .func (.func 24) #[] #[]] w fun e w' => e = .returned (.tuple #[]) ∧ w' = w := by
  have hst : Calls Tryz.prog 60 #[.slice none 0 cap, .int .i64 0, .func (.func 24) #[] #[]] w fun e w' => e = .returned (.tuple #[]) ∧ w' = w := by
    have hin := AnyF.insertionSortCmpFunc_none { Tryz.insLays with } none cap (.func (.func 24) #[] #[]) w
    go_enter Tryz.func60, Tryz.ntmps60
    go_wp2
    go_loopg [7, 8] 0 (fun kx s7 s8 wr => s7 = .int .i64 0 ∧ s8 = .int .i64 20 ∧ kx = 0 ∧ Aside (wr = w))
    case atStart => exact ⟨rfl, rfl, rfl, rfl⟩
    case round =>
      obtain ⟨rfl, rfl, _, hw⟩ := hrel
      have hw' : wr = w := hw
      subst hw'
      go_wp2_with fail
      refine Calls.mono hin ?_
      rintro e w' ⟨rfl, rfl⟩
      clear hin
      go_wp2
      go_loopg [6] 0 (fun kx s6 wr => s6 = .int .i64 20 ∧ kx = 0 ∧ Aside (wr = w'))
      case atStart => exact ⟨rfl, rfl, rfl⟩
      case round =>
        obtain ⟨rfl, _, hw⟩ := hrel
        have hw' : wr = w' := hw
        subst hw'
        go_wp2
        go_end0
        exact ⟨rfl, rfl⟩
  go_enter Tryz.func23, Tryz.ntmps23
  go_wp2_with fail
  refine Calls.mono hst ?_
  rintro e w' ⟨rfl, rfl⟩
  go_wp2
  go_end0
  exact ⟨rfl, rfl⟩
end Go.Proofs.W
namespace Go.Proofs.W
open Go Go.Proofs Go.Shelf Go.RowKit Go.Lib Go.Sort
set_option maxRecDepth 1000000

/-- what the stable sort leaves: the same files in another order, in the same row -/
def SortRet (B : Nat) (w : World) (a : Option Addr) (fs : List FileV) (w' : World) : Prop := ∃ gs : List FileV, gs.Perm fs ∧ FilesH w' a gs ∧ RowKit.Below B w w'

theorem sortOwn (B : Nat) (a : Option Addr) (c : Nat) (fs : List FileV) (w : World) (h : w.ownsRow B 53 3 (.slice a fs.length c) fs.length (fs.flatMap FileV.cells)) (hB : B ≤ w.heap.size) (hMB : 2 < B) (hm : HasM w)
    (hsz : ∀ f, f ∈ fs → f.path.size < 4294967281) (hlen : fs.length < 1152921504606846976) (ht : ∀ W', RowKit.Below B w W' → ∀ f, f ∈ fs → TextsH W' f.la f.lines ∧ f.lines.length < 9223372036854775808) :
    Calls Tryz.prog 23 #[.slice a fs.length c, .func (.func 24) #[] #[]] w fun e w' => e = .returned (.tuple #[]) ∧ SortRet B w a fs w' := by
  have hcase := h.2
  rcases hcase with ⟨e, h0⟩ | ⟨g, cap, cur, e, _, _⟩
  · have hf : fs = [] := List.eq_nil_of_length_eq_zero h0
    subst hf
    cases e
    exact (sortNone 0 w).mono fun e w' ⟨h1, h2⟩ => ⟨h1, [], List.Perm.refl _, .inl rfl, by rw [h2]; exact Below.refl _ _⟩
  · cases e
    obtain ⟨ks, hk⟩ : ∃ ks : Array FileK, ks.toList.map (·.1) = fs := ⟨(fs.pmap (fun f hf => (⟨f, hf⟩ : FileK)) hsz).toArray, by
      refine (List.map_pmap (f := fun (f : FileV) hf => (⟨f, hf⟩ : FileK)) (g := fun x : FileK => x.1) (l := fs) hsz).trans ?_
      exact (List.pmap_eq_map (p := fun f : FileV => f.path.size < 4294967281) (f := fun f => f) (l := fs) hsz).trans (List.map_id' fs)⟩
    have hn : ks.size = fs.length := by rw [← hk]; simp
    obtain ⟨hH, hg, hBg⟩ := holds_own hk h
    have R : RowK FileK.enc 3 w g 0 ks := ⟨fun x => fileCells_len x.1, fun x => fileCells_one x.1, hH, hg⟩
    have hs := sortFiles g 0 c ks w hm (by omega) hH hg (by omega)
    rw [hn] at hs
    refine hs.mono fun e w' ⟨h1, d', hp, hS⟩ => ⟨h1, d'.toList.map (·.1), ?_, ?_, ?_⟩
    · rw [← hk]; exact hp.map _
    · have hb := swk_below hS hBg hB
      refine .inr ⟨g, 0, rfl, files_swk R hp.size hS fun f hf => ht w' hb f ?_⟩
      rw [← hk]
      exact (hp.map _).mem_iff.1 hf
    · exact swk_below hS hBg hB
end Go.Proofs.W
namespace Go.Proofs.W
open Go Go.Proofs Go.RowKit Go.Op Go.Sort
set_option maxRecDepth 1000000

/-- a tree of the files gs, of what fs holds -/
structure OfOk (fs gs : List FileV) : Prop where
  perm : (gs.map FileV.key).Perm (fs.map FileV.key)
  ok : FsOk gs
  right : ∀ g, g ∈ gs → pathR g.path = true
def OfRet (fs : List FileV) (e : Ending) (w' : World) : Prop := (∃ n : Int, n ≠ 0 ∧ e = .returned (.tuple #[.agg #[.slice none 0 0], .int .i64 n])) ∨
  (∃ (a' : Option Addr) (c' : Nat) (gs : List FileV), OfOk fs gs ∧ e = .returned (.tuple #[.agg #[.slice a' gs.length c'], .int .i64 0]) ∧ FilesH w' a' gs)

theorem ofStep {ss gs : List FileV} {f g : FileV} {i : Nat} (hi : ss[i]? = some f) (hp : (gs.map FileV.key).Perm ((ss.take i).map FileV.key)) (ok : FsOk gs) (hlen : gs.length < 1000000) (hr : ∀ g, g ∈ gs → pathR g.path = true) (hpr : pathR f.path = true) (hnew : hasP (pathsOf gs) f.path = false)
    (h1 : g.path = f.path) (h2 : g.dir = f.dir) (h3 : g.lines = f.lines) (hsz : f.path.size < 4294967281) (hll : f.lines.length ≤ 1000000) (rk : Nat) (hrk : rk = rankP (pathsOf gs) f.path) :
    (gs.take rk ++ g :: gs.drop rk).length = gs.length + 1 ∧ ((gs.take rk ++ g :: gs.drop rk).map FileV.key).Perm ((ss.take (i + 1)).map FileV.key) ∧ FsOk (gs.take rk ++ g :: gs.drop rk) ∧ ∀ x, x ∈ gs.take rk ++ g :: gs.drop rk → pathR x.path = true := by
  have hperm : (gs.take rk ++ g :: gs.drop rk).Perm (g :: gs) := by
    refine List.perm_middle.trans ?_
    rw [List.take_append_drop]
  have hl := hperm.length_eq
  refine ⟨hl, ?_, ⟨?_, fun x hx => ?_, by rw [hl]; simp only [List.length_cons]; omega, fun x hx => ?_⟩, fun x hx => ?_⟩
  · refine (hperm.map _).trans ?_
    rw [List.map_cons, List.take_add_one, hi, Option.toList_some, List.map_append]
    have hk : g.key = f.key := by unfold FileV.key; rw [h1, h2, h3]
    rw [hk]
    exact (hp.cons _).trans (List.perm_append_comm (l₁ := [f.key]))
  · have hn : f.path ∉ pathsOf gs := fun hmem => by rw [(hasP_iff ok.rising _).2 hmem] at hnew; cases hnew
    have := rankP_put ok.rising hn
    rw [← hrk] at this
    unfold pathsOf at this ⊢
    rw [List.map_append, List.map_take, List.map_cons, List.map_drop, h1]
    exact this
  · rcases List.mem_cons.1 (hperm.mem_iff.1 hx) with rfl | hm
    · rw [h1]; exact hsz
    · exact ok.size x hm
  · rcases List.mem_cons.1 (hperm.mem_iff.1 hx) with rfl | hm
    · rw [h3]; exact hll
    · exact ok.lines x hm
  · rcases List.mem_cons.1 (hperm.mem_iff.1 hx) with rfl | hm
    · rw [h1]; exact hpr
    · exact hr x hm

set_option maxHeartbeats 16000000 in
theorem tree_Of (a : Option Addr) (c : Nat) (fs : List FileV) (w : World) (h : FilesH w a fs) (hm : HasM w) (hU : HasU w) (hsz : ∀ f, f ∈ fs → f.path.size < 4294967281) (hll : ∀ f, f ∈ fs → f.lines.length ≤ 1000000) (hls : ∀ f, f ∈ fs → ∀ s, s ∈ f.lines → s.size ≤ 9223372036854775807) (ht : ∀ f, f ∈ fs → TextsH w f.la f.lines) (hlen : fs.length < 4611686018427387904) :
    Calls Tryz.prog 6 #[.slice a fs.length c] w fun e w' => OfRet fs e w' ∧ Below w.heap.size w w' := by
  have mixed : Tryz.prog.follows .mixedOrders = true := by kernel_rfl
  have hA := belowAlloc w (.cells #[.slice none 0 0] 27)
  have hbx := (MapKept.heap_alloc w (.cells #[.slice none 0 0] 27)).1
  have hz : (w.alloc (.cells #[.slice none 0 0] 27)).heap.size = w.heap.size + 1 := by simp
  by_cases hbig : (500 : Int) < (fs.length : Int)
  · go_enter Tryz.func6, Tryz.ntmps6
    have H1 : Hid _ := hbx
    have HA : Hid _ := hA
    clear hbx hA hz
    go_wp2
    refine bodyPost_ret_by (results_cell_row_tmp (p := 2) (u := 3) rfl _ _ w.heap.size _ _ _ _ ?hp H1.out Tryz.underlying27 rfl (by kernel_rfl)) rfl ⟨Or.inl ⟨4, by decide, rfl⟩, HA.out⟩
    case hp => rfl
  · have hn : fs.length ≤ 500 := by omega
    have hcl := cloneFiles a c fs _ (h.below hA) (by omega)
    have HC : Hid _ := hcl
    have H1 : Hid _ := hbx
    have HA : Hid _ := hA
    have HZ : Hid _ := hz
    clear hbx hA hz hcl
    go_enter Tryz.func6, Tryz.ntmps6
    go_wp2_with fail
    refine Calls.mono HC.out ?_
    rintro e w2 ⟨⟨v2, rfl, hown⟩, hb2⟩
    obtain ⟨a2, k2, rfl⟩ := ownShape hown
    have hB2 := belowTrans HA.out hb2
    have hso := sortOwn (w.heap.size + 1) a2 k2 fs w2 (by rw [← HZ.out]; exact hown) (by have := hb2.size; have := HZ.out; omega) (by obtain ⟨_, _, h2⟩ := hm; omega) (hm.below hB2) hsz (by omega) fun W' hb f hf => ⟨(ht f hf).below (hB2.trans (hb.mono (Nat.le_succ _))), by have := hll f hf; omega⟩
    have HS : Hid _ := hso
    have HB2 : Hid _ := hB2
    have H2 : Hid _ := (hb2.block w.heap.size (by have := HZ.out; omega)).trans H1.out
    clear hso hown hb2 hB2 HC
    go_wp2_with fail
    refine Calls.mono HS.out ?_
    rintro e w3 ⟨rfl, ss, hperm, hfs, hb3⟩
    have HB3 : Hid (Below w.heap.size w w3) := HB2.out.trans (hb3.mono (Nat.le_succ _))
    have H3 : Hid _ := (hb3.block w.heap.size (by omega)).trans H2.out
    have HP : Hid (ss.Perm fs) := hperm
    have HF : Hid (FilesH w3 a2 ss) := hfs
    have hsl : ss.length = fs.length := hperm.length_eq
    have HSL : Hid _ := hsl
    have hz3 : w.heap.size < w3.heap.size := (Array.getElem?_eq_some_iff.1 H3.out).1
    have HZ3 : Hid _ := hz3
    clear hperm hfs hb3 HS H2 HB2 H1 HA HZ hsl hz3
    go_wp2
    go_loopg [20] fs.length (fun kx s20 wr => ∃ (i : Nat) (ta : Option Addr) (tc : Nat) (gs : List FileV), s20 = .int .i64 i ∧ i ≤ fs.length ∧ fs.length - i ≤ kx ∧ Hid (gs.length = i ∧ (gs.map FileV.key).Perm ((ss.take i).map FileV.key) ∧ FsOk gs ∧ (∀ g, g ∈ gs → pathR g.path = true) ∧ FilesH wr ta gs ∧ Below w3.heap.size w3 wr ∧ wr.heap[w3.heap.size]? = some (.cells #[.slice ta gs.length tc] 27 (0, 0))))
    case atStart =>
      refine ⟨0, none, 0, [], rfl, Nat.zero_le _, Nat.le_refl _, rfl, List.Perm.refl _, ⟨?_, fun _ hf => (by cases hf), Nat.zero_le _, fun _ hf => (by cases hf)⟩, fun _ hg => (by cases hg), .inl rfl, belowAlloc w3 _, (MapKept.heap_alloc w3 _).1⟩
      exact List.Pairwise.nil
    case round =>
      obtain ⟨i, ta, tc, gs, rfl, hin, hkx, REL⟩ := hrel
      by_cases hlt : i < fs.length
      · obtain ⟨r1, r2, r3, r4, r5, r6, r7⟩ := REL.out
        have hil : i < ss.length := by rw [HSL.out]; exact hlt
        obtain ⟨f, hf⟩ : ∃ f, ss[i]? = some f := ⟨_, List.getElem?_eq_getElem hil⟩
        have hff : f ∈ fs := HP.out.mem_iff.1 (List.mem_of_getElem? hf)
        obtain ⟨b, o, rfl, hN⟩ : ∃ b o, a2 = some ⟨b, o, none⟩ ∧ FilesAt w3 b o ss := HF.out.resolve_left (by omega)
        obtain ⟨e0, e1, e2⟩ := (hN.below r6).cell i f hf
        have hiz : (i : Int) < (fs.length : Int) := by omega
        have hA5 := belowAlloc wr (.cells #[.string f.path, .bool f.dir, .slice f.la f.lines.length f.lc] 53)
        have hB5 := belowTrans r6 hA5
        have hB5' := belowTrans HB3.out hB5
        have q0 : (wr.alloc (.cells #[.string f.path, .bool f.dir, .slice f.la f.lines.length f.lc] 53)).cell? ⟨w3.heap.size, 0, none⟩ = some (.slice ta gs.length tc) := by
          have := (hA5.block _ (Array.getElem?_eq_some_iff.1 r7).1).trans r7
          simp [World.cell?, this]
        have hcome := tree_come ta tc gs f _ (r5.below hA5) r3 (hsz f hff) (hm.below hB5') (hU.below hB5') ((ht f hff).below hB5') (hll f hff) (hls f hff) (by omega)
        unfold FileV.val at hcome
        have HCM : Hid _ := hcome
        have H5 : Hid _ := hB5
        clear hcome hA5 hB5 hB5' r1 r2 r3 r4 r5 r6 r7 hil hN
        go_wp2_with fail
        refine Calls.mono HCM.out ?_
        rintro e w6 ⟨hret, hb6⟩
        clear q0 e0 e1 e2 HCM
        have HB6 : Hid (Below w3.heap.size w3 w6) := belowTrans H5.out hb6
        have HB6' : Hid (Below w.heap.size w w6) := belowTrans HB3.out HB6.out
        have H6 : Hid _ := (HB6.out.block _ HZ3.out).trans H3.out
        rcases hret with ⟨en, hen, rfl⟩ | ⟨hpr, hnew, a', c', g, hg1, hg2, hg3, rfl, hF⟩
        · have hA7 := belowAlloc w6 (.cells #[.slice none 0 0] 27)
          have h7 := (hA7.block _ (Nat.lt_of_lt_of_le HZ3.out HB6.out.size)).trans H6.out
          have p0 : (w6.alloc (.cells #[.slice none 0 0] 27)).cell? ⟨w.heap.size, 0, none⟩ = some (.slice none 0 0) := by simp [World.cell?, h7]
          have p1 := frozen_of_row _ w.heap.size 0 _ _ h7
          have H7 : Hid _ := h7
          have HB7 : Hid _ := belowTrans HB6'.out hA7
          clear hA7 h7 hb6
          go_wp2
          (try simp only [Exit.inBlock, Exit.then])
          have hfin := setCell_block (.slice none 0 0) H7.out (i := 0)
          refine bodyPost_ret_by (results_cell_row_tmp (p := 2) (u := 3) rfl _ _ w.heap.size _ _ _ _ ?hp hfin Tryz.underlying27 rfl (by kernel_rfl)) rfl ⟨Or.inl ⟨en, hen, rfl⟩, HB7.out.setCell (Nat.le_refl _) _⟩
          case hp => rfl
        · obtain ⟨r1, r2, r3, r4, r5, r6, r7⟩ := REL.out
          obtain ⟨s1, s2, s3, s4⟩ := ofStep hf r2 r3 (by omega) r4 hpr hnew hg1 hg2 hg3 (hsz f hff) (hll f hff) _ rfl
          generalize gs.take (rankP (pathsOf gs) f.path) ++ g :: gs.drop (rankP (pathsOf gs) f.path) = gs' at hF s1 s2 s3 s4
          have hA7 := belowAlloc w6 (.cells #[.slice a' (gs.length + 1) c'] 27)
          have hlt5 : w3.heap.size < wr.heap.size := (Array.getElem?_eq_some_iff.1 r7).1
          have h7 := (hA7.block _ (Nat.lt_of_lt_of_le hlt5 (Nat.le_trans (by simp) hb6.size))).trans ((hb6.block _ (by simp; omega)).trans (((belowAlloc wr (.cells #[.string f.path, .bool f.dir, .slice f.la f.lines.length f.lc] 53)).block _ hlt5).trans r7))
          have p0 : (w6.alloc (.cells #[.slice a' (gs.length + 1) c'] 27)).cell? ⟨w3.heap.size, 0, none⟩ = some (.slice ta gs.length tc) := by simp [World.cell?, h7]
          have p1 := frozen_of_row _ w3.heap.size 0 _ _ h7
          have hB7 := (belowTrans HB6.out hA7).setCell (p := ⟨w3.heap.size, 0, none⟩) (Nat.le_refl _) (.slice a' (gs.length + 1) c')
          have hF7 := filesH_set (hF.below hA7) h7 (fun x => by simp) (.slice a' (gs.length + 1) c')
          have h8 := setCell_block (.slice a' (gs.length + 1) c') h7 (i := 0)
          have HB7 : Hid _ := hB7
          have HF7 : Hid _ := hF7
          have H8 : Hid _ := h8
          have HS : Hid _ := And.intro s1 (And.intro s2 (And.intro s3 s4))
          have HG : Hid _ := r1
          clear hA7 h7 hB7 hF7 h8 hb6 s1 s2 s3 s4 r1 r2 r3 r4 r5 r6 r7 hF hlt5 hg1 hg2 hg3 hpr hnew
          go_wp2
          go_roundg (fs.length - (i + 1))
          case measure => omega
          case rel =>
            obtain ⟨s1, s2, s3, s4⟩ := HS.out
            refine ⟨i + 1, a', c', gs', by go_num, by omega, Nat.le_refl _, ?_⟩
            show _ ∧ _
            exact ⟨by rw [s1, HG.out], s2, s3, s4, HF7.out, HB7.out, by rw [s1]; exact H8.out⟩
      · have hiz : ¬ (i : Int) < (fs.length : Int) := by omega
        obtain ⟨r1, r2, r3, r4, r5, r6, r7⟩ := REL.out
        have hi : i = fs.length := by omega
        have hall : ss.take i = ss := List.take_of_length_le (by rw [HSL.out]; omega)
        rw [hall] at r2
        have hB := belowTrans HB3.out r6
        have h7 := (r6.block _ HZ3.out).trans H3.out
        have q0 : wr.cell? ⟨w3.heap.size, 0, none⟩ = some (.slice ta gs.length tc) := by simp [World.cell?, r7]
        have q1 : wr.cell? ⟨w.heap.size, 0, none⟩ = some (.slice none 0 0) := by simp [World.cell?, h7]
        have q2 := frozen_of_row _ w.heap.size 0 _ _ h7
        have H7 : Hid _ := h7
        have HO : Hid (OfOk fs gs) := ⟨r2.trans (HP.out.map _), r3, r4⟩
        have HF7 : Hid _ := filesH_set r5 h7 (fun x => by simp) (.slice ta gs.length tc)
        have HB7 : Hid _ := hB.setCell (p := ⟨w.heap.size, 0, none⟩) (Nat.le_refl _) (.slice ta gs.length tc)
        clear r1 r2 r3 r4 r5 r6 r7 hi hall hB h7 hkx
        go_wp2
        have hfin := setCell_block (.slice ta gs.length tc) H7.out (i := 0)
        refine bodyPost_ret_by (results_cell_row_tmp (p := 2) (u := 3) rfl _ _ w.heap.size _ _ _ _ ?hp hfin Tryz.underlying27 rfl (by kernel_rfl)) rfl ⟨Or.inr ⟨ta, tc, gs, HO.out, rfl, HF7.out⟩, HB7.out⟩
        case hp => rfl
end Go.Proofs.W
