/- A PART OF THE PROOF THAT SAVETEXTS HOLDS FOR EVERY INPUT OF BULK AT MOST 1048576. No condition beyond the given statement. This part: WWorkT. -/
import Derived.Test.YtciahohaonhdgaaGreatDoorWOfX
import Derived.Test.YtciahohaonhdgaaGreatDoorWWork
import Derived.Test.YtciahohaonhdgaaGreatDoorWIdLaw
import Derived.Test.YtciahohaonhdgaaGreatDoorWTText
namespace Go.Proofs.W
open Go Go.Proofs Go.RowKit Go.Op
set_option maxRecDepth 1000000
def WX (oa : Option Addr) (m oc B : Nat) (t : TrackV) (j : Nat) (v : Value) (W : World) : Prop := match j with
 | 0 => v = .slice oa m oc
 | 1 => v = .pointer (some ⟨B, 0, none⟩)
 | 2 => v = .string t.path
 | 3 => v = .pointer (some ⟨B, 1, none⟩)
 | 4 => v = .agg #[.string t.patch, .int .i64 t.n]
 | 5 => v = .string (idT t.patch t.n)
 | 6 => ∃ g c, v = .slice (some ⟨g, 0, none⟩) 2 c ∧ W.heap[g]? = some (.cells #[.string t.path, .string (idT t.patch t.n)] 9 (0, 0))
 | _ => True
theorem WX.below {oa : Option Addr} {m oc B : Nat} {t : TrackV} {W W' : World} (hb : Below W.heap.size W W') (j : Nat) (u : Value) (h : WX oa m oc B t j u W) : WX oa m oc B t j u W' := by
 unfold WX at h ⊢
 split at h
 any_goals exact h
 obtain ⟨g, c, e, h1⟩ := h
 exact ⟨g, c, e, (hb.block g (Array.getElem?_eq_some_iff.1 h1).1).trans h1⟩
theorem workT_parts (fs : List FileV) (ts : List TrackV) : (treeT fs).length ≤ (workT fs ts).length ∧ (listT (trackL ts)).length ≤ (workT fs ts).length := by
 have h1 := listT_item (xs := workL fs ts) (x := ofL (listT (trackL ts))) (by simp [workL])
 have h2 := listT_item (xs := workL fs ts) (x := ofL (treeT fs)) (by simp [workL])
 rw [ofL_size] at h1 h2
 exact ⟨h2, h1⟩
theorem texts2 (w : World) (x y : ByteArray) {W : World} (hb : Below (w.alloc (.cells #[.string x, .string y] 9)).heap.size (w.alloc (.cells #[.string x, .string y] 9)) W) : TextsH W (some ⟨w.heap.size, 0, none⟩) [x, y] :=
 .inr ⟨_, _, rfl, (textsAt_new w [x, y] 9).below hb⟩
set_option maxHeartbeats 16000000 in
theorem save_WorkText (a ta : Option Addr) (c tc : Nat) (fs : List FileV) (ts : List TrackV) (w : World) (h : FilesH w a fs) (hl : ∀ f, f ∈ fs → f.lines.length ≤ 1000000) (hlen : fs.length ≤ 1000000) (ht : TracksH w ta ts) (htl : ts.length ≤ 1000000) (hps : ∀ t, t ∈ ts → t.patch.size < 9223372036854775000) (hbig : (workT fs ts).length ≤ 70368744177664) :
  Calls Tryz.prog 15 #[.agg #[.slice a fs.length c, .slice ta ts.length tc]] w fun e w' => e = .returned (.string (ofL (workT fs ts))) ∧ Below w.heap.size w w' := by
 obtain ⟨io, hio, hz0, hz1, hz2⟩ := info9
 have mixed : Tryz.prog.follows .mixedOrders = true := by kernel_rfl
 obtain ⟨W0, hW0⟩ : ∃ W0, W0 = w.alloc (.cells #[.slice a fs.length c, .slice ta ts.length tc] 42) := ⟨_, rfl⟩
 have hA : Below w.heap.size w W0 := by rw [hW0]; exact belowAlloc _ _
 have hb : W0.heap[w.heap.size]? = some (.cells #[.slice a fs.length c, .slice ta ts.length tc] 42 (0, 0)) := by rw [hW0]; exact (MapKept.heap_alloc _ _).1
 have hlt : w.heap.size < W0.heap.size := (Array.getElem?_eq_some_iff.1 hb).1
 have BOX : Hid (∀ w', Below W0.heap.size W0 w' → w'.cell? ⟨w.heap.size, 0, none⟩ = some (.slice a fs.length c) ∧ w'.cell? ⟨w.heap.size, 1, none⟩ = some (.slice ta ts.length tc)) := fun w' hb' => by
  have e1 := (hb'.block w.heap.size hlt).trans hb
  exact ⟨by simp [World.cell?, e1], by simp [World.cell?, e1]⟩
 obtain ⟨x0, x1⟩ := BOX.out W0 (Below.refl _ _)
 have HTR : Hid _ := work_Tracks a ta c tc fs.length ts W0 (ht.below hA) (by omega)
 have HTE : Hid (∀ W, _) := fun W => work_Tree a ta c tc fs.length ts.length W
 have HA : Hid _ := hA
 have HF : Hid (FilesH w a fs) := h
 have HPARTS : Hid _ := workT_parts fs ts
 clear hb hlt hA
 go_enter Tryz.func15, Tryz.ntmps15
 go_wp2_with fail
 simp only [← hW0]
 clear hW0
 refine Calls.mono HTR.out ?_
 rintro e w1 ⟨⟨v1, rfl, hown⟩, hb1⟩
 obtain ⟨va, vc, rfl⟩ := ownShape hown
 have HT1 : Hid (TracksH w1 va ts) := tracksH_row hown
 have HB1 : Hid _ := belowTrans HA.out hb1
 have HJ1 : Hid (∀ W, Below w1.heap.size w1 W → Below W0.heap.size W0 W) := fun W h => belowTrans hb1 h
 clear hown hb1 HTR x0 x1
 go_wp2
 go_loopg [3, 9] ts.length (fun kx s3 s9 wr => ∃ (i m : Nat) (oa : Option Addr) (oc : Nat), s3 = .slice oa m oc ∧ s9 = .int .i64 i ∧ i ≤ ts.length ∧ ts.length - i ≤ kx ∧ Hid (m = 2 * i ∧ wr.ownsRow w1.heap.size 9 1 (.slice oa m oc) m ((trackL (ts.take i)).map Value.string) ∧ Below w1.heap.size w1 wr))
 case atStart => exact ⟨0, 0, none, 0, rfl, rfl, Nat.zero_le _, Nat.le_refl _, rfl, World.ownsRow_nil _ _ _ _, Below.refl _ _⟩
 case round =>
  obtain ⟨i, m, oa, oc, rfl, rfl, hin, hkx, REL⟩ := hrel
  by_cases hlt : i < ts.length
  ·obtain ⟨b, o, rfl, hN⟩ : ∃ b o, va = some ⟨b, o, none⟩ ∧ TracksAt w1 b o ts := HT1.out.resolve_left (by omega)
   obtain ⟨t, htt⟩ : ∃ t, ts[i]? = some t := ⟨_, List.getElem?_eq_getElem hlt⟩
   have HPS : Hid _ := hps t (List.mem_of_getElem? htt)
   obtain ⟨e0, e1, e2⟩ := (hN.below REL.out.2.2).cell i t htt
   have hiz : (i : Int) < (ts.length : Int) := by omega
   have HTK : Hid (trackL (ts.take (i + 1)) = trackL (ts.take i) ++ [t.path, idT t.patch t.n]) := trackL_take htt
   obtain ⟨B, hB⟩ : ∃ B, B = wr.heap.size := ⟨_, rfl⟩
   obtain ⟨W2, hW2⟩ : ∃ W2, W2 = wr.alloc (.cells #[.string t.path, .string t.patch, .int .i64 t.n] 40) := ⟨_, rfl⟩
   have HBB : Hid (W2.heap[B]? = some (.cells #[.string t.path, .string t.patch, .int .i64 t.n] 40 (0, 0))) := by
    show _ = _
    rw [hW2, hB]
    exact (MapKept.heap_alloc _ _).1
   have HBL : Hid (B < W2.heap.size) := by show _ < _; rw [hW2, allocSize]; omega
   have HB2 : Hid (Below wr.heap.size wr W2) := by show Below _ _ _; rw [hW2]; exact belowAlloc _ _
   clear hN htt
   go_wp2_with fail
   simp only [← hB, ← hW2]
   clear hW2 e0 e1 e2
   refine wp_region_gx 7 7 29 (by kernel_rfl) ?ok ?forced rfl (fun _ => WX oa m oc B t) (fun W => Below W2.heap.size W2 W) (belowDrew1 _) ?step ?fin
   case ok => kernel_rfl
   case forced => kernel_rfl
   case step =>
    intro i' oq hi' ho L A W hLi hpre hF hJ hV
    have s3 : A.tmps[3]? = some (.slice oa m oc) := hF.at (by kernel_rfl) rfl
    have s5 : A.tmps[5]? = some (.pointer (some ⟨B, 0, none⟩)) := hF.at (by kernel_rfl) rfl
    have d1 := (hJ.block B HBL.out).trans HBB.out
    have k0 : W.cell? ⟨B, 0, none⟩ = some (.string t.path) := by simp [World.cell?, d1]
    have k1 : W.cell? ⟨B, 1, none⟩ = some (.string t.patch) := by simp [World.cell?, d1]
    have k2 : W.cell? ⟨B, 2, none⟩ = some (.int .i64 t.n) := by simp [World.cell?, d1]
    have hWs := hJ.size
    match i', hi' with
   | 0, _ =>
    cases ho
    refine .inl ⟨wanted_none rfl, fun K hK => rg_val (v := .slice oa m oc) ?_ (hK _ _ (fun j u _ => WX.below (Below.refl _ _) j u) rfl hJ)⟩
    simp [execOp, Act.eval, go_sem, s3]
   | 1, _ =>
    cases ho
    refine .inl ⟨wanted_none rfl, fun K hK => rg_val (v := .pointer (some ⟨B, 0, none⟩)) ?_ (hK _ _ (fun j u _ => WX.below (Below.refl _ _) j u) rfl hJ)⟩
    simp [execOp, Act.eval, go_sem, s5]
   | 2, _ =>
    cases ho
    have sx := hF.slot (i := 1) rfl (by simp) (hV 1 (hpre ⟨1, .data⟩ (by simp) rfl))
    refine .inl ⟨wanted_none rfl, fun K hK => rg_val (v := .string t.path) ?_ (hK _ _ (fun j u _ => WX.below (Below.refl _ _) j u) rfl hJ)⟩
    simp [execOp, Act.eval, go_sem, sx, k0]
   | 3, _ =>
    cases ho
    refine .inl ⟨wanted_none rfl, fun K hK => rg_val (v := .pointer (some ⟨B, 1, none⟩)) ?_ (hK _ _ (fun j u _ => WX.below (Below.refl _ _) j u) rfl hJ)⟩
    simp [execOp, Act.eval, go_sem, s5]
   | 4, _ =>
    cases ho
    have sx := hF.slot (i := 3) rfl (by simp) (hV 3 (hpre ⟨3, .data⟩ (by simp) rfl))
    refine .inl ⟨wanted_none rfl, fun K hK => rg_val (v := .agg #[.string t.patch, .int .i64 t.n]) ?_ (hK _ _ (fun j u _ => WX.below (Below.refl _ _) j u) rfl hJ)⟩
    simp [execOp, Act.eval, go_sem, sx, k1, k2]
   | 5, _ =>
    cases ho
    have sx := hF.slot (i := 4) rfl (by simp) (hV 4 (hpre ⟨4, .data⟩ (by simp) rfl))
    refine .inl ⟨wanted_none rfl, fun K hK => rg_enter (f := 46) (args := #[.agg #[.string t.patch, .int .i64 t.n]]) (w' := W) ?_ (id_Text t.patch t.n W HPS.out) ?_ ?_ ?_⟩
    ·simp [Act.eval, go_sem, sx]
    ·rintro v w'' ⟨e, hb⟩
     cases e
     exact hK _ _ (fun j u _ => WX.below hb j u) rfl (hJ.trans (hb.mono hWs))
    ·rintro chain w'' ⟨e, hb⟩
     cases e
    ·rintro w'' ⟨e, hb⟩
     cases e
   | 6, _ =>
    cases ho
    have sx := hF.slot (i := 2) rfl (by simp) (hV 2 (hpre ⟨2, .data⟩ (by simp) rfl))
    have sy := hF.slot (i := 5) rfl (by simp) (hV 5 (hpre ⟨5, .data⟩ (by simp) rfl))
    refine .inl ⟨wanted_none rfl, fun K hK => rg_val (w' := W.alloc (.cells #[.string t.path, .string (idT t.patch t.n)] 9)) (v := .slice (some ⟨W.heap.size, 0, none⟩) 2 2) ?_ (hK _ _ (fun j u _ => WX.below (belowAlloc _ _) j u) ⟨_, _, rfl, (MapKept.heap_alloc _ _).1⟩ (hJ.trans ((belowAlloc _ _).mono hWs)))⟩
    simp [execOp, Act.eval, go_sem, sx, sy]
   case fin =>
    intro A W hF hJ hV
    have f0 : A.tmps.getD 13 undef = .slice oa m oc := hV 0 (by omega)
    obtain ⟨g, gc, f6, h7⟩ := hV 6 (by omega)
    have f6 : A.tmps.getD 19 undef = .slice (some ⟨g, 0, none⟩) 2 gc := f6
    rw [hF.lit [13, 14, 15, 16, 17, 18, 19] (by kernel_rfl)]
    simp only [relaid, List.foldl_cons, List.foldl_nil, f0, f6]
    generalize A.tmps.getD 14 undef = y14
    generalize A.tmps.getD 15 undef = y15
    generalize A.tmps.getD 16 undef = y16
    generalize A.tmps.getD 17 undef = y17
    generalize A.tmps.getD 18 undef = y18
    simp only [List.setIfInBounds_toArray, List.set_cons_succ, List.set_cons_zero, List.drop_succ_cons]
    clear hV hF f0 f6
    obtain ⟨r1, r2, r3⟩ := REL.out
    have hBW : Below wr.heap.size wr W := belowTrans HB2.out hJ
    have hown := ownsRow_below r2 hBW
    have hml : m ≤ 2000000 := by omega
    have hz9 := (belowTrans r3 hBW).size
    refine wpList_append_src W rfl (.tmp 13) (.tmp 19) 54 rfl w1.heap.size 9 io _ 1 _ Tryz.underlying54 hio hz0 hz1 hz2 rfl (by decide) _ m _ rfl hown _ 2 [.string t.path, .string (idT t.patch t.n)] rfl (.inr ⟨_, _, rfl, rfl, ?src⟩) ?one ?len3 ?bytes3 ?base3 ?_
    case src =>
     intro j u hu
     rw [Addr.add_lit, Nat.zero_add]
     have h8 : W.cell? ⟨g, j, none⟩ = (#[.string t.path, .string (idT t.patch t.n)] : Array Value)[j]? := by simp [World.cell?, h7]
     rw [h8]
     simpa using hu
    case one =>
     intro u hu
     simp only [List.mem_cons, List.not_mem_nil, or_false] at hu
     rcases hu with rfl | rfl <;> rfl
    case len3 => unfold maxLen; omega
    case bytes3 => omega
    case base3 => exact hz9
    intro v' w' hown' hg _
    obtain ⟨ta', tc', rfl⟩ := ownShape hown'
    have HN : Hid (m + 2 = 2 * (i + 1) ∧ w'.ownsRow w1.heap.size 9 1 (.slice ta' (m + 2) tc') (m + 2) ((trackL (ts.take (i + 1))).map Value.string) ∧ Below w1.heap.size w1 w') := by
     refine ⟨by omega, ?_, ?_⟩
     ·rw [HTK.out, List.map_append]
      exact hown'
     ·have h6 : Below w1.heap.size w1 W := belowTrans r3 hBW
      exact h6.grown hg h6.size (fun k hk => (hown.lt k hk).1)
    clear hown' hg hown r1 r2 r3 hBW h7 hJ hz9
    go_wp2
    go_roundg (ts.length - (i + 1))
    case measure => omega
    case rel => exact ⟨i + 1, _, _, _, rfl, by go_num, by omega, Nat.le_refl _, HN.out⟩
  ·have hiz : ¬ (i : Int) < (ts.length : Int) := by omega
   obtain ⟨r1, r2, r3⟩ := REL.out
   have hi : i = ts.length := by omega
   have htk : ts.take i = ts := List.take_of_length_le (by omega)
   rw [htk] at r2
   have hm2 : m = (trackL ts).length := by rw [trackL_len]; omega
   subst hm2
   have hOH : TextsH wr oa (trackL ts) := textsH_own r2
   have HOH : Hid (TextsH wr oa (trackL ts)) := hOH
   have HB3 : Hid _ := belowTrans HB1.out r3
   obtain ⟨x0, x1⟩ := BOX.out wr (HJ1.out wr r3)
   obtain ⟨p1, p2⟩ := HPARTS.out
   have HTT : Hid (∀ W, Below w.heap.size w W → _) := fun W hb => tree_Text a c fs W (HF.out.below hb) hl hlen (by omega)
   have HLT : Hid (∀ W, Below wr.heap.size wr W → _) := fun W hb => code_List oa oc (trackL ts) W (HOH.out.below hb) (by omega)
   have HLW : Hid (∀ (W0 W : World) (hb : Below (W0.alloc (.cells #[.string (ofL (treeT fs)), .string (ofL (listT (trackL ts)))] 9)).heap.size (W0.alloc (.cells #[.string (ofL (treeT fs)), .string (ofL (listT (trackL ts)))] 9)) W), _) := fun W0 W hb => code_List (some ⟨W0.heap.size, 0, none⟩) 2 [ofL (treeT fs), ofL (listT (trackL ts))] W (texts2 W0 _ _ hb) hbig
   have HWT : Hid (ofL (workT fs ts) = ofL (listT [ofL (treeT fs), ofL (listT (trackL ts))])) := rfl
   clear r1 r2 r3 REL hOH p1 p2 hi htk
   go_wp2_with fail
   refine Calls.mono (HTE.out _) ?_
   rintro e w3 ⟨rfl, hb3⟩
   have HB4 : Hid _ := belowTrans HB3.out hb3
   have HR4 : Hid _ := hb3
   clear hb3 x0 x1
   go_wp2_with fail
   refine Calls.mono (HTT.out _ HB4.out) ?_
   rintro e w4 ⟨rfl, hb4⟩
   have HB5 : Hid _ := belowTrans HB4.out hb4
   have HR5 : Hid _ := belowTrans HR4.out hb4
   clear hb4
   go_wp2_with fail
   refine Calls.mono (HLT.out _ HR5.out) ?_
   rintro e w5 ⟨rfl, hb5⟩
   have HB6 : Hid _ := belowTrans HB5.out hb5
   clear hb5
   generalize hq1 : ofL (treeT fs) = q1 at *
   generalize hq2 : ofL (listT (trackL ts)) = q2 at *
   clear hq1 hq2
   have HA5 : Hid _ := belowTrans HB6.out (belowAlloc w5 (.cells #[.string q1, .string q2] 9))
   go_wp2_with fail
   refine Calls.mono (HLW.out w5 _ (Below.refl _ _)) ?_
   rintro e w6 ⟨rfl, hb6⟩
   have HB7 : Hid _ := belowTrans HA5.out hb6
   clear hb6
   go_wp2
   go_ret
   rw [HWT.out]
   exact ⟨rfl, HB7.out⟩
end Go.Proofs.W
namespace Go.Proofs.W
open Go Go.Proofs Go.RowKit Go.Op
set_option maxRecDepth 1000000
def WZ (oa : Option Addr) (m oc B1 b o n tc i : Nat) (t : TrackV) (j : Nat) (v : Value) (W : World) : Prop := match j with
 | 0 => v = .slice oa m oc
 | 1 => v = .pointer (some ⟨B1, 1, none⟩)
 | 2 => v = .slice (some ⟨b, o, none⟩) n tc
 | 3 => v = .int .i64 i
 | 4 => v = .pointer (some ⟨b, o + i * 3, none⟩)
 | 5 => v = .pointer (some ⟨b, o + i * 3, none⟩)
 | 6 => v = .string t.path
 | 7 => v = .pointer (some ⟨B1, 1, none⟩)
 | 8 => v = .slice (some ⟨b, o, none⟩) n tc
 | 9 => v = .int .i64 i
 | 10 => v = .pointer (some ⟨b, o + i * 3, none⟩)
 | 11 => v = .pointer (some ⟨b, o + i * 3 + 1, none⟩)
 | 12 => v = .agg #[.string t.patch, .int .i64 t.n]
 | 13 => v = .string (idT t.patch t.n)
 | 14 => ∃ g c, v = .slice (some ⟨g, 0, none⟩) 2 c ∧ W.heap[g]? = some (.cells #[.string t.path, .string (idT t.patch t.n)] 9 (0, 0))
 | _ => True
theorem WZ.below {oa : Option Addr} {m oc B1 b o n tc i : Nat} {t : TrackV} {W W' : World} (hb : Below W.heap.size W W') (j : Nat) (u : Value) (h : WZ oa m oc B1 b o n tc i t j u W) : WZ oa m oc B1 b o n tc i t j u W' := by
 unfold WZ at h ⊢
 split at h
 any_goals exact h
 obtain ⟨g, c, e, h1⟩ := h
 exact ⟨g, c, e, (hb.block g (Array.getElem?_eq_some_iff.1 h1).1).trans h1⟩
set_option maxHeartbeats 16000000 in
theorem R33_WorkText (a ta : Option Addr) (c tc : Nat) (fs : List FileV) (ts : List TrackV) (w : World) (h : FilesH w a fs) (hlen : fs.length ≤ 1000000) (ht : TracksH w ta ts) (htl : ts.length ≤ 1000000) (hps : ∀ t, t ∈ ts → t.patch.size < 9223372036854775000) (hbig : (workT fs ts).length ≤ 70368744177664) :
  Calls Tryz.prog 16 #[.agg #[.slice a fs.length c, .slice ta ts.length tc]] w fun e w' => e = .returned (.string (ofL (workT fs ts))) ∧ Below w.heap.size w w' := by
 obtain ⟨io, hio, hz0, hz1, hz2⟩ := info9
 have mixed : Tryz.prog.follows .mixedOrders = true := by kernel_rfl
 obtain ⟨W0, hW0⟩ : ∃ W0, W0 = w.alloc (.cells #[.slice a fs.length c, .slice ta ts.length tc] 50) := ⟨_, rfl⟩
 have hA : Below w.heap.size w W0 := by rw [hW0]; exact belowAlloc _ _
 have hb : W0.heap[w.heap.size]? = some (.cells #[.slice a fs.length c, .slice ta ts.length tc] 50 (0, 0)) := by rw [hW0]; exact (MapKept.heap_alloc _ _).1
 have hlt : w.heap.size < W0.heap.size := (Array.getElem?_eq_some_iff.1 hb).1
 have BOX : Hid (∀ w', Below W0.heap.size W0 w' → w'.cell? ⟨w.heap.size, 0, none⟩ = some (.slice a fs.length c) ∧ w'.cell? ⟨w.heap.size, 1, none⟩ = some (.slice ta ts.length tc)) := fun w' hb' => by
  have e1 := (hb'.block w.heap.size hlt).trans hb
  exact ⟨by simp [World.cell?, e1], by simp [World.cell?, e1]⟩
 have HA : Hid _ := hA
 have HF : Hid (FilesH w a fs) := h
 have HT1 : Hid (TracksH W0 ta ts) := ht.below hA
 have HPARTS : Hid _ := workT_parts fs ts
 clear hb hlt hA
 obtain ⟨n, hn⟩ : ∃ n, n = ts.length := ⟨_, rfl⟩
 have HNL : Hid _ := hn
 have hnb : n ≤ 1000000 := by omega
 rw [← hn] at BOX htl hW0 ⊢
 clear hn
 go_enter Tryz.func16, Tryz.ntmps16
 go_wp2
 simp only [← hW0]
 clear hW0
 go_loopg [3, 4] n (fun kx s3 s4 wr => ∃ (i m : Nat) (oa : Option Addr) (oc : Nat), s3 = .slice oa m oc ∧ s4 = .int .i64 i ∧ i ≤ n ∧ n - i ≤ kx ∧ Hid (m = 2 * i ∧ wr.ownsRow W0.heap.size 9 1 (.slice oa m oc) m ((trackL (ts.take i)).map Value.string) ∧ Below W0.heap.size W0 wr))
 case atStart => exact ⟨0, 0, none, 0, rfl, rfl, Nat.zero_le _, Nat.le_refl _, rfl, World.ownsRow_nil _ _ _ _, Below.refl _ _⟩
 case round =>
  obtain ⟨i, m, oa, oc, rfl, rfl, hin, hkx, REL⟩ := hrel
  obtain ⟨x0, x1⟩ := BOX.out wr REL.out.2.2
  by_cases hlt : i < n
  ·have hlt' : i < ts.length := by have := HNL.out; omega
   obtain ⟨b, o, rfl, hN⟩ : ∃ b o, ta = some ⟨b, o, none⟩ ∧ TracksAt W0 b o ts := HT1.out.resolve_left (by omega)
   obtain ⟨t, htt⟩ : ∃ t, ts[i]? = some t := ⟨_, List.getElem?_eq_getElem hlt'⟩
   have HPS : Hid _ := hps t (List.mem_of_getElem? htt)
   have HCE : Hid (∀ W, Below wr.heap.size wr W → W.cell? ⟨w.heap.size, 1, none⟩ = some (.slice (some ⟨b, o, none⟩) n tc) ∧ W.cell? ⟨b, o + i * 3, none⟩ = some (.string t.path) ∧ W.cell? ⟨b, o + i * 3 + 1, none⟩ = some (.string t.patch) ∧ W.cell? ⟨b, o + i * 3 + 2, none⟩ = some (.int .i64 t.n)) := fun W hb => by
    have hB := belowTrans REL.out.2.2 hb
    exact ⟨(BOX.out W hB).2, (hN.below hB).cell i t htt⟩
   have hix : (i : Int) < (n : Int) := by omega
   have hnn : ¬ (i : Int) < 0 := by omega
   have hnn0 : (0 : Int) ≤ (i : Int) := by omega
   have HTK : Hid (trackL (ts.take (i + 1)) = trackL (ts.take i) ++ [t.path, idT t.patch t.n]) := trackL_take htt
   clear hN htt
   go_wp2_with fail
   clear x0 x1
   refine wp_region_gx 15 15 35 (by kernel_rfl) ?ok ?forced rfl (fun _ => WZ oa m oc w.heap.size b o n tc i t) (fun W => Below wr.heap.size wr W) (belowDrew1 _) ?step ?fin
   case ok => kernel_rfl
   case forced => kernel_rfl
   case step =>
    intro i' oq hi' ho L A W hLi hpre hF hJ hV
    have s1 : A.tmps[1]? = some (.pointer (some ⟨w.heap.size, 0, none⟩)) := hF.at (by kernel_rfl) rfl
    have s3 : A.tmps[3]? = some (.slice oa m oc) := hF.at (by kernel_rfl) rfl
    have s4 : A.tmps[4]? = some (.int .i64 i) := hF.at (by kernel_rfl) rfl
    obtain ⟨k1, e0, e1, e2⟩ := HCE.out W hJ
    have hWs := hJ.size
    match i', hi' with
   | 0, _ =>
    cases ho
    refine .inl ⟨wanted_none rfl, fun K hK => rg_val (v := .slice oa m oc) ?_ (hK _ _ (fun j u _ => WZ.below (Below.refl _ _) j u) rfl hJ)⟩
    simp [execOp, Act.eval, go_sem, s3]
   | 1, _ =>
    cases ho
    refine .inl ⟨wanted_none rfl, fun K hK => rg_val (v := .pointer (some ⟨w.heap.size, 1, none⟩)) ?_ (hK _ _ (fun j u _ => WZ.below (Below.refl _ _) j u) rfl hJ)⟩
    simp [execOp, Act.eval, go_sem, s1]
   | 2, _ =>
    cases ho
    have sx := hF.slot (i := 1) rfl (by simp) (hV 1 (hpre ⟨1, .data⟩ (by simp) rfl))
    refine .inl ⟨wanted_none rfl, fun K hK => rg_val (v := .slice (some ⟨b, o, none⟩) n tc) ?_ (hK _ _ (fun j u _ => WZ.below (Below.refl _ _) j u) rfl hJ)⟩
    simp [execOp, Act.eval, go_sem, sx, k1]
   | 3, _ =>
    cases ho
    refine .inl ⟨wanted_none rfl, fun K hK => rg_val (v := .int .i64 i) ?_ (hK _ _ (fun j u _ => WZ.below (Below.refl _ _) j u) rfl hJ)⟩
    simp [execOp, Act.eval, go_sem, s4]
   | 4, _ =>
    cases ho
    have sx := hF.slot (i := 2) rfl (by simp) (hV 2 (hpre ⟨2, .data⟩ (by simp) rfl))
    have sy := hF.slot (i := 3) rfl (by simp) (hV 3 (hpre ⟨3, .data⟩ (by simp) rfl))
    refine .inl ⟨wanted_none rfl, fun K hK => rg_val (v := .pointer (some ⟨b, o + i * 3, none⟩)) ?_ (hK _ _ (fun j u _ => WZ.below (Below.refl _ _) j u) rfl hJ)⟩
    simp [execOp, Act.eval, go_sem, sx, sy, hix, hnn]
   | 5, _ =>
    cases ho
    have sx := hF.slot (i := 4) rfl (by simp) (hV 4 (hpre ⟨4, .data⟩ (by simp) rfl))
    refine .inl ⟨wanted_none rfl, fun K hK => rg_val (v := .pointer (some ⟨b, o + i * 3, none⟩)) ?_ (hK _ _ (fun j u _ => WZ.below (Below.refl _ _) j u) rfl hJ)⟩
    simp [execOp, Act.eval, go_sem, sx]
   | 6, _ =>
    cases ho
    have sx := hF.slot (i := 5) rfl (by simp) (hV 5 (hpre ⟨5, .data⟩ (by simp) rfl))
    refine .inl ⟨wanted_none rfl, fun K hK => rg_val (v := .string t.path) ?_ (hK _ _ (fun j u _ => WZ.below (Below.refl _ _) j u) rfl hJ)⟩
    simp [execOp, Act.eval, go_sem, sx, e0]
   | 7, _ =>
    cases ho
    refine .inl ⟨wanted_none rfl, fun K hK => rg_val (v := .pointer (some ⟨w.heap.size, 1, none⟩)) ?_ (hK _ _ (fun j u _ => WZ.below (Below.refl _ _) j u) rfl hJ)⟩
    simp [execOp, Act.eval, go_sem, s1]
   | 8, _ =>
    cases ho
    have sx := hF.slot (i := 7) rfl (by simp) (hV 7 (hpre ⟨7, .data⟩ (by simp) rfl))
    refine .inl ⟨wanted_none rfl, fun K hK => rg_val (v := .slice (some ⟨b, o, none⟩) n tc) ?_ (hK _ _ (fun j u _ => WZ.below (Below.refl _ _) j u) rfl hJ)⟩
    simp [execOp, Act.eval, go_sem, sx, k1]
   | 9, _ =>
    cases ho
    refine .inl ⟨wanted_none rfl, fun K hK => rg_val (v := .int .i64 i) ?_ (hK _ _ (fun j u _ => WZ.below (Below.refl _ _) j u) rfl hJ)⟩
    simp [execOp, Act.eval, go_sem, s4]
   | 10, _ =>
    cases ho
    have sx := hF.slot (i := 8) rfl (by simp) (hV 8 (hpre ⟨8, .data⟩ (by simp) rfl))
    have sy := hF.slot (i := 9) rfl (by simp) (hV 9 (hpre ⟨9, .data⟩ (by simp) rfl))
    refine .inl ⟨wanted_none rfl, fun K hK => rg_val (v := .pointer (some ⟨b, o + i * 3, none⟩)) ?_ (hK _ _ (fun j u _ => WZ.below (Below.refl _ _) j u) rfl hJ)⟩
    simp [execOp, Act.eval, go_sem, sx, sy, hix, hnn]
   | 11, _ =>
    cases ho
    have sx := hF.slot (i := 10) rfl (by simp) (hV 10 (hpre ⟨10, .data⟩ (by simp) rfl))
    refine .inl ⟨wanted_none rfl, fun K hK => rg_val (v := .pointer (some ⟨b, o + i * 3 + 1, none⟩)) ?_ (hK _ _ (fun j u _ => WZ.below (Below.refl _ _) j u) rfl hJ)⟩
    simp [execOp, Act.eval, go_sem, sx]
   | 12, _ =>
    cases ho
    have sx := hF.slot (i := 11) rfl (by simp) (hV 11 (hpre ⟨11, .data⟩ (by simp) rfl))
    refine .inl ⟨wanted_none rfl, fun K hK => rg_val (v := .agg #[.string t.patch, .int .i64 t.n]) ?_ (hK _ _ (fun j u _ => WZ.below (Below.refl _ _) j u) rfl hJ)⟩
    simp [execOp, Act.eval, go_sem, sx, e1, e2]
   | 13, _ =>
    cases ho
    have sx := hF.slot (i := 12) rfl (by simp) (hV 12 (hpre ⟨12, .data⟩ (by simp) rfl))
    refine .inl ⟨wanted_none rfl, fun K hK => rg_enter (f := 47) (args := #[.agg #[.string t.patch, .int .i64 t.n]]) (w' := W) ?_ (R11_TextId t.patch t.n W HPS.out) ?_ ?_ ?_⟩
    ·simp [Act.eval, go_sem, sx]
    ·rintro v w'' ⟨e, hb⟩
     cases e
     exact hK _ _ (fun j u _ => WZ.below hb j u) rfl (hJ.trans (hb.mono hWs))
    ·rintro chain w'' ⟨e, hb⟩
     cases e
    ·rintro w'' ⟨e, hb⟩
     cases e
   | 14, _ =>
    cases ho
    have sx := hF.slot (i := 6) rfl (by simp) (hV 6 (hpre ⟨6, .data⟩ (by simp) rfl))
    have sy := hF.slot (i := 13) rfl (by simp) (hV 13 (hpre ⟨13, .data⟩ (by simp) rfl))
    refine .inl ⟨wanted_none rfl, fun K hK => rg_val (w' := W.alloc (.cells #[.string t.path, .string (idT t.patch t.n)] 9)) (v := .slice (some ⟨W.heap.size, 0, none⟩) 2 2) ?_ (hK _ _ (fun j u _ => WZ.below (belowAlloc _ _) j u) ⟨_, _, rfl, (MapKept.heap_alloc _ _).1⟩ (hJ.trans ((belowAlloc _ _).mono hWs)))⟩
    simp [execOp, Act.eval, go_sem, sx, sy]
   case fin =>
    intro A W hF hJ hV
    have f0 : A.tmps.getD 12 undef = .slice oa m oc := hV 0 (by omega)
    obtain ⟨g, gc, f14, h7⟩ := hV 14 (by omega)
    have f14 : A.tmps.getD 26 undef = .slice (some ⟨g, 0, none⟩) 2 gc := f14
    rw [hF.lit [12, 13, 14, 15, 16, 17, 18, 19, 20, 21, 22, 23, 24, 25, 26] (by kernel_rfl)]
    simp only [relaid, List.foldl_cons, List.foldl_nil, f0, f14]
    generalize A.tmps.getD 13 undef = y13
    generalize A.tmps.getD 14 undef = y14
    generalize A.tmps.getD 15 undef = y15
    generalize A.tmps.getD 16 undef = y16
    generalize A.tmps.getD 17 undef = y17
    generalize A.tmps.getD 18 undef = y18
    generalize A.tmps.getD 19 undef = y19
    generalize A.tmps.getD 20 undef = y20
    generalize A.tmps.getD 21 undef = y21
    generalize A.tmps.getD 22 undef = y22
    generalize A.tmps.getD 23 undef = y23
    generalize A.tmps.getD 24 undef = y24
    generalize A.tmps.getD 25 undef = y25
    simp only [List.setIfInBounds_toArray, List.set_cons_succ, List.set_cons_zero, List.drop_succ_cons]
    clear hV hF f0 f14
    obtain ⟨r1, r2, r3⟩ := REL.out
    have hBW : Below wr.heap.size wr W := hJ
    have hown := ownsRow_below r2 hBW
    have hml : m ≤ 2000000 := by omega
    have hz9 := (belowTrans r3 hBW).size
    refine wpList_append_src W rfl (.tmp 12) (.tmp 26) 54 rfl W0.heap.size 9 io _ 1 _ Tryz.underlying54 hio hz0 hz1 hz2 rfl (by decide) _ m _ rfl hown _ 2 [.string t.path, .string (idT t.patch t.n)] rfl (.inr ⟨_, _, rfl, rfl, ?src⟩) ?one ?len3 ?bytes3 ?base3 ?_
    case src =>
     intro j u hu
     rw [Addr.add_lit, Nat.zero_add]
     have h8 : W.cell? ⟨g, j, none⟩ = (#[.string t.path, .string (idT t.patch t.n)] : Array Value)[j]? := by simp [World.cell?, h7]
     rw [h8]
     simpa using hu
    case one =>
     intro u hu
     simp only [List.mem_cons, List.not_mem_nil, or_false] at hu
     rcases hu with rfl | rfl <;> rfl
    case len3 => unfold maxLen; omega
    case bytes3 => omega
    case base3 => exact hz9
    intro v' w' hown' hg _
    obtain ⟨ta', tc', rfl⟩ := ownShape hown'
    have HN : Hid (m + 2 = 2 * (i + 1) ∧ w'.ownsRow W0.heap.size 9 1 (.slice ta' (m + 2) tc') (m + 2) ((trackL (ts.take (i + 1))).map Value.string) ∧ Below W0.heap.size W0 w') := by
     refine ⟨by omega, ?_, ?_⟩
     ·rw [HTK.out, List.map_append]
      exact hown'
     ·have h6 : Below W0.heap.size W0 W := belowTrans r3 hBW
      exact h6.grown hg h6.size (fun k hk => (hown.lt k hk).1)
    clear hown' hg hown r1 r2 r3 hBW h7 hJ hz9
    go_wp2
    go_roundg (n - (i + 1))
    case measure => omega
    case rel => exact ⟨i + 1, _, _, _, rfl, by go_num, by omega, Nat.le_refl _, HN.out⟩
  ·have hiz : ¬ (i : Int) < (n : Int) := by omega
   obtain ⟨r1, r2, r3⟩ := REL.out
   have htk : ts.take i = ts := List.take_of_length_le (by have := HNL.out; omega)
   rw [htk] at r2
   have hm2 : m = (trackL ts).length := by have := HNL.out; rw [trackL_len]; omega
   subst hm2
   have HOH : Hid (TextsH wr oa (trackL ts)) := textsH_own r2
   have HB3 : Hid _ := belowTrans HA.out r3
   obtain ⟨p1, p2⟩ := HPARTS.out
   have HTT : Hid (∀ W, Below w.heap.size w W → _) := fun W hb => R33_TreeText a c fs W (HF.out.below hb) hlen (by omega)
   have HLT : Hid (∀ W, Below wr.heap.size wr W → _) := fun W hb => R01_List oa oc (trackL ts) W (HOH.out.below hb) (by omega)
   have HLW : Hid (∀ (W0 W : World) (hb : Below (W0.alloc (.cells #[.string (ofL (treeT fs)), .string (ofL (listT (trackL ts)))] 9)).heap.size (W0.alloc (.cells #[.string (ofL (treeT fs)), .string (ofL (listT (trackL ts)))] 9)) W), _) := fun W0 W hb => R01_List (some ⟨W0.heap.size, 0, none⟩) 2 [ofL (treeT fs), ofL (listT (trackL ts))] W (texts2 W0 _ _ hb) hbig
   have HWT : Hid (ofL (workT fs ts) = ofL (listT [ofL (treeT fs), ofL (listT (trackL ts))])) := rfl
   clear r1 r2 r3 REL p1 p2 htk
   go_wp2_with fail
   refine Calls.mono (HTT.out _ HB3.out) ?_
   rintro e w4 ⟨rfl, hb4⟩
   have HB5 : Hid _ := belowTrans HB3.out hb4
   have HR5 : Hid _ := hb4
   clear hb4 x0 x1
   go_wp2_with fail
   refine Calls.mono (HLT.out _ HR5.out) ?_
   rintro e w5 ⟨rfl, hb5⟩
   have HB6 : Hid _ := belowTrans HB5.out hb5
   clear hb5
   generalize hq1 : ofL (treeT fs) = q1 at *
   generalize hq2 : ofL (listT (trackL ts)) = q2 at *
   clear hq1 hq2
   have HA5 : Hid _ := belowTrans HB6.out (belowAlloc w5 (.cells #[.string q1, .string q2] 9))
   go_wp2_with fail
   refine Calls.mono (HLW.out w5 _ (Below.refl _ _)) ?_
   rintro e w6 ⟨rfl, hb6⟩
   have HB7 : Hid _ := belowTrans HA5.out hb6
   clear hb6
   go_wp2
   go_ret
   rw [HWT.out]
   exact ⟨rfl, HB7.out⟩
end Go.Proofs.W
