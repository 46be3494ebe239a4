/- A PART OF THE PROOF THAT SAVETEXTS HOLDS FOR EVERY INPUT OF BULK AT MOST 1048576. No condition beyond the given statement. This part: WTText. -/
import Derived.Test.YtciahohaonhdgaaGreatDoorMarkRow
import Derived.Test.YtciahohaonhdgaaGreatDoorWWork
import Derived.Test.YtciahohaonhdgaaGreatDoorRegRG
namespace Go.Proofs.W
open Go Go.Proofs Go.RowKit Go.Op
set_option maxRecDepth 1000000
def kindB (d : Bool) : ByteArray := if d then ⟨#[100]⟩ else ⟨#[102]⟩
def treeK (ks : List (ByteArray × Bool × List ByteArray)) : List ByteArray := ks.flatMap fun k => [k.1, kindB k.2.1, ofL (listT k.2.2)]
def treeL (fs : List FileV) : List ByteArray := treeK (fs.map FileV.key)
def treeT (fs : List FileV) : List UInt8 := listT (treeL fs)
theorem treeL_keys {fs gs : List FileV} (h : fs.map FileV.key = gs.map FileV.key) : treeL fs = treeL gs := by unfold treeL; rw [h]
theorem treeT_keys {fs gs : List FileV} (h : fs.map FileV.key = gs.map FileV.key) : treeT fs = treeT gs := by unfold treeT; rw [treeL_keys h]
theorem treeL_app (fs gs : List FileV) : treeL (fs ++ gs) = treeL fs ++ treeL gs := by simp [treeL, treeK]
theorem treeL_one (f : FileV) : treeL [f] = [f.path, kindB f.dir, ofL (listT f.lines)] := by simp [treeL, treeK, FileV.key]
theorem treeL_len : ∀ (fs : List FileV), (treeL fs).length = 3 * fs.length
 | [] => rfl
 | f :: fs => by
  have h : treeL (f :: fs) = treeL [f] ++ treeL fs := treeL_app [f] fs
  rw [h, List.length_append, treeL_one, treeL_len fs]
  simp only [List.length_cons, List.length_nil]
  omega
theorem treeL_take {fs : List FileV} {i : Nat} {f : FileV} (h : fs[i]? = some f) : treeL (fs.take (i + 1)) = treeL (fs.take i) ++ [f.path, kindB f.dir, ofL (listT f.lines)] := by
 rw [List.take_add_one, h, Option.toList_some, treeL_app, treeL_one]
theorem listT_item {xs : List ByteArray} {x : ByteArray} (h : x ∈ xs) : x.size ≤ (listT xs).length := by
 obtain ⟨i, hi⟩ := List.getElem?_of_mem h
 obtain ⟨h1, h2⟩ := preT_item hi
 omega
theorem treeT_item {fs : List FileV} {f : FileV} (h : f ∈ fs) : (listT f.lines).length ≤ (treeT fs).length ∧ f.path.size ≤ (treeT fs).length := by
 have hm : ∀ x, x ∈ [f.path, kindB f.dir, ofL (listT f.lines)] → x ∈ treeL fs := fun x hx => List.mem_flatMap.2 ⟨FileV.key f, List.mem_map.2 ⟨f, h, rfl⟩, hx⟩
 refine ⟨?_, ?_⟩
 ·have := listT_item (hm (ofL (listT f.lines)) (by simp))
  rw [ofL_size] at this
  exact this
 ·exact listT_item (hm f.path (by simp))
def TV (ta : Option Addr) (m tc B : Nat) (f : FileV) (i : Nat) (v : Value) (W : World) : Prop := match i with
 | 0 => v = .slice ta m tc
 | 1 => v = .pointer (some ⟨B, 0, none⟩)
 | 2 => v = .string f.path
 | 3 => v = .string (kindB f.dir)
 | 4 => v = .pointer (some ⟨B, 2, none⟩)
 | 5 => v = .slice f.la f.lines.length f.lc
 | 6 => v = .string (ofL (listT f.lines))
 | 7 => ∃ g c, v = .slice (some ⟨g, 0, none⟩) 3 c ∧ W.heap[g]? = some (.cells #[.string f.path, .string (kindB f.dir), .string (ofL (listT f.lines))] 9 (0, 0))
 | _ => True
theorem TV.below {ta : Option Addr} {m tc B : Nat} {f : FileV} {W W' : World} (hb : Below W.heap.size W W') (j : Nat) (u : Value) (h : TV ta m tc B f j u W) : TV ta m tc B f j u W' := by
 unfold TV at h ⊢
 split at h
 any_goals exact h
 obtain ⟨g, c, e, h1⟩ := h
 exact ⟨g, c, e, (hb.block g (Array.getElem?_eq_some_iff.1 h1).1).trans h1⟩
set_option maxHeartbeats 16000000 in
theorem tree_Text (a : Option Addr) (c : Nat) (fs : List FileV) (w : World) (h : FilesH w a fs) (hl : ∀ f, f ∈ fs → f.lines.length ≤ 1000000) (hlen : fs.length ≤ 1000000) (hbig : (treeT fs).length ≤ 70368744177664) :
  Calls Tryz.prog 8 #[.agg #[.slice a fs.length c]] w fun e w' => e = .returned (.string (ofL (treeT fs))) ∧ Below w.heap.size w w' := by
 obtain ⟨io, hio, hz0, hz1, hz2⟩ := info9
 have hA := belowAlloc w (.cells #[.slice a fs.length c] 27)
 have q0 : (w.alloc (.cells #[.slice a fs.length c] 27)).cell? ⟨w.heap.size, 0, none⟩ = some (.slice a fs.length c) := by rw [cell_newBlock]; rfl
 have hall := tree_All a c fs _ (h.below hA) hl hlen
 have HALL : Hid _ := hall
 have HA : Hid _ := hA
 have HBIG : Hid _ := hbig
 have HLEN : Hid _ := hlen
 clear hall hA hbig hlen
 go_enter Tryz.func8, Tryz.ntmps8
 go_wp2_with fail
 refine Calls.mono HALL.out ?_
 rintro e w1 ⟨⟨a', c', ys, hyl, hkeys, rfl, hF, hyll⟩, hb1⟩
 have HB1 : Hid _ := belowTrans HA.out hb1
 have HK : Hid (ys.map FileV.key = fs.map FileV.key) := hkeys
 have HF : Hid (FilesH w1 a' ys) := hF
 have HYL : Hid (ys.length = fs.length) := hyl
 have HT : Hid (treeT ys = treeT fs) := treeT_keys hkeys
 clear hkeys hF hb1 hyl HALL q0 hyll
 go_wp2
 go_loopg [3, 10] ys.length (fun kx s3 s10 wr => ∃ (i : Nat) (ta : Option Addr) (m tc : Nat), s3 = .slice ta m tc ∧ s10 = .int .i64 i ∧ i ≤ ys.length ∧ ys.length - i ≤ kx ∧ Hid (m = (treeL (ys.take i)).length ∧ wr.ownsRow w1.heap.size 9 1 (.slice ta m tc) m ((treeL (ys.take i)).map Value.string) ∧ Below w1.heap.size w1 wr))
 case atStart => exact ⟨0, none, 0, 0, rfl, rfl, Nat.zero_le _, Nat.le_refl _, rfl, World.ownsRow_nil _ _ _ _, Below.refl _ _⟩
 case round =>
  obtain ⟨i, ta, m, tc, rfl, rfl, hin, hkx, REL⟩ := hrel
  have hyb : ys.length ≤ 1000000 := by have h1 := HYL.out; have h2 := HLEN.out; omega
  by_cases hlt : i < ys.length
  ·obtain ⟨b, o, rfl, hN⟩ : ∃ b o, a' = some ⟨b, o, none⟩ ∧ FilesAt w1 b o ys := HF.out.resolve_left (by omega)
   obtain ⟨f, hf⟩ : ∃ f, ys[i]? = some f := ⟨_, List.getElem?_eq_getElem hlt⟩
   have hff : f ∈ ys := List.mem_of_getElem? hf
   obtain ⟨e0, e1, e2⟩ := (hN.below REL.out.2.2).cell i f hf
   have hsub := hN.sub i f hf
   have hiz : (i : Int) < (ys.length : Int) := by omega
   have HTK : Hid (treeL (ys.take (i + 1)) = treeL (ys.take i) ++ [f.path, kindB f.dir, ofL (listT f.lines)]) := treeL_take hf
   have HLT : Hid ((listT f.lines).length ≤ 70368744177664) := by
    have h1 := (treeT_item hff).1
    rw [HT.out] at h1
    exact Nat.le_trans h1 HBIG.out
   have HS1 : Hid (TextsH w1 f.la f.lines) := hsub.1
   obtain ⟨B, hB⟩ : ∃ B, B = wr.heap.size := ⟨_, rfl⟩
   obtain ⟨W2, hW2⟩ : ∃ W2, W2 = wr.alloc (.cells #[.string f.path, .bool f.dir, .slice f.la f.lines.length f.lc] 56) := ⟨_, rfl⟩
   have HBB : Hid (W2.heap[B]? = some (.cells #[.string f.path, .bool f.dir, .slice f.la f.lines.length f.lc] 56 (0, 0))) := by
    show _ = _
    rw [hW2, hB]
    exact (MapKept.heap_alloc _ _).1
   have HBL : Hid (B < W2.heap.size) := by show _ < _; rw [hW2, allocSize]; omega
   have HB2 : Hid (Below wr.heap.size wr W2) := by show Below _ _ _; rw [hW2]; exact belowAlloc _ _
   have k1 : W2.cell? ⟨B, 1, none⟩ = some (.bool f.dir) := by have := HBB.out; simp [World.cell?, this]
   have HTX : Hid (∀ W, Below W2.heap.size W2 W → TextsH W f.la f.lines) := fun W hb => ((HS1.out.below REL.out.2.2).below HB2.out).below hb
   have HKD : Hid (kindB true = ⟨#[100]⟩ ∧ kindB false = ⟨#[102]⟩) := ⟨rfl, rfl⟩
   clear hsub hN hf hff
   cases hdir : f.dir
   ·rw [hdir] at hW2 k1 e1
    have KD : Hid (kindB f.dir = ⟨#[102]⟩) := by show _ = _; rw [hdir]; rfl
    go_wp2_with fail
    simp only [← hB, ← hW2]
    clear hW2 k1 e0 e1 e2
    refine wp_region_gn 8 8 28 (by kernel_rfl) ?ok ?forced rfl (fun _ => TV ta m tc B f) (fun W => Below W2.heap.size W2 W) (belowDrew1 _) ?step ?fin
    case ok => kernel_rfl
    case forced => kernel_rfl
    case step =>
     intro i' o hi' ho L A W hLi hpre hF hJ hV
     have s3 : A.tmps[3]? = some (.slice ta m tc) := hF.at (by kernel_rfl) rfl
     have s5 : A.tmps[5]? = some (.pointer (some ⟨B, 0, none⟩)) := hF.at (by kernel_rfl) rfl
     have s6 : A.tmps[6]? = some (.string (kindB f.dir)) := hF.at (by kernel_rfl) (by rw [KD.out]; rfl)
     have d1 := (hJ.block B HBL.out).trans HBB.out
     have k0 : W.cell? ⟨B, 0, none⟩ = some (.string f.path) := by simp [World.cell?, d1]
     have k2 : W.cell? ⟨B, 2, none⟩ = some (.slice f.la f.lines.length f.lc) := by simp [World.cell?, d1]
     have hWs := hJ.size
     match i', hi' with
     | 0, _ =>
      cases ho
      refine ⟨wanted_none rfl, fun K hK => rg_val (v := .slice ta m tc) ?_ (hK _ _ (fun j u _ => TV.below (Below.refl _ _) j u) rfl hJ)⟩
      simp [execOp, Act.eval, go_sem, s3]
     | 1, _ =>
      cases ho
      refine ⟨wanted_none rfl, fun K hK => rg_val (v := .pointer (some ⟨B, 0, none⟩)) ?_ (hK _ _ (fun j u _ => TV.below (Below.refl _ _) j u) rfl hJ)⟩
      simp [execOp, Act.eval, go_sem, s5]
     | 2, _ =>
      cases ho
      have sx := hF.slot (i := 1) rfl (by simp) (hV 1 (hpre ⟨1, .data⟩ (by simp) rfl))
      refine ⟨wanted_none rfl, fun K hK => rg_val (v := .string f.path) ?_ (hK _ _ (fun j u _ => TV.below (Below.refl _ _) j u) rfl hJ)⟩
      simp [execOp, Act.eval, go_sem, sx, k0]
     | 3, _ =>
      cases ho
      refine ⟨wanted_none rfl, fun K hK => rg_val (v := .string (kindB f.dir)) ?_ (hK _ _ (fun j u _ => TV.below (Below.refl _ _) j u) rfl hJ)⟩
      simp [execOp, Act.eval, go_sem, s6]
     | 4, _ =>
      cases ho
      refine ⟨wanted_none rfl, fun K hK => rg_val (v := .pointer (some ⟨B, 2, none⟩)) ?_ (hK _ _ (fun j u _ => TV.below (Below.refl _ _) j u) rfl hJ)⟩
      simp [execOp, Act.eval, go_sem, s5]
     | 5, _ =>
      cases ho
      have sx := hF.slot (i := 4) rfl (by simp) (hV 4 (hpre ⟨4, .data⟩ (by simp) rfl))
      refine ⟨wanted_none rfl, fun K hK => rg_val (v := .slice f.la f.lines.length f.lc) ?_ (hK _ _ (fun j u _ => TV.below (Below.refl _ _) j u) rfl hJ)⟩
      simp [execOp, Act.eval, go_sem, sx, k2]
     | 6, _ =>
      cases ho
      have sx := hF.slot (i := 5) rfl (by simp) (hV 5 (hpre ⟨5, .data⟩ (by simp) rfl))
      refine ⟨wanted_none rfl, fun K hK => rg_enter (f := 32) (args := #[.slice f.la f.lines.length f.lc]) (w' := W) ?_ (code_List f.la f.lc f.lines W (HTX.out W hJ) HLT.out) ?_ ?_ ?_⟩
      ·simp [Act.eval, go_sem, sx]
      ·rintro v w'' ⟨e, hb⟩
       cases e
       exact hK _ _ (fun j u _ => TV.below hb j u) rfl (hJ.trans (hb.mono hWs))
      ·rintro chain w'' ⟨e, _⟩
       cases e
      ·rintro w'' ⟨e, _⟩
       cases e
     | 7, _ =>
      cases ho
      have sx := hF.slot (i := 2) rfl (by simp) (hV 2 (hpre ⟨2, .data⟩ (by simp) rfl))
      have sy := hF.slot (i := 3) rfl (by simp) (hV 3 (hpre ⟨3, .data⟩ (by simp) rfl))
      have sz := hF.slot (i := 6) rfl (by simp) (hV 6 (hpre ⟨6, .data⟩ (by simp) rfl))
      refine ⟨wanted_none rfl, fun K hK => rg_val (w' := W.alloc (.cells #[.string f.path, .string (kindB f.dir), .string (ofL (listT f.lines))] 9)) (v := .slice (some ⟨W.heap.size, 0, none⟩) 3 3) ?_ (hK _ _ (fun j u _ => TV.below (belowAlloc _ _) j u) ⟨_, _, rfl, (MapKept.heap_alloc _ _).1⟩ (hJ.trans ((belowAlloc _ _).mono hWs)))⟩
      simp [execOp, Act.eval, go_sem, sx, sy, sz]
    case fin =>
     intro A W hF hJ hV
     have e0 : A.tmps.getD 16 undef = .slice ta m tc := hV 0 (by omega)
     obtain ⟨g, gc, e7, h7⟩ := hV 7 (by omega)
     have e7 : A.tmps.getD 23 undef = .slice (some ⟨g, 0, none⟩) 3 gc := e7
     rw [hF.lit [16, 17, 18, 19, 20, 21, 22, 23] (by kernel_rfl)]
     simp only [relaid, List.foldl_cons, List.foldl_nil, e0, e7]
     generalize A.tmps.getD 17 undef = y17
     generalize A.tmps.getD 18 undef = y18
     generalize A.tmps.getD 19 undef = y19
     generalize A.tmps.getD 20 undef = y20
     generalize A.tmps.getD 21 undef = y21
     generalize A.tmps.getD 22 undef = y22
     simp only [List.setIfInBounds_toArray, List.set_cons_succ, List.set_cons_zero, List.drop_succ_cons]
     clear hV hF e0 e7
     obtain ⟨r1, r2, r3⟩ := REL.out
     have hBW : Below wr.heap.size wr W := belowTrans HB2.out hJ
     have hown := ownsRow_below r2 hBW
     have hml : m ≤ 3000000 := by
      have h1 := HYL.out
      have h2 := HLEN.out
      rw [r1, treeL_len, List.length_take]
      omega
     have hz9 := (belowTrans r3 hBW).size
     refine wpList_append_src W rfl (.tmp 16) (.tmp 23) 54 rfl w1.heap.size 9 io _ 1 _ Tryz.underlying54 hio hz0 hz1 hz2 rfl (by decide) _ m _ rfl hown _ 3 [.string f.path, .string (kindB f.dir), .string (ofL (listT f.lines))] rfl (.inr ⟨_, _, rfl, rfl, ?src⟩) ?one ?len3 ?bytes3 ?base3 ?_
     case src =>
      intro j u hu
      rw [Addr.add_lit, Nat.zero_add]
      have h8 : W.cell? ⟨g, j, none⟩ = (#[.string f.path, .string (kindB f.dir), .string (ofL (listT f.lines))] : Array Value)[j]? := by simp [World.cell?, h7]
      rw [h8]
      simpa using hu
     case one =>
      intro u hu
      simp only [List.mem_cons, List.not_mem_nil, or_false] at hu
      rcases hu with rfl | rfl | rfl <;> rfl
     case len3 => unfold maxLen; omega
     case bytes3 => omega
     case base3 => exact hz9
     intro v' w' hown' hg _
     obtain ⟨ta', tc', rfl⟩ := ownShape hown'
     have HN : Hid (m + 3 = (treeL (ys.take (i + 1))).length ∧ w'.ownsRow w1.heap.size 9 1 (.slice ta' (m + 3) tc') (m + 3) ((treeL (ys.take (i + 1))).map Value.string) ∧ Below w1.heap.size w1 w') := by
      refine ⟨?_, ?_, ?_⟩
      ·rw [HTK.out, List.length_append, ← r1]; rfl
      ·rw [HTK.out, List.map_append]
       exact hown'
      ·have h6 : Below w1.heap.size w1 W := belowTrans r3 hBW
       exact h6.grown hg h6.size (fun k hk => (hown.lt k hk).1)
     clear hown' hg hown r1 r2 r3 hBW h7 hJ hz9
     go_wp2
     go_roundg (ys.length - (i + 1))
     case measure => omega
     case rel => exact ⟨i + 1, _, _, _, rfl, by go_num, by omega, Nat.le_refl _, HN.out⟩
   ·rw [hdir] at hW2 k1 e1
    have KD : Hid (kindB f.dir = ⟨#[100]⟩) := by show _ = _; rw [hdir]; rfl
    go_wp2_with fail
    simp only [← hB, ← hW2]
    clear hW2 k1 e0 e1 e2
    refine wp_region_gn 8 8 28 (by kernel_rfl) ?ok ?forced rfl (fun _ => TV ta m tc B f) (fun W => Below W2.heap.size W2 W) (belowDrew1 _) ?step ?fin
    case ok => kernel_rfl
    case forced => kernel_rfl
    case step =>
     intro i' o hi' ho L A W hLi hpre hF hJ hV
     have s3 : A.tmps[3]? = some (.slice ta m tc) := hF.at (by kernel_rfl) rfl
     have s5 : A.tmps[5]? = some (.pointer (some ⟨B, 0, none⟩)) := hF.at (by kernel_rfl) rfl
     have s6 : A.tmps[6]? = some (.string (kindB f.dir)) := hF.at (by kernel_rfl) (by rw [KD.out]; rfl)
     have d1 := (hJ.block B HBL.out).trans HBB.out
     have k0 : W.cell? ⟨B, 0, none⟩ = some (.string f.path) := by simp [World.cell?, d1]
     have k2 : W.cell? ⟨B, 2, none⟩ = some (.slice f.la f.lines.length f.lc) := by simp [World.cell?, d1]
     have hWs := hJ.size
     match i', hi' with
     | 0, _ =>
      cases ho
      refine ⟨wanted_none rfl, fun K hK => rg_val (v := .slice ta m tc) ?_ (hK _ _ (fun j u _ => TV.below (Below.refl _ _) j u) rfl hJ)⟩
      simp [execOp, Act.eval, go_sem, s3]
     | 1, _ =>
      cases ho
      refine ⟨wanted_none rfl, fun K hK => rg_val (v := .pointer (some ⟨B, 0, none⟩)) ?_ (hK _ _ (fun j u _ => TV.below (Below.refl _ _) j u) rfl hJ)⟩
      simp [execOp, Act.eval, go_sem, s5]
     | 2, _ =>
      cases ho
      have sx := hF.slot (i := 1) rfl (by simp) (hV 1 (hpre ⟨1, .data⟩ (by simp) rfl))
      refine ⟨wanted_none rfl, fun K hK => rg_val (v := .string f.path) ?_ (hK _ _ (fun j u _ => TV.below (Below.refl _ _) j u) rfl hJ)⟩
      simp [execOp, Act.eval, go_sem, sx, k0]
     | 3, _ =>
      cases ho
      refine ⟨wanted_none rfl, fun K hK => rg_val (v := .string (kindB f.dir)) ?_ (hK _ _ (fun j u _ => TV.below (Below.refl _ _) j u) rfl hJ)⟩
      simp [execOp, Act.eval, go_sem, s6]
     | 4, _ =>
      cases ho
      refine ⟨wanted_none rfl, fun K hK => rg_val (v := .pointer (some ⟨B, 2, none⟩)) ?_ (hK _ _ (fun j u _ => TV.below (Below.refl _ _) j u) rfl hJ)⟩
      simp [execOp, Act.eval, go_sem, s5]
     | 5, _ =>
      cases ho
      have sx := hF.slot (i := 4) rfl (by simp) (hV 4 (hpre ⟨4, .data⟩ (by simp) rfl))
      refine ⟨wanted_none rfl, fun K hK => rg_val (v := .slice f.la f.lines.length f.lc) ?_ (hK _ _ (fun j u _ => TV.below (Below.refl _ _) j u) rfl hJ)⟩
      simp [execOp, Act.eval, go_sem, sx, k2]
     | 6, _ =>
      cases ho
      have sx := hF.slot (i := 5) rfl (by simp) (hV 5 (hpre ⟨5, .data⟩ (by simp) rfl))
      refine ⟨wanted_none rfl, fun K hK => rg_enter (f := 32) (args := #[.slice f.la f.lines.length f.lc]) (w' := W) ?_ (code_List f.la f.lc f.lines W (HTX.out W hJ) HLT.out) ?_ ?_ ?_⟩
      ·simp [Act.eval, go_sem, sx]
      ·rintro v w'' ⟨e, hb⟩
       cases e
       exact hK _ _ (fun j u _ => TV.below hb j u) rfl (hJ.trans (hb.mono hWs))
      ·rintro chain w'' ⟨e, _⟩
       cases e
      ·rintro w'' ⟨e, _⟩
       cases e
     | 7, _ =>
      cases ho
      have sx := hF.slot (i := 2) rfl (by simp) (hV 2 (hpre ⟨2, .data⟩ (by simp) rfl))
      have sy := hF.slot (i := 3) rfl (by simp) (hV 3 (hpre ⟨3, .data⟩ (by simp) rfl))
      have sz := hF.slot (i := 6) rfl (by simp) (hV 6 (hpre ⟨6, .data⟩ (by simp) rfl))
      refine ⟨wanted_none rfl, fun K hK => rg_val (w' := W.alloc (.cells #[.string f.path, .string (kindB f.dir), .string (ofL (listT f.lines))] 9)) (v := .slice (some ⟨W.heap.size, 0, none⟩) 3 3) ?_ (hK _ _ (fun j u _ => TV.below (belowAlloc _ _) j u) ⟨_, _, rfl, (MapKept.heap_alloc _ _).1⟩ (hJ.trans ((belowAlloc _ _).mono hWs)))⟩
      simp [execOp, Act.eval, go_sem, sx, sy, sz]
    case fin =>
     intro A W hF hJ hV
     have e0 : A.tmps.getD 16 undef = .slice ta m tc := hV 0 (by omega)
     obtain ⟨g, gc, e7, h7⟩ := hV 7 (by omega)
     have e7 : A.tmps.getD 23 undef = .slice (some ⟨g, 0, none⟩) 3 gc := e7
     rw [hF.lit [16, 17, 18, 19, 20, 21, 22, 23] (by kernel_rfl)]
     simp only [relaid, List.foldl_cons, List.foldl_nil, e0, e7]
     generalize A.tmps.getD 17 undef = y17
     generalize A.tmps.getD 18 undef = y18
     generalize A.tmps.getD 19 undef = y19
     generalize A.tmps.getD 20 undef = y20
     generalize A.tmps.getD 21 undef = y21
     generalize A.tmps.getD 22 undef = y22
     simp only [List.setIfInBounds_toArray, List.set_cons_succ, List.set_cons_zero, List.drop_succ_cons]
     clear hV hF e0 e7
     obtain ⟨r1, r2, r3⟩ := REL.out
     have hBW : Below wr.heap.size wr W := belowTrans HB2.out hJ
     have hown := ownsRow_below r2 hBW
     have hml : m ≤ 3000000 := by
      have h1 := HYL.out
      have h2 := HLEN.out
      rw [r1, treeL_len, List.length_take]
      omega
     have hz9 := (belowTrans r3 hBW).size
     refine wpList_append_src W rfl (.tmp 16) (.tmp 23) 54 rfl w1.heap.size 9 io _ 1 _ Tryz.underlying54 hio hz0 hz1 hz2 rfl (by decide) _ m _ rfl hown _ 3 [.string f.path, .string (kindB f.dir), .string (ofL (listT f.lines))] rfl (.inr ⟨_, _, rfl, rfl, ?src⟩) ?one ?len3 ?bytes3 ?base3 ?_
     case src =>
      intro j u hu
      rw [Addr.add_lit, Nat.zero_add]
      have h8 : W.cell? ⟨g, j, none⟩ = (#[.string f.path, .string (kindB f.dir), .string (ofL (listT f.lines))] : Array Value)[j]? := by simp [World.cell?, h7]
      rw [h8]
      simpa using hu
     case one =>
      intro u hu
      simp only [List.mem_cons, List.not_mem_nil, or_false] at hu
      rcases hu with rfl | rfl | rfl <;> rfl
     case len3 => unfold maxLen; omega
     case bytes3 => omega
     case base3 => exact hz9
     intro v' w' hown' hg _
     obtain ⟨ta', tc', rfl⟩ := ownShape hown'
     have HN : Hid (m + 3 = (treeL (ys.take (i + 1))).length ∧ w'.ownsRow w1.heap.size 9 1 (.slice ta' (m + 3) tc') (m + 3) ((treeL (ys.take (i + 1))).map Value.string) ∧ Below w1.heap.size w1 w') := by
      refine ⟨?_, ?_, ?_⟩
      ·rw [HTK.out, List.length_append, ← r1]; rfl
      ·rw [HTK.out, List.map_append]
       exact hown'
      ·have h6 : Below w1.heap.size w1 W := belowTrans r3 hBW
       exact h6.grown hg h6.size (fun k hk => (hown.lt k hk).1)
     clear hown' hg hown r1 r2 r3 hBW h7 hJ hz9
     go_wp2
     go_roundg (ys.length - (i + 1))
     case measure => omega
     case rel => exact ⟨i + 1, _, _, _, rfl, by go_num, by omega, Nat.le_refl _, HN.out⟩
  ·have hiz : ¬ (i : Int) < (ys.length : Int) := by omega
   obtain ⟨r1, r2, r3⟩ := REL.out
   have hi : i = ys.length := by omega
   rw [hi, List.take_length] at r1 r2
   subst r1
   have hH := textsH_own r2
   have HC : Hid _ := code_List ta tc (treeL ys) wr hH (by show (treeT ys).length ≤ _; rw [HT.out]; exact HBIG.out)
   have HB3 : Hid _ := belowTrans HB1.out r3
   clear r2 r3 REL hH
   go_wp2_with fail
   refine Calls.mono HC.out ?_
   rintro e w5 ⟨rfl, hb5⟩
   have HB5 : Hid _ := belowTrans HB3.out hb5
   clear hb5
   go_wp2
   go_ret
   refine ⟨?_, HB5.out⟩
   show _ = Ending.returned (Value.string (ofL (treeT fs)))
   rw [← HT.out]
   rfl
end Go.Proofs.W
namespace Go.Proofs.W
open Go Go.Proofs Go.RowKit Go.Op
set_option maxRecDepth 1000000
def SV (ta : Option Addr) (m tc b o n c i : Nat) (f : FileV) (j : Nat) (v : Value) (W : World) : Prop := match j with
 | 0 => v = .slice ta m tc
 | 1 | 7 => v = .slice (some ⟨b, o, none⟩) n c
 | 2 | 8 => v = .int .i64 i
 | 3 | 4 | 9 => v = .pointer (some ⟨b, o + i * 3, none⟩)
 | 5 => v = .string f.path
 | 6 => v = .string (kindB f.dir)
 | 10 => v = .pointer (some ⟨b, o + i * 3 + 2, none⟩)
 | 11 => v = .slice f.la f.lines.length f.lc
 | 12 => v = .string (ofL (listT f.lines))
 | 13 => ∃ g c, v = .slice (some ⟨g, 0, none⟩) 3 c ∧ W.heap[g]? = some (.cells #[.string f.path, .string (kindB f.dir), .string (ofL (listT f.lines))] 9 (0, 0))
 | _ => True
theorem SV.below {ta : Option Addr} {m tc b o n c i : Nat} {f : FileV} {W W' : World} (hb : Below W.heap.size W W') (j : Nat) (u : Value) (h : SV ta m tc b o n c i f j u W) : SV ta m tc b o n c i f j u W' := by
 unfold SV at h ⊢
 split at h
 any_goals exact h
 obtain ⟨g, c, e, h1⟩ := h
 exact ⟨g, c, e, (hb.block g (Array.getElem?_eq_some_iff.1 h1).1).trans h1⟩
set_option maxHeartbeats 16000000 in
theorem R33_TreeText (a : Option Addr) (c : Nat) (fs : List FileV) (w : World) (h : FilesH w a fs) (hlen : fs.length ≤ 1000000) (hbig : (treeT fs).length ≤ 70368744177664) :
  Calls Tryz.prog 9 #[.slice a fs.length c] w fun e w' => e = .returned (.string (ofL (treeT fs))) ∧ Below w.heap.size w w' := by
 obtain ⟨io, hio, hz0, hz1, hz2⟩ := info9
 have HBIG : Hid _ := hbig
 clear hbig
 obtain ⟨n, hn⟩ : ∃ n, n = fs.length := ⟨_, rfl⟩
 rw [← hn]
 have HN0 : Hid (n = fs.length) := hn
 have hnb : n ≤ 1000000 := by omega
 clear hn hlen
 go_enter Tryz.func9, Tryz.ntmps9
 go_wp2
 go_loopg [3, 4] n (fun kx s3 s4 wr => ∃ (i : Nat) (ta : Option Addr) (m tc : Nat), s3 = .slice ta m tc ∧ s4 = .int .i64 i ∧ i ≤ n ∧ n - i ≤ kx ∧ Hid (m = (treeL (fs.take i)).length ∧ wr.ownsRow w.heap.size 9 1 (.slice ta m tc) m ((treeL (fs.take i)).map Value.string) ∧ Below w.heap.size w wr))
 case atStart => exact ⟨0, none, 0, 0, rfl, rfl, Nat.zero_le _, Nat.le_refl _, rfl, World.ownsRow_nil _ _ _ _, Below.refl _ _⟩
 case round =>
  obtain ⟨i, ta, m, tc, rfl, rfl, hin, hkx, REL⟩ := hrel
  by_cases hlt : i < n
  ·have hfl : i < fs.length := by have := HN0.out; omega
   obtain ⟨b, o, rfl, hN⟩ : ∃ b o, a = some ⟨b, o, none⟩ ∧ FilesAt w b o fs := h.resolve_left (by omega)
   obtain ⟨f, hf⟩ : ∃ f, fs[i]? = some f := ⟨_, List.getElem?_eq_getElem hfl⟩
   have hff : f ∈ fs := List.mem_of_getElem? hf
   obtain ⟨e0, e1, e2⟩ := (hN.below REL.out.2.2).cell i f hf
   have hsub := hN.sub i f hf
   have hix : (i : Int) < (n : Int) := by omega
   have hnn : ¬ (i : Int) < 0 := by omega
   have hnn0 : (0 : Int) ≤ (i : Int) := by omega
   have HTK : Hid (treeL (fs.take (i + 1)) = treeL (fs.take i) ++ [f.path, kindB f.dir, ofL (listT f.lines)]) := treeL_take hf
   have HLT : Hid ((listT f.lines).length ≤ 70368744177664) := Nat.le_trans (treeT_item hff).1 HBIG.out
   have HS1 : Hid (TextsH w f.la f.lines) := hsub.1
   have HTX : Hid (∀ W, Below wr.heap.size wr W → TextsH W f.la f.lines) := fun W hb => (HS1.out.below REL.out.2.2).below hb
   have HCE : Hid (∀ W, Below wr.heap.size wr W → W.cell? ⟨b, o + i * 3, none⟩ = some (.string f.path) ∧ W.cell? ⟨b, o + i * 3 + 1, none⟩ = some (.bool f.dir) ∧ W.cell? ⟨b, o + i * 3 + 2, none⟩ = some (.slice f.la f.lines.length f.lc)) := fun W hb => ((hN.below REL.out.2.2).below hb).cell i f hf
   clear hsub hN hf hff
   cases hdir : f.dir
   ·rw [hdir] at e1
    have KD : Hid (kindB f.dir = ⟨#[102]⟩) := by show _ = _; rw [hdir]; rfl
    go_wp2_with fail
    clear e0 e1 e2
    refine wp_region_gn 14 14 34 (by kernel_rfl) ?ok ?forced rfl (fun _ => SV ta m tc b o n c i f) (fun W => Below wr.heap.size wr W) (belowDrew1 _) ?step ?fin
    case ok => kernel_rfl
    case forced => kernel_rfl
    case step =>
     intro i' op' hi' ho L A W hLi hpre hF hJ hV
     have s0 : A.tmps[0]? = some (.slice (some ⟨b, o, none⟩) n c) := hF.at (by kernel_rfl) rfl
     have s3 : A.tmps[3]? = some (.slice ta m tc) := hF.at (by kernel_rfl) rfl
     have s4 : A.tmps[4]? = some (.int .i64 i) := hF.at (by kernel_rfl) rfl
     have s5 : A.tmps[5]? = some (.string (kindB f.dir)) := hF.at (by kernel_rfl) (by rw [KD.out]; rfl)
     obtain ⟨k0, k1, k2⟩ := HCE.out W hJ
     have hWs := hJ.size
     match i', hi' with
     | 0, _ =>
      cases ho
      refine ⟨wanted_none rfl, fun K hK => rg_val (v := .slice ta m tc) ?_ (hK _ _ (fun j u _ => SV.below (Below.refl _ _) j u) rfl hJ)⟩
      simp [execOp, Act.eval, go_sem, s3]
     | 1, _ =>
      cases ho
      refine ⟨wanted_none rfl, fun K hK => rg_val (v := .slice (some ⟨b, o, none⟩) n c) ?_ (hK _ _ (fun j u _ => SV.below (Below.refl _ _) j u) rfl hJ)⟩
      simp [execOp, Act.eval, go_sem, s0]
     | 2, _ =>
      cases ho
      refine ⟨wanted_none rfl, fun K hK => rg_val (v := .int .i64 i) ?_ (hK _ _ (fun j u _ => SV.below (Below.refl _ _) j u) rfl hJ)⟩
      simp [execOp, Act.eval, go_sem, s4]
     | 3, _ =>
      cases ho
      have sx := hF.slot (i := 1) rfl (by simp) (hV 1 (hpre ⟨1, .data⟩ (by simp) rfl))
      have sy := hF.slot (i := 2) rfl (by simp) (hV 2 (hpre ⟨2, .data⟩ (by simp) rfl))
      refine ⟨wanted_none rfl, fun K hK => rg_val (v := .pointer (some ⟨b, o + i * 3, none⟩)) ?_ (hK _ _ (fun j u _ => SV.below (Below.refl _ _) j u) rfl hJ)⟩
      simp [execOp, Act.eval, go_sem, sx, sy, hix, hnn0]
     | 4, _ =>
      cases ho
      have sx := hF.slot (i := 3) rfl (by simp) (hV 3 (hpre ⟨3, .data⟩ (by simp) rfl))
      refine ⟨wanted_none rfl, fun K hK => rg_val (v := .pointer (some ⟨b, o + i * 3, none⟩)) ?_ (hK _ _ (fun j u _ => SV.below (Below.refl _ _) j u) rfl hJ)⟩
      simp [execOp, Act.eval, go_sem, sx]
     | 5, _ =>
      cases ho
      have sx := hF.slot (i := 4) rfl (by simp) (hV 4 (hpre ⟨4, .data⟩ (by simp) rfl))
      refine ⟨wanted_none rfl, fun K hK => rg_val (v := .string f.path) ?_ (hK _ _ (fun j u _ => SV.below (Below.refl _ _) j u) rfl hJ)⟩
      simp [execOp, Act.eval, go_sem, sx, k0]
     | 6, _ =>
      cases ho
      refine ⟨wanted_none rfl, fun K hK => rg_val (v := .string (kindB f.dir)) ?_ (hK _ _ (fun j u _ => SV.below (Below.refl _ _) j u) rfl hJ)⟩
      simp [execOp, Act.eval, go_sem, s5]
     | 7, _ =>
      cases ho
      refine ⟨wanted_none rfl, fun K hK => rg_val (v := .slice (some ⟨b, o, none⟩) n c) ?_ (hK _ _ (fun j u _ => SV.below (Below.refl _ _) j u) rfl hJ)⟩
      simp [execOp, Act.eval, go_sem, s0]
     | 8, _ =>
      cases ho
      refine ⟨wanted_none rfl, fun K hK => rg_val (v := .int .i64 i) ?_ (hK _ _ (fun j u _ => SV.below (Below.refl _ _) j u) rfl hJ)⟩
      simp [execOp, Act.eval, go_sem, s4]
     | 9, _ =>
      cases ho
      have sx := hF.slot (i := 7) rfl (by simp) (hV 7 (hpre ⟨7, .data⟩ (by simp) rfl))
      have sy := hF.slot (i := 8) rfl (by simp) (hV 8 (hpre ⟨8, .data⟩ (by simp) rfl))
      refine ⟨wanted_none rfl, fun K hK => rg_val (v := .pointer (some ⟨b, o + i * 3, none⟩)) ?_ (hK _ _ (fun j u _ => SV.below (Below.refl _ _) j u) rfl hJ)⟩
      simp [execOp, Act.eval, go_sem, sx, sy, hix, hnn0]
     | 10, _ =>
      cases ho
      have sx := hF.slot (i := 9) rfl (by simp) (hV 9 (hpre ⟨9, .data⟩ (by simp) rfl))
      refine ⟨wanted_none rfl, fun K hK => rg_val (v := .pointer (some ⟨b, o + i * 3 + 2, none⟩)) ?_ (hK _ _ (fun j u _ => SV.below (Below.refl _ _) j u) rfl hJ)⟩
      simp [execOp, Act.eval, go_sem, sx]
     | 11, _ =>
      cases ho
      have sx := hF.slot (i := 10) rfl (by simp) (hV 10 (hpre ⟨10, .data⟩ (by simp) rfl))
      refine ⟨wanted_none rfl, fun K hK => rg_val (v := .slice f.la f.lines.length f.lc) ?_ (hK _ _ (fun j u _ => SV.below (Below.refl _ _) j u) rfl hJ)⟩
      simp [execOp, Act.eval, go_sem, sx, k2]
     | 12, _ =>
      cases ho
      have sx := hF.slot (i := 11) rfl (by simp) (hV 11 (hpre ⟨11, .data⟩ (by simp) rfl))
      refine ⟨wanted_none rfl, fun K hK => rg_enter (f := 33) (args := #[.slice f.la f.lines.length f.lc]) (w' := W) ?_ (R01_List f.la f.lc f.lines W (HTX.out W hJ) HLT.out) ?_ ?_ ?_⟩
      ·simp [Act.eval, go_sem, sx]
      ·rintro v w'' ⟨e, hb⟩
       cases e
       exact hK _ _ (fun j u _ => SV.below hb j u) rfl (hJ.trans (hb.mono hWs))
      ·rintro chain w'' ⟨e, _⟩
       cases e
      ·rintro w'' ⟨e, _⟩
       cases e
     | 13, _ =>
      cases ho
      have sx := hF.slot (i := 5) rfl (by simp) (hV 5 (hpre ⟨5, .data⟩ (by simp) rfl))
      have sy := hF.slot (i := 6) rfl (by simp) (hV 6 (hpre ⟨6, .data⟩ (by simp) rfl))
      have sz := hF.slot (i := 12) rfl (by simp) (hV 12 (hpre ⟨12, .data⟩ (by simp) rfl))
      refine ⟨wanted_none rfl, fun K hK => rg_val (w' := W.alloc (.cells #[.string f.path, .string (kindB f.dir), .string (ofL (listT f.lines))] 9)) (v := .slice (some ⟨W.heap.size, 0, none⟩) 3 3) ?_ (hK _ _ (fun j u _ => SV.below (belowAlloc _ _) j u) ⟨_, _, rfl, (MapKept.heap_alloc _ _).1⟩ (hJ.trans ((belowAlloc _ _).mono hWs)))⟩
      simp [execOp, Act.eval, go_sem, sx, sy, sz]
    case fin =>
     intro A W hF hJ hV
     have e0' : A.tmps.getD 17 undef = .slice ta m tc := hV 0 (by omega)
     obtain ⟨g, gc, e7, h7⟩ := hV 13 (by omega)
     have e7 : A.tmps.getD 30 undef = .slice (some ⟨g, 0, none⟩) 3 gc := e7
     rw [hF.lit [17, 18, 19, 20, 21, 22, 23, 24, 25, 26, 27, 28, 29, 30] (by kernel_rfl)]
     simp only [relaid, List.foldl_cons, List.foldl_nil, e0', e7]
     generalize A.tmps.getD 18 undef = y18
     generalize A.tmps.getD 19 undef = y19
     generalize A.tmps.getD 20 undef = y20
     generalize A.tmps.getD 21 undef = y21
     generalize A.tmps.getD 22 undef = y22
     generalize A.tmps.getD 23 undef = y23
     generalize A.tmps.getD 24 undef = y24
     generalize A.tmps.getD 25 undef = y25
     generalize A.tmps.getD 26 undef = y26
     generalize A.tmps.getD 27 undef = y27
     generalize A.tmps.getD 28 undef = y28
     generalize A.tmps.getD 29 undef = y29
     simp only [List.setIfInBounds_toArray, List.set_cons_succ, List.set_cons_zero, List.drop_succ_cons]
     clear hV hF e0' e7
     obtain ⟨r1, r2, r3⟩ := REL.out
     have hown := ownsRow_below r2 hJ
     have hml : m ≤ 3000000 := by
      have h1 := HN0.out
      rw [r1, treeL_len, List.length_take]
      omega
     have h6 : Below w.heap.size w W := belowTrans r3 hJ
     refine wpList_append_src W rfl (.tmp 17) (.tmp 30) 54 rfl w.heap.size 9 io _ 1 _ Tryz.underlying54 hio hz0 hz1 hz2 rfl (by decide) _ m _ rfl hown _ 3 [.string f.path, .string (kindB f.dir), .string (ofL (listT f.lines))] rfl (.inr ⟨_, _, rfl, rfl, ?src⟩) ?one ?len3 ?bytes3 ?base3 ?_
     case src =>
      intro j u hu
      rw [Addr.add_lit, Nat.zero_add]
      have h8 : W.cell? ⟨g, j, none⟩ = (#[.string f.path, .string (kindB f.dir), .string (ofL (listT f.lines))] : Array Value)[j]? := by simp [World.cell?, h7]
      rw [h8]
      simpa using hu
     case one =>
      intro u hu
      simp only [List.mem_cons, List.not_mem_nil, or_false] at hu
      rcases hu with rfl | rfl | rfl <;> rfl
     case len3 => unfold maxLen; omega
     case bytes3 => omega
     case base3 => exact h6.size
     intro v' w' hown' hg _
     obtain ⟨ta', tc', rfl⟩ := ownShape hown'
     have HN : Hid (m + 3 = (treeL (fs.take (i + 1))).length ∧ w'.ownsRow w.heap.size 9 1 (.slice ta' (m + 3) tc') (m + 3) ((treeL (fs.take (i + 1))).map Value.string) ∧ Below w.heap.size w w') := by
      refine ⟨?_, ?_, ?_⟩
      ·rw [HTK.out, List.length_append, ← r1]; rfl
      ·rw [HTK.out, List.map_append]
       exact hown'
      ·exact h6.grown hg h6.size (fun k hk => (hown.lt k hk).1)
     clear hown' hg hown r1 r2 r3 h7 hJ h6 REL
     go_wp2
     go_roundg (n - (i + 1))
     case measure => omega
     case rel => exact ⟨i + 1, _, _, _, rfl, by go_num, by omega, Nat.le_refl _, HN.out⟩
   ·rw [hdir] at e1
    have KD : Hid (kindB f.dir = ⟨#[100]⟩) := by show _ = _; rw [hdir]; rfl
    go_wp2_with fail
    clear e0 e1 e2
    refine wp_region_gn 14 14 34 (by kernel_rfl) ?ok ?forced rfl (fun _ => SV ta m tc b o n c i f) (fun W => Below wr.heap.size wr W) (belowDrew1 _) ?step ?fin
    case ok => kernel_rfl
    case forced => kernel_rfl
    case step =>
     intro i' op' hi' ho L A W hLi hpre hF hJ hV
     have s0 : A.tmps[0]? = some (.slice (some ⟨b, o, none⟩) n c) := hF.at (by kernel_rfl) rfl
     have s3 : A.tmps[3]? = some (.slice ta m tc) := hF.at (by kernel_rfl) rfl
     have s4 : A.tmps[4]? = some (.int .i64 i) := hF.at (by kernel_rfl) rfl
     have s5 : A.tmps[5]? = some (.string (kindB f.dir)) := hF.at (by kernel_rfl) (by rw [KD.out]; rfl)
     obtain ⟨k0, k1, k2⟩ := HCE.out W hJ
     have hWs := hJ.size
     match i', hi' with
     | 0, _ =>
      cases ho
      refine ⟨wanted_none rfl, fun K hK => rg_val (v := .slice ta m tc) ?_ (hK _ _ (fun j u _ => SV.below (Below.refl _ _) j u) rfl hJ)⟩
      simp [execOp, Act.eval, go_sem, s3]
     | 1, _ =>
      cases ho
      refine ⟨wanted_none rfl, fun K hK => rg_val (v := .slice (some ⟨b, o, none⟩) n c) ?_ (hK _ _ (fun j u _ => SV.below (Below.refl _ _) j u) rfl hJ)⟩
      simp [execOp, Act.eval, go_sem, s0]
     | 2, _ =>
      cases ho
      refine ⟨wanted_none rfl, fun K hK => rg_val (v := .int .i64 i) ?_ (hK _ _ (fun j u _ => SV.below (Below.refl _ _) j u) rfl hJ)⟩
      simp [execOp, Act.eval, go_sem, s4]
     | 3, _ =>
      cases ho
      have sx := hF.slot (i := 1) rfl (by simp) (hV 1 (hpre ⟨1, .data⟩ (by simp) rfl))
      have sy := hF.slot (i := 2) rfl (by simp) (hV 2 (hpre ⟨2, .data⟩ (by simp) rfl))
      refine ⟨wanted_none rfl, fun K hK => rg_val (v := .pointer (some ⟨b, o + i * 3, none⟩)) ?_ (hK _ _ (fun j u _ => SV.below (Below.refl _ _) j u) rfl hJ)⟩
      simp [execOp, Act.eval, go_sem, sx, sy, hix, hnn0]
     | 4, _ =>
      cases ho
      have sx := hF.slot (i := 3) rfl (by simp) (hV 3 (hpre ⟨3, .data⟩ (by simp) rfl))
      refine ⟨wanted_none rfl, fun K hK => rg_val (v := .pointer (some ⟨b, o + i * 3, none⟩)) ?_ (hK _ _ (fun j u _ => SV.below (Below.refl _ _) j u) rfl hJ)⟩
      simp [execOp, Act.eval, go_sem, sx]
     | 5, _ =>
      cases ho
      have sx := hF.slot (i := 4) rfl (by simp) (hV 4 (hpre ⟨4, .data⟩ (by simp) rfl))
      refine ⟨wanted_none rfl, fun K hK => rg_val (v := .string f.path) ?_ (hK _ _ (fun j u _ => SV.below (Below.refl _ _) j u) rfl hJ)⟩
      simp [execOp, Act.eval, go_sem, sx, k0]
     | 6, _ =>
      cases ho
      refine ⟨wanted_none rfl, fun K hK => rg_val (v := .string (kindB f.dir)) ?_ (hK _ _ (fun j u _ => SV.below (Below.refl _ _) j u) rfl hJ)⟩
      simp [execOp, Act.eval, go_sem, s5]
     | 7, _ =>
      cases ho
      refine ⟨wanted_none rfl, fun K hK => rg_val (v := .slice (some ⟨b, o, none⟩) n c) ?_ (hK _ _ (fun j u _ => SV.below (Below.refl _ _) j u) rfl hJ)⟩
      simp [execOp, Act.eval, go_sem, s0]
     | 8, _ =>
      cases ho
      refine ⟨wanted_none rfl, fun K hK => rg_val (v := .int .i64 i) ?_ (hK _ _ (fun j u _ => SV.below (Below.refl _ _) j u) rfl hJ)⟩
      simp [execOp, Act.eval, go_sem, s4]
     | 9, _ =>
      cases ho
      have sx := hF.slot (i := 7) rfl (by simp) (hV 7 (hpre ⟨7, .data⟩ (by simp) rfl))
      have sy := hF.slot (i := 8) rfl (by simp) (hV 8 (hpre ⟨8, .data⟩ (by simp) rfl))
      refine ⟨wanted_none rfl, fun K hK => rg_val (v := .pointer (some ⟨b, o + i * 3, none⟩)) ?_ (hK _ _ (fun j u _ => SV.below (Below.refl _ _) j u) rfl hJ)⟩
      simp [execOp, Act.eval, go_sem, sx, sy, hix, hnn0]
     | 10, _ =>
      cases ho
      have sx := hF.slot (i := 9) rfl (by simp) (hV 9 (hpre ⟨9, .data⟩ (by simp) rfl))
      refine ⟨wanted_none rfl, fun K hK => rg_val (v := .pointer (some ⟨b, o + i * 3 + 2, none⟩)) ?_ (hK _ _ (fun j u _ => SV.below (Below.refl _ _) j u) rfl hJ)⟩
      simp [execOp, Act.eval, go_sem, sx]
     | 11, _ =>
      cases ho
      have sx := hF.slot (i := 10) rfl (by simp) (hV 10 (hpre ⟨10, .data⟩ (by simp) rfl))
      refine ⟨wanted_none rfl, fun K hK => rg_val (v := .slice f.la f.lines.length f.lc) ?_ (hK _ _ (fun j u _ => SV.below (Below.refl _ _) j u) rfl hJ)⟩
      simp [execOp, Act.eval, go_sem, sx, k2]
     | 12, _ =>
      cases ho
      have sx := hF.slot (i := 11) rfl (by simp) (hV 11 (hpre ⟨11, .data⟩ (by simp) rfl))
      refine ⟨wanted_none rfl, fun K hK => rg_enter (f := 33) (args := #[.slice f.la f.lines.length f.lc]) (w' := W) ?_ (R01_List f.la f.lc f.lines W (HTX.out W hJ) HLT.out) ?_ ?_ ?_⟩
      ·simp [Act.eval, go_sem, sx]
      ·rintro v w'' ⟨e, hb⟩
       cases e
       exact hK _ _ (fun j u _ => SV.below hb j u) rfl (hJ.trans (hb.mono hWs))
      ·rintro chain w'' ⟨e, _⟩
       cases e
      ·rintro w'' ⟨e, _⟩
       cases e
     | 13, _ =>
      cases ho
      have sx := hF.slot (i := 5) rfl (by simp) (hV 5 (hpre ⟨5, .data⟩ (by simp) rfl))
      have sy := hF.slot (i := 6) rfl (by simp) (hV 6 (hpre ⟨6, .data⟩ (by simp) rfl))
      have sz := hF.slot (i := 12) rfl (by simp) (hV 12 (hpre ⟨12, .data⟩ (by simp) rfl))
      refine ⟨wanted_none rfl, fun K hK => rg_val (w' := W.alloc (.cells #[.string f.path, .string (kindB f.dir), .string (ofL (listT f.lines))] 9)) (v := .slice (some ⟨W.heap.size, 0, none⟩) 3 3) ?_ (hK _ _ (fun j u _ => SV.below (belowAlloc _ _) j u) ⟨_, _, rfl, (MapKept.heap_alloc _ _).1⟩ (hJ.trans ((belowAlloc _ _).mono hWs)))⟩
      simp [execOp, Act.eval, go_sem, sx, sy, sz]
    case fin =>
     intro A W hF hJ hV
     have e0' : A.tmps.getD 17 undef = .slice ta m tc := hV 0 (by omega)
     obtain ⟨g, gc, e7, h7⟩ := hV 13 (by omega)
     have e7 : A.tmps.getD 30 undef = .slice (some ⟨g, 0, none⟩) 3 gc := e7
     rw [hF.lit [17, 18, 19, 20, 21, 22, 23, 24, 25, 26, 27, 28, 29, 30] (by kernel_rfl)]
     simp only [relaid, List.foldl_cons, List.foldl_nil, e0', e7]
     generalize A.tmps.getD 18 undef = y18
     generalize A.tmps.getD 19 undef = y19
     generalize A.tmps.getD 20 undef = y20
     generalize A.tmps.getD 21 undef = y21
     generalize A.tmps.getD 22 undef = y22
     generalize A.tmps.getD 23 undef = y23
     generalize A.tmps.getD 24 undef = y24
     generalize A.tmps.getD 25 undef = y25
     generalize A.tmps.getD 26 undef = y26
     generalize A.tmps.getD 27 undef = y27
     generalize A.tmps.getD 28 undef = y28
     generalize A.tmps.getD 29 undef = y29
     simp only [List.setIfInBounds_toArray, List.set_cons_succ, List.set_cons_zero, List.drop_succ_cons]
     clear hV hF e0' e7
     obtain ⟨r1, r2, r3⟩ := REL.out
     have hown := ownsRow_below r2 hJ
     have hml : m ≤ 3000000 := by
      have h1 := HN0.out
      rw [r1, treeL_len, List.length_take]
      omega
     have h6 : Below w.heap.size w W := belowTrans r3 hJ
     refine wpList_append_src W rfl (.tmp 17) (.tmp 30) 54 rfl w.heap.size 9 io _ 1 _ Tryz.underlying54 hio hz0 hz1 hz2 rfl (by decide) _ m _ rfl hown _ 3 [.string f.path, .string (kindB f.dir), .string (ofL (listT f.lines))] rfl (.inr ⟨_, _, rfl, rfl, ?src⟩) ?one ?len3 ?bytes3 ?base3 ?_
     case src =>
      intro j u hu
      rw [Addr.add_lit, Nat.zero_add]
      have h8 : W.cell? ⟨g, j, none⟩ = (#[.string f.path, .string (kindB f.dir), .string (ofL (listT f.lines))] : Array Value)[j]? := by simp [World.cell?, h7]
      rw [h8]
      simpa using hu
     case one =>
      intro u hu
      simp only [List.mem_cons, List.not_mem_nil, or_false] at hu
      rcases hu with rfl | rfl | rfl <;> rfl
     case len3 => unfold maxLen; omega
     case bytes3 => omega
     case base3 => exact h6.size
     intro v' w' hown' hg _
     obtain ⟨ta', tc', rfl⟩ := ownShape hown'
     have HN : Hid (m + 3 = (treeL (fs.take (i + 1))).length ∧ w'.ownsRow w.heap.size 9 1 (.slice ta' (m + 3) tc') (m + 3) ((treeL (fs.take (i + 1))).map Value.string) ∧ Below w.heap.size w w') := by
      refine ⟨?_, ?_, ?_⟩
      ·rw [HTK.out, List.length_append, ← r1]; rfl
      ·rw [HTK.out, List.map_append]
       exact hown'
      ·exact h6.grown hg h6.size (fun k hk => (hown.lt k hk).1)
     clear hown' hg hown r1 r2 r3 h7 hJ h6 REL
     go_wp2
     go_roundg (n - (i + 1))
     case measure => omega
     case rel => exact ⟨i + 1, _, _, _, rfl, by go_num, by omega, Nat.le_refl _, HN.out⟩
  ·have hiz : ¬ (i : Int) < (n : Int) := by omega
   obtain ⟨r1, r2, r3⟩ := REL.out
   have hi : i = fs.length := by have := HN0.out; omega
   rw [hi, List.take_length] at r1 r2
   subst r1
   have hH := textsH_own r2
   have HC : Hid _ := R01_List ta tc (treeL fs) wr hH HBIG.out
   have HB3 : Hid _ := r3
   clear r2 r3 REL hH
   go_wp2_with fail
   refine Calls.mono HC.out ?_
   rintro e w5 ⟨rfl, hb5⟩
   have HB5 : Hid _ := belowTrans HB3.out hb5
   clear hb5
   go_wp2
   go_ret
   exact ⟨rfl, HB5.out⟩
end Go.Proofs.W
