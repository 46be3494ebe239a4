/- A PART OF THE PROOF THAT SAVETEXTS HOLDS FOR EVERY INPUT OF BULK AT MOST 1048576. No condition beyond the given statement. This part: WOfX. -/
import Derived.Test.YtciahohaonhdgaaGreatDoorWOf1
import Derived.Deep.LoopGhost
import Derived.Test.YtciahohaonhdgaaGreatDoorWSaveLaw
import Derived.Test.YtciahohaonhdgaaGreatDoorRegRG
namespace Go.Proofs.W
open Go Go.Proofs Go.RowKit Go.Op Go.Sort
set_option maxRecDepth 1000000
def OfRetX (fs : List FileV) (e : Ending) (w' : World) : Prop := (∃ n : Int, n ≠ 0 ∧ e = .returned (.tuple #[.agg #[.slice none 0 0], .int .i64 n]) ∧ ¬ Good fs) ∨
 (∃ (a' : Option Addr) (c' : Nat) (gs : List FileV), OfOk fs gs ∧ Good gs ∧ e = .returned (.tuple #[.agg #[.slice a' gs.length c'], .int .i64 0]) ∧ FilesH w' a' gs)
set_option maxHeartbeats 16000000 in
theorem tree_OfX (a : Option Addr) (c : Nat) (fs : List FileV) (w : World) (h : FilesH w a fs) (hm : HasM w) (hU : HasU w) (hsz : ∀ f, f ∈ fs → f.path.size < 4294967281) (hll : ∀ f, f ∈ fs → f.lines.length ≤ 1000000) (hls : ∀ f, f ∈ fs → ∀ s, s ∈ f.lines → s.size ≤ 9223372036854775807) (ht : ∀ f, f ∈ fs → TextsH w f.la f.lines) (hlen : fs.length < 4611686018427387904) :
  Calls Tryz.prog 6 #[.slice a fs.length c] w fun e w' => OfRetX fs e w' ∧ Below w.heap.size w w' := by
 have mixed : Tryz.prog.follows .mixedOrders = true := by kernel_rfl
 have hA := belowAlloc w (.cells #[.slice none 0 0] 27)
 have hbx := (MapKept.heap_alloc w (.cells #[.slice none 0 0] 27)).1
 have hz : (w.alloc (.cells #[.slice none 0 0] 27)).heap.size = w.heap.size + 1 := by simp
 by_cases hbig : (500 : Int) < (fs.length : Int)
 ·go_enter Tryz.func6, Tryz.ntmps6
  have H1 : Hid _ := hbx
  have HA : Hid _ := hA
  clear hbx hA hz
  go_wp2
  refine bodyPost_ret_by (results_cell_row_tmp (p := 2) (u := 3) rfl _ _ w.heap.size _ _ _ _ ?hp H1.out Tryz.underlying27 rfl (by kernel_rfl)) rfl ⟨Or.inl ⟨4, by decide, rfl, fun hG => by have := hG.len; omega⟩, HA.out⟩
  case hp => rfl
 ·have hn : fs.length ≤ 500 := by omega
  have hcl := cloneFiles a c fs _ (h.below hA) (by omega)
  have HC : Hid _ := hcl
  have H1 : Hid _ := hbx
  have HA : Hid _ := hA
  have HZ : Hid _ := hz
  clear hbx hA hz hcl
  go_enter Tryz.func6, Tryz.ntmps6
  go_wp2_with fail
  refine Calls.mono HC.out ?_
  rintro e w2 ⟨⟨v2, rfl, hown⟩, hb2⟩
  obtain ⟨a2, k2, rfl⟩ := ownShape hown
  have hB2 := belowTrans HA.out hb2
  have hso := sortOwn (w.heap.size + 1) a2 k2 fs w2 (by rw [← HZ.out]; exact hown) (by have := hb2.size; have := HZ.out; omega) (by obtain ⟨_, _, h2⟩ := hm; omega) (hm.below hB2) hsz (by omega) fun W' hb f hf => ⟨(ht f hf).below (hB2.trans (hb.mono (Nat.le_succ _))), by have := hll f hf; omega⟩
  have HS : Hid _ := hso
  have HB2 : Hid _ := hB2
  have H2 : Hid _ := (hb2.block w.heap.size (by have := HZ.out; omega)).trans H1.out
  clear hso hown hb2 hB2 HC
  go_wp2_with fail
  refine Calls.mono HS.out ?_
  rintro e w3 ⟨rfl, ss, hperm, hsame, hfs, hb3⟩
  have HSM : Hid (Rising pathLess (pathsOf fs) → ss = fs) := hsame
  have HN5 : Hid (fs.length ≤ 500) := hn
  clear hsame
  have HB3 : Hid (Below w.heap.size w w3) := HB2.out.trans (hb3.mono (Nat.le_succ _))
  have H3 : Hid _ := (hb3.block w.heap.size (by omega)).trans H2.out
  have HP : Hid (ss.Perm fs) := hperm
  have HF : Hid (FilesH w3 a2 ss) := hfs
  have hsl : ss.length = fs.length := hperm.length_eq
  have HSL : Hid _ := hsl
  have hz3 : w.heap.size < w3.heap.size := (Array.getElem?_eq_some_iff.1 H3.out).1
  have HZ3 : Hid _ := hz3
  clear hperm hfs hb3 HS H2 HB2 H1 HA HZ hsl hz3
  go_wp2
  go_loopg [20] fs.length (fun kx s20 wr => ∃ (i : Nat) (ta : Option Addr) (tc : Nat) (gs : List FileV), s20 = .int .i64 i ∧ i ≤ fs.length ∧ fs.length - i ≤ kx ∧ Hid (gs.length = i ∧ (gs.map FileV.key).Perm ((ss.take i).map FileV.key) ∧ FsOk gs ∧ (∀ g, g ∈ gs → pathR g.path = true) ∧ (∀ g, g ∈ gs → okFile gs g) ∧ FilesH wr ta gs ∧ Below w3.heap.size w3 wr ∧ wr.heap[w3.heap.size]? = some (.cells #[.slice ta gs.length tc] 27 (0, 0))))
  case atStart =>
   refine ⟨0, none, 0, [], rfl, Nat.zero_le _, Nat.le_refl _, rfl, List.Perm.refl _, ⟨?_, fun _ hf => (by cases hf), Nat.zero_le _, fun _ hf => (by cases hf)⟩, fun _ hg => (by cases hg), fun _ hg => (by cases hg), .inl rfl, belowAlloc w3 _, (MapKept.heap_alloc w3 _).1⟩
   exact List.Pairwise.nil
  case round =>
   obtain ⟨i, ta, tc, gs, rfl, hin, hkx, REL⟩ := hrel
   by_cases hlt : i < fs.length
   ·obtain ⟨r1, r2, r3, r4, rk, r5, r6, r7⟩ := REL.out
    have hil : i < ss.length := by rw [HSL.out]; exact hlt
    obtain ⟨f, hf⟩ : ∃ f, ss[i]? = some f := ⟨_, List.getElem?_eq_getElem hil⟩
    have hff : f ∈ fs := HP.out.mem_iff.1 (List.mem_of_getElem? hf)
    obtain ⟨b, o, rfl, hN⟩ : ∃ b o, a2 = some ⟨b, o, none⟩ ∧ FilesAt w3 b o ss := HF.out.resolve_left (by omega)
    obtain ⟨e0, e1, e2⟩ := (hN.below r6).cell i f hf
    have hiz : (i : Int) < (fs.length : Int) := by omega
    have hA5 := belowAlloc wr (.cells #[.string f.path, .bool f.dir, .slice f.la f.lines.length f.lc] 56)
    have hB5 := belowTrans r6 hA5
    have hB5' := belowTrans HB3.out hB5
    have q0 : (wr.alloc (.cells #[.string f.path, .bool f.dir, .slice f.la f.lines.length f.lc] 56)).cell? ⟨w3.heap.size, 0, none⟩ = some (.slice ta gs.length tc) := by
     have := (hA5.block _ (Array.getElem?_eq_some_iff.1 r7).1).trans r7
     simp [World.cell?, this]
    have hcome := tree_comeX ta tc gs f _ (r5.below hA5) r3 (hsz f hff) (hm.below hB5') (hU.below hB5') ((ht f hff).below hB5') (hll f hff) (hls f hff) (by omega)
    unfold FileV.val at hcome
    have HCM : Hid _ := hcome
    have H5 : Hid _ := hB5
    clear hcome hA5 hB5 hB5' r1 r2 r3 r4 rk r5 r6 r7 hil hN
    go_wp2_with fail
    refine Calls.mono HCM.out ?_
    rintro e w6 ⟨hret, hb6⟩
    clear q0 e0 e1 e2 HCM
    have HB6 : Hid (Below w3.heap.size w3 w6) := belowTrans H5.out hb6
    have HB6' : Hid (Below w.heap.size w w6) := belowTrans HB3.out HB6.out
    have H6 : Hid _ := (HB6.out.block _ HZ3.out).trans H3.out
    obtain ⟨en, hen0⟩ : ∃ en, comeE gs f = en := ⟨_, rfl⟩
    have HEN : Hid (comeE gs f = en) := hen0
    rcases hret with ⟨hen, rfl⟩ | ⟨hcz, hpr, hnew, a', c', g, hg1, hg2, hg3, rfl, hF⟩
    ·rw [hen0] at hen ⊢
     clear hen0
     have HNG : Hid (¬ Good fs) := fun hG => by
      obtain ⟨r1, r2, r3, _⟩ := REL.out
      have hss := HSM.out hG.rising
      rw [hss] at hf r2
      have := good_step hG hf r2 r3.rising
      rw [HEN.out] at this
      exact hen this
     have hA7 := belowAlloc w6 (.cells #[.slice none 0 0] 27)
     have h7 := (hA7.block _ (Nat.lt_of_lt_of_le HZ3.out HB6.out.size)).trans H6.out
     have p0 : (w6.alloc (.cells #[.slice none 0 0] 27)).cell? ⟨w.heap.size, 0, none⟩ = some (.slice none 0 0) := by simp [World.cell?, h7]
     have p1 := frozen_of_row _ w.heap.size 0 _ _ h7
     have H7 : Hid _ := h7
     have HB7 : Hid _ := belowTrans HB6'.out hA7
     clear hA7 h7 hb6
     go_wp2
     (try simp only [Exit.inBlock, Exit.then])
     have hfin := setCell_block (.slice none 0 0) H7.out (i := 0)
     refine bodyPost_ret_by (results_cell_row_tmp (p := 2) (u := 3) rfl _ _ w.heap.size _ _ _ _ ?hp hfin Tryz.underlying27 rfl (by kernel_rfl)) rfl ⟨Or.inl ⟨en, hen, rfl, HNG.out⟩, HB7.out.setCell (Nat.le_refl _) _⟩
     case hp => rfl
    ·clear hen0
     obtain ⟨r1, r2, r3, r4, rk, r5, r6, r7⟩ := REL.out
     obtain ⟨s1, s2, s3, s4⟩ := ofStep hf r2 r3 (by omega) r4 hpr hnew hg1 hg2 hg3 (hsz f hff) (hll f hff) _ rfl
     have s5 := okFile_put r3.rising s3.rising rk hcz hg1 hg2 hg3
     generalize gs.take (rankP (pathsOf gs) f.path) ++ g :: gs.drop (rankP (pathsOf gs) f.path) = gs' at hF s1 s2 s3 s4 s5
     have hA7 := belowAlloc w6 (.cells #[.slice a' (gs.length + 1) c'] 27)
     have hlt5 : w3.heap.size < wr.heap.size := (Array.getElem?_eq_some_iff.1 r7).1
     have h7 := (hA7.block _ (Nat.lt_of_lt_of_le hlt5 (Nat.le_trans (by simp) hb6.size))).trans ((hb6.block _ (by simp; omega)).trans (((belowAlloc wr (.cells #[.string f.path, .bool f.dir, .slice f.la f.lines.length f.lc] 56)).block _ hlt5).trans r7))
     have p0 : (w6.alloc (.cells #[.slice a' (gs.length + 1) c'] 27)).cell? ⟨w3.heap.size, 0, none⟩ = some (.slice ta gs.length tc) := by simp [World.cell?, h7]
     have p1 := frozen_of_row _ w3.heap.size 0 _ _ h7
     have hB7 := (belowTrans HB6.out hA7).setCell (p := ⟨w3.heap.size, 0, none⟩) (Nat.le_refl _) (.slice a' (gs.length + 1) c')
     have hF7 := filesH_set (hF.below hA7) h7 (fun x => by simp) (.slice a' (gs.length + 1) c')
     have h8 := setCell_block (.slice a' (gs.length + 1) c') h7 (i := 0)
     have HB7 : Hid _ := hB7
     have HF7 : Hid _ := hF7
     have H8 : Hid _ := h8
     have HS : Hid _ := And.intro s1 (And.intro s2 (And.intro s3 (And.intro s4 s5)))
     have HG : Hid _ := r1
     clear hA7 h7 hB7 hF7 h8 hb6 s1 s2 s3 s4 s5 r1 r2 r3 r4 rk r5 r6 r7 hF hlt5 hg1 hg2 hg3 hpr hnew hcz
     go_wp2
     go_roundg (fs.length - (i + 1))
     case measure => omega
     case rel =>
      obtain ⟨s1, s2, s3, s4, s5⟩ := HS.out
      refine ⟨i + 1, a', c', gs', by go_num, by omega, Nat.le_refl _, ?_⟩
      show _ ∧ _
      exact ⟨by rw [s1, HG.out], s2, s3, s4, s5, HF7.out, HB7.out, by rw [s1]; exact H8.out⟩
   ·have hiz : ¬ (i : Int) < (fs.length : Int) := by omega
    obtain ⟨r1, r2, r3, r4, rk, r5, r6, r7⟩ := REL.out
    have hi : i = fs.length := by omega
    have hall : ss.take i = ss := List.take_of_length_le (by rw [HSL.out]; omega)
    rw [hall] at r2
    have hB := belowTrans HB3.out r6
    have h7 := (r6.block _ HZ3.out).trans H3.out
    have q0 : wr.cell? ⟨w3.heap.size, 0, none⟩ = some (.slice ta gs.length tc) := by simp [World.cell?, r7]
    have q1 : wr.cell? ⟨w.heap.size, 0, none⟩ = some (.slice none 0 0) := by simp [World.cell?, h7]
    have q2 := frozen_of_row _ w.heap.size 0 _ _ h7
    have H7 : Hid _ := h7
    have HO : Hid (OfOk fs gs ∧ Good gs) := ⟨⟨r2.trans (HP.out.map _), r3, r4⟩, r3.rising, fun g hg => ⟨r4 g hg, rk g hg⟩, by have := HN5.out; omega⟩
    have HF7 : Hid _ := filesH_set r5 h7 (fun x => by simp) (.slice ta gs.length tc)
    have HB7 : Hid _ := hB.setCell (p := ⟨w.heap.size, 0, none⟩) (Nat.le_refl _) (.slice ta gs.length tc)
    clear r1 r2 r3 r4 rk r5 r6 r7 hi hall hB h7 hkx
    go_wp2
    have hfin := setCell_block (.slice ta gs.length tc) H7.out (i := 0)
    refine bodyPost_ret_by (results_cell_row_tmp (p := 2) (u := 3) rfl _ _ w.heap.size _ _ _ _ ?hp hfin Tryz.underlying27 rfl (by kernel_rfl)) rfl ⟨Or.inr ⟨ta, tc, gs, HO.out.1, HO.out.2, rfl, HF7.out⟩, HB7.out⟩
    case hp => rfl
end Go.Proofs.W
namespace Go.Proofs.W
open Go Go.Proofs Go.RowKit Go.Op Go.Sort
set_option maxRecDepth 1000000
def TreeOfRet (s : ByteArray) (e : Ending) (w' : World) : Prop :=
 (∃ n : Int, n ≠ 0 ∧ e = .returned (.tuple #[.agg #[.slice none 0 0], .int .i64 n]) ∧ ∀ fs, GoodT fs → dl s ≠ treeT fs) ∨
 (∃ (a : Option Addr) (c : Nat) (fs : List FileV), FsOk fs ∧ Good fs ∧ dl s = treeT fs ∧ e = .returned (.tuple #[.agg #[.slice a fs.length c], .int .i64 0]) ∧ FilesH w' a fs)
def TO (fa : Option Addr) (m fc b o n lc i : Nat) (p k : ByteArray) (za : Option Addr) (nl zc : Nat) (j : Nat) (v : Value) (W : World) : Prop := match j with
 | 0 => v = .slice fa m fc
 | 1 => v = .slice (some ⟨b, o, none⟩) n lc
 | 2 => v = .int .i64 i
 | 3 => v = .pointer (some ⟨b, o + i, none⟩)
 | 4 => v = .string p
 | 5 => v = .slice (some ⟨b, o, none⟩) n lc
 | 6 => v = .int .i64 i
 | 7 => v = .int .i64 (i + 1)
 | 8 => v = .pointer (some ⟨b, o + (i + 1), none⟩)
 | 9 => v = .string k
 | 10 => v = .bool (k.toList == [100])
 | 11 => v = .slice za nl zc
 | 12 => v = .agg #[.string p, .bool (k.toList == [100]), .slice za nl zc]
 | 13 => ∃ g c, v = .slice (some ⟨g, 0, none⟩) 1 c ∧ W.heap[g]? = some (.cells #[.string p, .bool (k.toList == [100]), .slice za nl zc] 56 (0, 0))
 | _ => True
theorem TO.below {fa : Option Addr} {m fc b o n lc i : Nat} {p k : ByteArray} {za : Option Addr} {nl zc : Nat} {W W' : World} (hb : Below W.heap.size W W') (j : Nat) (u : Value) (h : TO fa m fc b o n lc i p k za nl zc j u W) : TO fa m fc b o n lc i p k za nl zc j u W' := by
 unfold TO at h ⊢
 split at h
 any_goals exact h
 obtain ⟨g, c, e, h1⟩ := h
 exact ⟨g, c, e, (hb.block g (Array.getElem?_eq_some_iff.1 h1).1).trans h1⟩
theorem kind_is (k : List UInt8) : ((ofL k).toList == [100]) = decide (k = [100]) := by
 have := toList_eq_iff (ofL k) ⟨#[100]⟩
 have h1 : (ByteArray.mk #[100]).toList = [100] := by rw [ByteArray.toList_eq]
 rw [h1] at this
 rw [this]
 refine decide_eq_decide.2 ⟨fun h => ?_, fun h => by rw [h]; rfl⟩
 have h2 := congrArg dl h
 rw [dl_ofL] at h2
 exact h2
set_option maxHeartbeats 16000000 in
theorem save_TreeOf (s : ByteArray) (w : World) (hs : s.size ≤ 1000000) (hm : HasM w) (hU : HasU w) :
  Calls Tryz.prog 7 #[.string s] w fun e w' => TreeOfRet s e w' ∧ Below w.heap.size w w' := by
 have mixed : Tryz.prog.follows .mixedOrders = true := by kernel_rfl
 obtain ⟨io, hio, hz0, hz1, hz2⟩ := info_file
 obtain ⟨W0, hW0⟩ : ∃ W0, W0 = w.alloc (.cells #[.slice none 0 0] 27) := ⟨_, rfl⟩
 have hA : Below w.heap.size w W0 := by rw [hW0]; exact belowAlloc _ _
 have hb : W0.heap[w.heap.size]? = some (.cells #[.slice none 0 0] 27 (0, 0)) := by rw [hW0]; exact (MapKept.heap_alloc _ _).1
 have hlt : w.heap.size < W0.heap.size := (Array.getElem?_eq_some_iff.1 hb).1
 have HL : Hid _ := save_list s W0 (by omega)
 have HA : Hid _ := hA
 have HB0 : Hid _ := hb
 have HLT : Hid _ := hlt
 have HM : Hid (HasM w) := hm
 have HU : Hid (HasU w) := hU
 have hdl : (dl s).length ≤ 1000000 := by rw [dl_len]; exact hs
 have HLL : Hid _ := listE_len (dl s)
 have HRD : Hid (∀ fs, GoodT fs → dl s = treeT fs → (listE (dl s)).2 = 0 ∧ filesK (listE (dl s)).1 = fs.map FileV.key) := fun fs hG e => keys_read hG e
 clear hA hb hlt hm hU
 go_enter Tryz.func7, Tryz.ntmps7
 go_wp2_with fail
 simp only [← hW0]
 clear hW0
 refine Calls.mono HL.out ?_
 rintro e w1 ⟨⟨a, c, rfl, hT⟩, hb1⟩
 have HB1 : Hid _ := belowTrans HA.out hb1
 have H1 : Hid (w1.heap[w.heap.size]? = some (.cells #[.slice none 0 0] 27 (0, 0))) := (hb1.block _ HLT.out).trans HB0.out
 have HT : Hid _ := ownTextsH hT
 have HZ1 : Hid (w.heap.size < w1.heap.size) := Nat.lt_of_lt_of_le HLT.out hb1.size
 clear hT hb1 HL
 have q1 : w1.cell? ⟨w.heap.size, 0, none⟩ = some (.slice none 0 0) := by have := H1.out; simp [World.cell?, this]
 have q2 := frozen_of_row w1 w.heap.size 0 _ _ H1.out
 have hKS : Hid (∀ k, k ∈ filesK (listE (dl s)).1 → k.1.size ≤ (dl s).length ∧ k.2.2.length ≤ (dl s).length ∧ ∀ x, x ∈ k.2.2 → x.size ≤ (dl s).length) := fun k hk => filesK_sizes hk
 have hTL : Hid (∀ k, k ∈ filesK (listE (dl s)).1 → (listT k.2.2).length ≤ 20000000) := fun k hk => by
  obtain ⟨j, hj⟩ := List.getElem?_of_mem hk
  have hl := (List.getElem?_eq_some_iff.1 hj).1
  rw [filesK_len] at hl
  have h0 : (listE (dl s)).1[3 * j]? = some ((listE (dl s)).1[3 * j]'(by omega)) := List.getElem?_eq_getElem _
  have h1 : (listE (dl s)).1[3 * j + 1]? = some ((listE (dl s)).1[3 * j + 1]'(by omega)) := List.getElem?_eq_getElem _
  have h2 : (listE (dl s)).1[3 * j + 2]? = some ((listE (dl s)).1[3 * j + 2]'(by omega)) := List.getElem?_eq_getElem _
  have h3 := filesK_at _ j h0 h1 h2
  rw [hj] at h3
  obtain rfl := Option.some.inj h3
  have q2 := (listE_len (dl s)).2 _ (List.mem_of_getElem? h2)
  have := listT_read ((listE (dl s)).1[3 * j + 2]'(by omega)) (by omega)
  show (listT ((listE ((listE (dl s)).1[3 * j + 2]'(by omega))).1.map ofL)).length ≤ _
  omega
 generalize hle : listE (dl s) = le at *
 obtain ⟨L, en⟩ := le
 clear hle
 have hLl : L.length ≤ 1000000 := by have h1 : L.length ≤ (dl s).length := HLL.out.1; omega
 have hen0 : (L, en).2 = en := rfl
 have hL0 : (L, en).1 = L := rfl
 rw [hL0] at HT hKS hTL HRD HLL
 rw [hen0] at HRD
 by_cases hen : en = 0
 case neg =>
  have HNG : Hid (∀ fs, GoodT fs → dl s ≠ treeT fs) := fun fs hG e => hen (HRD.out fs hG e).1
  clear HRD HLL hKS hTL
  dsimp only
  go_wp2
  have hfin := setCell_block (.slice none 0 0) H1.out (i := 0)
  refine bodyPost_ret_by (results_cell_row_tmp (p := 2) (u := 3) rfl _ _ w.heap.size _ _ _ _ ?hp hfin Tryz.underlying27 rfl (by kernel_rfl)) rfl ⟨Or.inl ⟨en, hen, rfl, HNG.out⟩, HB1.out.setCell (Nat.le_refl _) _⟩
  case hp => rfl
 subst hen
 dsimp only
 clear hen0 hL0
 have hml : ((L.map ofL).length : Int) = (L.length : Int) := by rw [List.length_map]
 go_wp2
 go_loopg [6, 7] L.length (fun kx s6 s7 wr => ∃ (j i : Nat) (fa : Option Addr) (fc : Nat) (fs : List FileV), s6 = .slice fa j fc ∧ s7 = .int .i64 i ∧ i ≤ L.length ∧ L.length - i ≤ kx ∧ Hid (i = 3 * j ∧ fs.length = j ∧ fs.map FileV.key = (filesK L).take j ∧ FilesOwn w1.heap.size wr (.slice fa j fc) fs ∧ Below w1.heap.size w1 wr))
 case atStart =>
  exact ⟨0, 0, none, 0, [], rfl, rfl, Nat.zero_le _, by omega, rfl, rfl, by simp, ⟨World.ownsRow_nil _ _ _ _, fun f hf => (by cases hf)⟩, Below.refl _ _⟩
 case round =>
  obtain ⟨m, i, fa, fc, fs, rfl, rfl, hmL, hkx, REL⟩ := hrel
  have hi := REL.out.1
  have hw2 : wrap64 ((i : Int) + 2) = (i : Int) + 2 := by unfold wrap64; omega
  by_cases hlt : (i : Int) + 2 < (L.length : Int)
  ·obtain ⟨x, hx⟩ : ∃ x, L[3 * m]? = some x := ⟨_, List.getElem?_eq_getElem (by omega)⟩
   obtain ⟨y, hy⟩ : ∃ y, L[3 * m + 1]? = some y := ⟨_, List.getElem?_eq_getElem (by omega)⟩
   obtain ⟨z, hz⟩ : ∃ z, L[3 * m + 2]? = some z := ⟨_, List.getElem?_eq_getElem (by omega)⟩
   have HKA : Hid _ := filesK_at L m hx hy hz
   have hzl := HLL.out.2 _ (List.mem_of_getElem? hz)
   obtain ⟨b, o, rfl, hN⟩ : ∃ b o, a = some ⟨b, o, none⟩ ∧ TextsAt w1 b o (L.map ofL) := by
    rcases HT.out with h | h
    ·rw [List.length_map] at h; omega
    ·exact h
   have HN : Hid _ := hN
   have k2 := (hN.below REL.out.2.2.2.2).cell (i + 2) (ofL z) (by rw [List.getElem?_map, hi, hz]; rfl)
   have hc2 : o + (i + 2) = o + (i + 2) := rfl
   have HX : Hid _ := hx
   have HY : Hid _ := hy
   have h0 : (0 : Int) ≤ (i : Int) + 2 := by omega
   have h0n : ¬ ((i : Int) + 2 < 0) := by omega
   have ht2 : ((i : Int) + 2).toNat = i + 2 := by omega
   have HSL : Hid _ := save_list (ofL z) wr (by rw [ofL_size]; omega)
   have HI : Hid _ := hi
   clear hx hy hz hN hi
   go_wp2_with fail
   refine Calls.mono HSL.out ?_
   rintro e w4 ⟨⟨za, zc, rfl, hzT⟩, hb4⟩
   obtain ⟨nl, hnl⟩ : ∃ nl : Nat, nl = (listE (dl (ofL z))).1.length := ⟨_, rfl⟩
   have HB4 : Hid _ := hb4
   have hnz : nl = (listE z).1.length := by rw [hnl, dl_ofL]
   have HZT : Hid (w4.ownsRow w1.heap.size 9 1 (.slice za nl zc) nl (((listE z).1.map ofL).map Value.string) ∧ nl = ((listE z).1.map ofL).length ∧ nl ≤ 1000000) := by
    have h1 := ownsRow_base hzT (b' := w1.heap.size) REL.out.2.2.2.2.size
    rw [dl_ofL, ← hnz] at h1
    have h2 := (listE_len z).1
    exact ⟨h1, by rw [List.length_map]; exact hnz, by omega⟩
   have HK : Hid (∀ W, Below w4.heap.size w4 W → W.cell? ⟨b, o + i, none⟩ = some (.string (ofL x)) ∧ W.cell? ⟨b, o + (i + 1), none⟩ = some (.string (ofL y))) := fun W hW => by
    have h := HN.out.below (belowTrans (belowTrans REL.out.2.2.2.2 hb4) hW)
    have hi' := HI.out
    exact ⟨h.cell i (ofL x) (by rw [List.getElem?_map, hi', HX.out]; rfl), h.cell (i + 1) (ofL y) (by rw [List.getElem?_map, hi', HY.out]; rfl)⟩
   generalize (listE (dl (ofL z))).2 = en2
   rw [← hnl]
   obtain ⟨p, hp⟩ : ∃ p, p = ofL x := ⟨_, rfl⟩
   obtain ⟨k, hk⟩ : ∃ k, k = ofL y := ⟨_, rfl⟩
   rw [← hp, ← hk] at HK
   have HP : Hid _ := hp
   have HKK : Hid _ := hk
   clear hp hk hb4 hzT hnl HSL k2 hnz
   obtain ⟨n, hn⟩ : ∃ n, n = L.length := ⟨_, rfl⟩
   have HNL : Hid _ := hn
   rw [← hn]
   have h0i : (0 : Int) ≤ (i : Int) := by omega
   have h0n : ¬ ((i : Int) < 0) := by omega
   have h1i : (0 : Int) ≤ (i : Int) + 1 := by omega
   have h1n : ¬ ((i : Int) + 1 < 0) := by omega
   have hw1 : IntKind.i64.wrap ((i : Int) + 1) = (i : Int) + 1 := by rw [IntKind.wrap_i64]; omega
   have hlt0 : (i : Int) < (n : Int) := by omega
   have hlt1 : (i : Int) + 1 < (n : Int) := by omega
   have ht1 : ((i : Int) + 1).toNat = i + 1 := by omega
   clear hn
   go_wp2_with fail
   refine wp_region_gx 14 14 66 (by kernel_rfl) ?ok ?forced rfl (fun _ => TO fa m fc b o n c i p k za nl zc) (fun W => Below w4.heap.size w4 W) (belowDrew1 _) ?step ?fin
   case ok => kernel_rfl
   case forced => kernel_rfl
   case step =>
    intro i' oq hi' ho L A W hLi hpre hF hJ hV
    have s6 : A.tmps[6]? = some (.slice fa m fc) := hF.at (by kernel_rfl) rfl
    have s4 : A.tmps[4]? = some (.slice (some ⟨b, o, none⟩) n c) := hF.at (by kernel_rfl) rfl
    have s7 : A.tmps[7]? = some (.int .i64 i) := hF.at (by kernel_rfl) rfl
    have s8 : A.tmps[8]? = some (.slice za nl zc) := hF.at (by kernel_rfl) rfl
    obtain ⟨k0, k1⟩ := HK.out W hJ
    have hWs := hJ.size
    match i', hi' with
   | 0, _ =>
    cases ho
    refine .inl ⟨wanted_none rfl, fun K hK => rg_val (v := .slice fa m fc) ?_ (hK _ _ (fun j u _ => TO.below (Below.refl _ _) j u) rfl hJ)⟩
    simp [execOp, Act.eval, go_sem, s6]
   | 1, _ =>
    cases ho
    refine .inl ⟨wanted_none rfl, fun K hK => rg_val (v := .slice (some ⟨b, o, none⟩) n c) ?_ (hK _ _ (fun j u _ => TO.below (Below.refl _ _) j u) rfl hJ)⟩
    simp [execOp, Act.eval, go_sem, s4]
   | 2, _ =>
    cases ho
    refine .inl ⟨wanted_none rfl, fun K hK => rg_val (v := .int .i64 i) ?_ (hK _ _ (fun j u _ => TO.below (Below.refl _ _) j u) rfl hJ)⟩
    simp [execOp, Act.eval, go_sem, s7]
   | 3, _ =>
    cases ho
    have sx := hF.slot (i := 1) rfl (by simp) (hV 1 (hpre ⟨1, .data⟩ (by simp) rfl))
    have sy := hF.slot (i := 2) rfl (by simp) (hV 2 (hpre ⟨2, .data⟩ (by simp) rfl))
    refine .inl ⟨wanted_none rfl, fun K hK => rg_val (v := .pointer (some ⟨b, o + i, none⟩)) ?_ (hK _ _ (fun j u _ => TO.below (Below.refl _ _) j u) rfl hJ)⟩
    simp [execOp, Act.eval, go_sem, sx, sy, h0n, hlt0]
   | 4, _ =>
    cases ho
    have sx := hF.slot (i := 3) rfl (by simp) (hV 3 (hpre ⟨3, .data⟩ (by simp) rfl))
    refine .inl ⟨wanted_none rfl, fun K hK => rg_val (v := .string p) ?_ (hK _ _ (fun j u _ => TO.below (Below.refl _ _) j u) rfl hJ)⟩
    simp [execOp, Act.eval, go_sem, sx, k0]
   | 5, _ =>
    cases ho
    refine .inl ⟨wanted_none rfl, fun K hK => rg_val (v := .slice (some ⟨b, o, none⟩) n c) ?_ (hK _ _ (fun j u _ => TO.below (Below.refl _ _) j u) rfl hJ)⟩
    simp [execOp, Act.eval, go_sem, s4]
   | 6, _ =>
    cases ho
    refine .inl ⟨wanted_none rfl, fun K hK => rg_val (v := .int .i64 i) ?_ (hK _ _ (fun j u _ => TO.below (Below.refl _ _) j u) rfl hJ)⟩
    simp [execOp, Act.eval, go_sem, s7]
   | 7, _ =>
    cases ho
    have sx := hF.slot (i := 6) rfl (by simp) (hV 6 (hpre ⟨6, .data⟩ (by simp) rfl))
    refine .inl ⟨wanted_none rfl, fun K hK => rg_val (v := .int .i64 (i + 1)) ?_ (hK _ _ (fun j u _ => TO.below (Below.refl _ _) j u) rfl hJ)⟩
    simp [execOp, Act.eval, go_sem, sx, hw1]
   | 8, _ =>
    cases ho
    have sx := hF.slot (i := 5) rfl (by simp) (hV 5 (hpre ⟨5, .data⟩ (by simp) rfl))
    have sy := hF.slot (i := 7) rfl (by simp) (hV 7 (hpre ⟨7, .data⟩ (by simp) rfl))
    refine .inl ⟨wanted_none rfl, fun K hK => rg_val (v := .pointer (some ⟨b, o + (i + 1), none⟩)) ?_ (hK _ _ (fun j u _ => TO.below (Below.refl _ _) j u) rfl hJ)⟩
    simp [execOp, Act.eval, go_sem, sx, sy, h1n, hlt1, ht1]
   | 9, _ =>
    cases ho
    have sx := hF.slot (i := 8) rfl (by simp) (hV 8 (hpre ⟨8, .data⟩ (by simp) rfl))
    refine .inl ⟨wanted_none rfl, fun K hK => rg_val (v := .string k) ?_ (hK _ _ (fun j u _ => TO.below (Below.refl _ _) j u) rfl hJ)⟩
    simp [execOp, Act.eval, go_sem, sx, k1]
   | 10, _ =>
    cases ho
    have sx := hF.slot (i := 9) rfl (by simp) (hV 9 (hpre ⟨9, .data⟩ (by simp) rfl))
    refine .inl ⟨wanted_none rfl, fun K hK => rg_val (v := .bool (k.toList == [100])) ?_ (hK _ _ (fun j u _ => TO.below (Below.refl _ _) j u) rfl hJ)⟩
    simp [execOp, Act.eval, go_sem, sx]
   | 11, _ =>
    cases ho
    refine .inl ⟨wanted_none rfl, fun K hK => rg_val (v := .slice za nl zc) ?_ (hK _ _ (fun j u _ => TO.below (Below.refl _ _) j u) rfl hJ)⟩
    simp [execOp, Act.eval, go_sem, s8]
   | 12, _ =>
    cases ho
    have sx := hF.slot (i := 4) rfl (by simp) (hV 4 (hpre ⟨4, .data⟩ (by simp) rfl))
    have sy := hF.slot (i := 10) rfl (by simp) (hV 10 (hpre ⟨10, .data⟩ (by simp) rfl))
    have sz := hF.slot (i := 11) rfl (by simp) (hV 11 (hpre ⟨11, .data⟩ (by simp) rfl))
    refine .inl ⟨wanted_none rfl, fun K hK => rg_val (v := .agg #[.string p, .bool (k.toList == [100]), .slice za nl zc]) ?_ (hK _ _ (fun j u _ => TO.below (Below.refl _ _) j u) rfl hJ)⟩
    simp [execOp, Act.eval, go_sem, sx, sy, sz]
   | 13, _ =>
    cases ho
    have sx := hF.slot (i := 12) rfl (by simp) (hV 12 (hpre ⟨12, .data⟩ (by simp) rfl))
    refine .inl ⟨wanted_none rfl, fun K hK => rg_val (w' := W.alloc (.cells #[.string p, .bool (k.toList == [100]), .slice za nl zc] 56)) (v := .slice (some ⟨W.heap.size, 0, none⟩) 1 1) ?_ (hK _ _ (fun j u _ => TO.below (belowAlloc _ _) j u) ⟨_, _, rfl, (MapKept.heap_alloc _ _).1⟩ (hJ.trans ((belowAlloc _ _).mono hWs)))⟩
    simp [execOp, Act.eval, go_sem, sx]
   case fin =>
    intro A W hF hJ hV
    have e0 : A.tmps.getD 36 undef = .slice fa m fc := hV 0 (by omega)
    obtain ⟨g, gc, e13, h13⟩ := hV 13 (by omega)
    have e13 : A.tmps.getD 49 undef = .slice (some ⟨g, 0, none⟩) 1 gc := e13
    rw [hF.lit [36, 37, 38, 39, 40, 41, 42, 43, 44, 45, 46, 47, 48, 49] (by kernel_rfl)]
    simp only [relaid, List.foldl_cons, List.foldl_nil, e0, e13]
    generalize A.tmps.getD 37 undef = y37
    generalize A.tmps.getD 38 undef = y38
    generalize A.tmps.getD 39 undef = y39
    generalize A.tmps.getD 40 undef = y40
    generalize A.tmps.getD 41 undef = y41
    generalize A.tmps.getD 42 undef = y42
    generalize A.tmps.getD 43 undef = y43
    generalize A.tmps.getD 44 undef = y44
    generalize A.tmps.getD 45 undef = y45
    generalize A.tmps.getD 46 undef = y46
    generalize A.tmps.getD 47 undef = y47
    generalize A.tmps.getD 48 undef = y48
    simp only [List.setIfInBounds_toArray, List.set_cons_succ, List.set_cons_zero, List.drop_succ_cons]
    obtain ⟨r1, r2, r3, r4, r5⟩ := REL.out
    have hBW : Below wr.heap.size wr W := belowTrans HB4.out hJ
    have hrow := ownsRow_below r4.row hBW
    have hml : m ≤ 1000000 := by omega
    have hz9 := (belowTrans r5 hBW).size
    have hzW := ownsRow_below HZT.out.1 hJ
    have hsubW : ∀ f, f ∈ fs → W.ownsRow w1.heap.size 9 1 (.slice f.la f.lines.length f.lc) f.lines.length (f.lines.map Value.string) := fun f hf => ownsRow_below (r4.sub f hf).1 hBW
    rw [r2] at hrow
    refine wpList_append_src W rfl (.tmp 36) (.tmp 49) 22 rfl w1.heap.size 56 io _ 3 _ Tryz.underlying22 hio hz0 hz1 hz2 rfl (by decide) _ m _ rfl hrow _ 1 [.string p, .bool (k.toList == [100]), .slice za nl zc] rfl (.inr ⟨_, _, rfl, rfl, ?src⟩) ?one ?len3 ?bytes3 ?base3 ?_
    case src =>
     intro j u hu
     rw [Addr.add_lit, Nat.zero_add]
     have h8 : W.cell? ⟨g, j, none⟩ = (#[.string p, .bool (k.toList == [100]), .slice za nl zc] : Array Value)[j]? := by simp [World.cell?, h13]
     rw [h8]
     simpa using hu
    case one =>
     intro u hu
     simp only [List.mem_cons, List.not_mem_nil, or_false] at hu
     rcases hu with rfl | rfl | rfl <;> rfl
    case len3 => unfold maxLen; omega
    case bytes3 => omega
    case base3 => exact hz9
    intro v' w' hown' hg _
    obtain ⟨ta', tc', rfl⟩ := ownShape hown'
    have hb7 : Below w1.heap.size w1 w' := by
     have h6 : Below w1.heap.size w1 W := belowTrans r5 hBW
     exact h6.grown hg h6.size (fun k hk => (hrow.lt k hk).1)
    have hlen := HZT.out.2.1
    have HN : Hid (i + 3 = 3 * (m + 1) ∧ (fs ++ [(⟨p, k.toList == [100], (listE z).1.map ofL, za, zc⟩ : FileV)]).length = m + 1 ∧ (fs ++ [(⟨p, k.toList == [100], (listE z).1.map ofL, za, zc⟩ : FileV)]).map FileV.key = (filesK L).take (m + 1) ∧ FilesOwn w1.heap.size w' (.slice ta' (m + 1) tc') (fs ++ [(⟨p, k.toList == [100], (listE z).1.map ofL, za, zc⟩ : FileV)]) ∧ Below w1.heap.size w1 w') := by
     refine ⟨by omega, by simp [r2], ?_, ⟨?_, fun y hy => ?_⟩, hb7⟩
     ·rw [List.map_append, r3, List.take_add_one, HKA.out, HP.out, HKK.out, kind_is]
      rfl
     ·rw [List.length_append, List.flatMap_append, r2]
      have e : [(⟨p, k.toList == [100], (listE z).1.map ofL, za, zc⟩ : FileV)].flatMap FileV.cells = [.string p, .bool (k.toList == [100]), .slice za nl zc] := by
       show [Value.string p, .bool (k.toList == [100]), .slice za ((listE z).1.map ofL).length zc] ++ [] = _
       rw [← hlen]
       rfl
      rw [e]
      exact hown'
     ·rcases List.mem_append.1 hy with hy | hy
      ·exact ⟨kept_other (hsubW y hy) hrow (by decide) hg, (r4.sub y hy).2⟩
      ·obtain rfl := List.mem_singleton.1 hy
       have h1 := kept_other hzW hrow (by decide) hg
       refine ⟨?_, by show ((listE z).1.map ofL).length ≤ _; rw [← hlen]; exact HZT.out.2.2⟩
       show w'.ownsRow w1.heap.size 9 1 (.slice za ((listE z).1.map ofL).length zc) ((listE z).1.map ofL).length (((listE z).1.map ofL).map Value.string)
       rw [← hlen]
       exact h1
    have HI3 : Hid (i + 3 ≤ L.length) := by have := HNL.out; show _ ≤ _; omega
    have hn2 := HNL.out
    clear hown' hg hrow r1 r2 r3 r4 r5 hBW h13 hJ hz9 hzW hsubW hb7 hlen hV hF
    go_wp2
    go_roundg (L.length - (i + 3))
    case measure => omega
    case rel => exact ⟨m + 1, i + 3, _, _, _, rfl, by go_num, HI3.out, Nat.le_refl _, HN.out⟩
  ·obtain ⟨r1, r2, r3, r4, r5⟩ := REL.out
   have hmz : m = (filesK L).length := by rw [filesK_len]; omega
   rw [hmz, List.take_length] at r3
   clear hmz
   subst r2
   have hB := belowTrans HB1.out r5
   have hkm : ∀ f, f ∈ fs → FileV.key f ∈ filesK L := fun f hf => by rw [← r3]; exact List.mem_map.2 ⟨f, hf, rfl⟩
   have hks : ∀ f, f ∈ fs → f.path.size ≤ 1000000 ∧ f.lines.length ≤ 1000000 ∧ ∀ x, x ∈ f.lines → x.size ≤ 1000000 := fun f hf => by
    obtain ⟨h1, h2, h3⟩ := hKS.out _ (hkm f hf)
    exact ⟨Nat.le_trans h1 hdl, Nat.le_trans h2 hdl, fun x hx => Nat.le_trans (h3 x hx) hdl⟩
   have HKM : Hid (∀ f, f ∈ fs → (listT f.lines).length ≤ 20000000 ∧ f.path.size ≤ 20000000) := fun f hf => ⟨hTL.out _ (hkm f hf), by have := (hks f hf).1; omega⟩
   have HOF : Hid _ := tree_OfX fa fc fs wr (FilesOwn.filesH r4) (HM.out.below hB) (HU.out.below hB) (fun f hf => by have := (hks f hf).1; omega) (fun f hf => (hks f hf).2.1) (fun f hf x hx => by have := (hks f hf).2.2 x hx; omega) (fun f hf => textsH_own (r4.sub f hf).1) (by omega)
   have HKY : Hid (∀ fs', GoodT fs' → dl s = treeT fs' → fs.map FileV.key = fs'.map FileV.key) := fun fs' hG e => r3.trans (HRD.out fs' hG e).2
   have HB2 : Hid _ := hB
   have H2 : Hid (wr.heap[w.heap.size]? = some (.cells #[.slice none 0 0] 27 (0, 0))) := (r5.block _ HZ1.out).trans H1.out
   clear hKS hTL HRD HLL r1 r3 r4 r5 hB hkm hks REL HT
   go_wp2_with fail
   refine Calls.mono HOF.out ?_
   rintro e w5 ⟨hret, hb5⟩
   have HB5 : Hid _ := belowTrans HB2.out hb5
   have H5 : Hid _ := (hb5.block _ (Array.getElem?_eq_some_iff.1 H2.out).1).trans H2.out
   clear hb5 HOF
   rcases hret with ⟨ev, hev, rfl, hng⟩ | ⟨a', c', gs, hok, hgood, rfl, hF⟩
   ·have HNG : Hid (∀ fs', GoodT fs' → dl s ≠ treeT fs') := fun fs' hG e => hng (good_keys (HKY.out fs' hG e) hG.good)
    have hA7 := belowAlloc w5 (.cells #[.slice none 0 0] 27)
    have h7 := (hA7.block _ (Array.getElem?_eq_some_iff.1 H5.out).1).trans H5.out
    have p0 : (w5.alloc (.cells #[.slice none 0 0] 27)).cell? ⟨w.heap.size, 0, none⟩ = some (.slice none 0 0) := by simp [World.cell?, h7]
    have p1 := frozen_of_row _ w.heap.size 0 _ _ h7
    have H7 : Hid _ := h7
    have HB7 : Hid _ := belowTrans HB5.out hA7
    clear hA7 h7 hng q1 q2
    go_wp2
    have hfin := setCell_block (.slice none 0 0) H7.out (i := 0)
    refine bodyPost_ret_by (results_cell_row_tmp (p := 2) (u := 3) rfl _ _ w.heap.size _ _ _ _ ?hp hfin Tryz.underlying27 rfl (by kernel_rfl)) rfl ⟨Or.inl ⟨6, by decide, rfl, HNG.out⟩, HB7.out.setCell (Nat.le_refl _) _⟩
    case hp => rfl
   ·obtain ⟨W7, hW7⟩ : ∃ W7, W7 = w5.alloc (.cells #[.slice a' gs.length c'] 27) := ⟨_, rfl⟩
    have hA7 : Below w5.heap.size w5 W7 := by rw [hW7]; exact belowAlloc _ _
    have H7 : Hid (W7.heap[w.heap.size]? = some (.cells #[.slice none 0 0] 27 (0, 0))) := (hA7.block _ (Array.getElem?_eq_some_iff.1 H5.out).1).trans H5.out
    have HX7 : Hid (W7.heap[w5.heap.size]? = some (.cells #[.slice a' gs.length c'] 27 (0, 0))) := by show _ = _; rw [hW7]; exact (MapKept.heap_alloc _ _).1
    have HB7 : Hid _ := belowTrans HB5.out hA7
    have x0 : W7.cell? ⟨w5.heap.size, 0, none⟩ = some (.slice a' gs.length c') := by have := HX7.out; simp [World.cell?, this]
    have hgl : gs.length ≤ 500 := hgood.len
    have hbig : (treeT gs).length ≤ 70368744177664 := by
     have h1 := treeT_le (fs := gs) (by omega) (fun g hg => by
      obtain ⟨f, hf, e1, e2, e3⟩ := key_mem hok.perm hg
      obtain ⟨k1, k2⟩ := HKM.out f hf
      rw [e1] at k2
      rw [e3] at k1
      exact ⟨k2, k1⟩)
     omega
    have HTT : Hid _ := tree_Text a' c' gs W7 (hF.below hA7) hok.ok.lines (by omega) hbig
    have HFW : Hid (∀ W, Below W7.heap.size W7 W → FilesH W a' gs) := fun W hb => (hF.below hA7).below hb
    have HQ := toList_eq_iff (ofL (treeT gs)) s
    have HNE : Hid (∀ fs', GoodT fs' → dl s = treeT fs' → treeT gs = dl s) := fun fs' hG e => by
     have hk := HKY.out fs' hG e
     have hGf := good_keys hk hG.good
     have h1 := keys_same hGf.rising hgood.rising hok.perm
     rw [treeT_keys (h1.trans hk), e]
    have HOK : Hid (FsOk gs ∧ Good gs) := ⟨hok.ok, hgood⟩
    have hzz : (ofL (treeT gs)).size = (treeT gs).length := ofL_size _
    clear hF hA7 hok hgood hbig hgl q1 q2
    cases h1 : decide (ofL (treeT gs) = s) with
    | true =>
     rw [h1] at HQ
     have HEQ : Hid (dl s = treeT gs) := by
      have h2 := congrArg dl (of_decide_eq_true h1)
      rw [dl_ofL] at h2
      exact h2.symm
     clear h1
     generalize ofL (treeT gs) = tg at *
     go_wp2_with fail
     simp only [← hW7]
     clear hW7
     refine Calls.mono HTT.out ?_
     rintro e w8 ⟨rfl, hb8⟩
     have HB8 : Hid _ := belowTrans HB7.out hb8
     have H8 : Hid _ := (hb8.block _ (Array.getElem?_eq_some_iff.1 H7.out).1).trans H7.out
     have hx8 := (hb8.block _ (Array.getElem?_eq_some_iff.1 HX7.out).1).trans HX7.out
     have HF8 : Hid _ := filesH_set (HFW.out w8 hb8) H8.out (fun x => by simp) (.slice a' gs.length c')
     clear x0 hb8
     have x0 : w8.cell? ⟨w5.heap.size, 0, none⟩ = some (.slice a' gs.length c') := by simp [World.cell?, hx8]
     have p0 : w8.cell? ⟨w.heap.size, 0, none⟩ = some (.slice none 0 0) := by have := H8.out; simp [World.cell?, this]
     have p1 := frozen_of_row w8 w.heap.size 0 _ _ H8.out
     clear hx8
     go_wp2
     have hfin := setCell_block (.slice a' gs.length c') H8.out (i := 0)
     refine bodyPost_ret_by (results_cell_row_tmp (p := 2) (u := 3) rfl _ _ w.heap.size _ _ _ _ ?hp hfin Tryz.underlying27 rfl (by kernel_rfl)) rfl ⟨Or.inr ⟨a', c', gs, HOK.out.1, HOK.out.2, HEQ.out, rfl, HF8.out⟩, HB8.out.setCell (Nat.le_refl _) _⟩
     case hp => rfl
    | false =>
     rw [h1] at HQ
     have HNQ : Hid (∀ fs', GoodT fs' → dl s ≠ treeT fs') := fun fs' hG e => by
      have h2 := HNE.out fs' hG e
      have h3 := of_decide_eq_false h1
      apply h3
      rw [h2]
      exact ofL_dl s
     clear h1
     generalize ofL (treeT gs) = tg at *
     go_wp2_with fail
     simp only [← hW7]
     clear hW7
     refine Calls.mono HTT.out ?_
     rintro e w8 ⟨rfl, hb8⟩
     have HB8 : Hid _ := belowTrans HB7.out hb8
     have H8 : Hid _ := (hb8.block _ (Array.getElem?_eq_some_iff.1 H7.out).1).trans H7.out
     clear x0 hb8
     have p0 : w8.cell? ⟨w.heap.size, 0, none⟩ = some (.slice none 0 0) := by have := H8.out; simp [World.cell?, this]
     have p1 := frozen_of_row w8 w.heap.size 0 _ _ H8.out
     go_wp2
     have hfin := setCell_block (.slice none 0 0) H8.out (i := 0)
     refine bodyPost_ret_by (results_cell_row_tmp (p := 2) (u := 3) rfl _ _ w.heap.size _ _ _ _ ?hp hfin Tryz.underlying27 rfl (by kernel_rfl)) rfl ⟨Or.inl ⟨6, by decide, rfl, HNQ.out⟩, HB8.out.setCell (Nat.le_refl _) _⟩
     case hp => rfl
end Go.Proofs.W
