/- A PART OF THE PROOF THAT SAVETEXTS HOLDS FOR EVERY INPUT OF BULK AT MOST 1048576. No condition beyond the given statement. This part: WLawST. -/
import Derived.Test.YtciahohaonhdgaaGreatDoorWLight
import Derived.Test.YtciahohaonhdgaaGreatDoorWWorkT
import Derived.Test.YtciahohaonhdgaaGreatDoorWSameT
import Derived.Test.YtciahohaonhdgaaGreatDoorWWork
import Derived.Test.YtciahohaonhdgaaGreatDoorEvSizeW
namespace Go.Proofs.W
open Go Go.Proofs Go.RowKit Go.Op Go.Sort
set_option maxRecDepth 1000000
def LA (a' a9 : Option Addr) (n c' n9 c9 : Nat) (T : ByteArray) (gfs : List FileV) (j : Nat) (v : Value) (W : World) : Prop := match j with
 | 0 | 2 | 11 => v = .agg #[.slice a' n c']
 | 1 | 4 => v = .string T
 | 3 => ∃ za zc zs, v = .slice za zs.length zc ∧ FilesAs gfs za zs W
 | 5 | 6 | 8 | 9 | 10 | 14 => v = .bool false
 | 7 => v = .int .i64 0
 | 12 => v = .agg #[.slice a9 n9 c9]
 | 13 => v = .bool true
 | _ => True
theorem LA.below {a' a9 : Option Addr} {n c' n9 c9 : Nat} {T : ByteArray} {gfs : List FileV} {W W' : World} (hb : Below W.heap.size W W') (j : Nat) (u : Value) (h : LA a' a9 n c' n9 c9 T gfs j u W) : LA a' a9 n c' n9 c9 T gfs j u W' := by
 unfold LA at h ⊢
 split at h
 any_goals exact h
 obtain ⟨za, zc, zs, e, h1⟩ := h
 exact ⟨za, zc, zs, e, h1.below hb⟩
def LB (kv mv : Value) (a' : Option Addr) (n c' : Nat) (T2 : ByteArray) (gfs : List FileV) (gs : List TrackV) (j : Nat) (v : Value) (W : World) : Prop := match j with
 | 0 | 4 | 14 => v = kv
 | 1 | 7 => v = .string T2
 | 2 => v = .agg #[.slice a' n c']
 | 3 => ∃ za zc zs, v = .slice za zs.length zc ∧ FilesAs gfs za zs W
 | 5 => ∃ sa sc, v = .slice sa gs.length sc ∧ TracksH W sa gs
 | 6 => ∃ za zc zs sa sc, v = .agg #[.slice za zs.length zc, .slice sa gs.length sc] ∧ FilesAs gfs za zs W ∧ TracksH W sa gs
 | 8 | 9 | 11 | 12 | 13 | 17 => v = .bool false
 | 10 => v = .int .i64 0
 | 15 => v = mv
 | 16 => v = .bool true
 | _ => True
theorem LB.below {kv mv : Value} {a' : Option Addr} {n c' : Nat} {T2 : ByteArray} {gfs : List FileV} {gs : List TrackV} {W W' : World} (hb : Below W.heap.size W W') (j : Nat) (u : Value) (h : LB kv mv a' n c' T2 gfs gs j u W) : LB kv mv a' n c' T2 gfs gs j u W' := by
 unfold LB at h ⊢
 split at h
 any_goals exact h
 ·obtain ⟨za, zc, zs, e, h1⟩ := h
  exact ⟨za, zc, zs, e, h1.below hb⟩
 ·obtain ⟨sa, sc, e, h1⟩ := h
  exact ⟨sa, sc, e, h1.below hb⟩
 ·obtain ⟨za, zc, zs, sa, sc, e, h1, h2⟩ := h
  exact ⟨za, zc, zs, sa, sc, e, h1.below hb, h2.below hb⟩
def LC (kv : Value) (a19 : Option Addr) (n c19 : Nat) (s : ByteArray) (ys : List FileV) (tks : List TrackV) (j : Nat) (v : Value) (W : World) : Prop := match j with
 | 0 | 1 | 3 | 4 | 13 | 14 | 15 | 25 | 26 => v = .bool true
 | 2 => v = .int .i64 0
 | 5 | 8 => v = kv
 | 6 => v = .agg #[.slice a19 n c19]
 | 7 => ∃ za zc zs, v = .slice za zs.length zc ∧ FilesAs ys za zs W
 | 9 => ∃ sa sc, v = .slice sa tks.length sc ∧ TracksH W sa tks
 | 10 => ∃ za zc zs sa sc, v = .agg #[.slice za zs.length zc, .slice sa tks.length sc] ∧ FilesAs ys za zs W ∧ TracksH W sa tks
 | 11 | 12 => v = .string s
 | 16 | 17 | 18 => v = undef
 | _ => True
theorem LC.below {kv : Value} {a19 : Option Addr} {n c19 : Nat} {s : ByteArray} {ys : List FileV} {tks : List TrackV} {W W' : World} (hb : Below W.heap.size W W') (j : Nat) (u : Value) (h : LC kv a19 n c19 s ys tks j u W) : LC kv a19 n c19 s ys tks j u W' := by
 unfold LC at h ⊢
 split at h
 any_goals exact h
 ·obtain ⟨za, zc, zs, e, h1⟩ := h
  exact ⟨za, zc, zs, e, h1.below hb⟩
 ·obtain ⟨sa, sc, e, h1⟩ := h
  exact ⟨sa, sc, e, h1.below hb⟩
 ·obtain ⟨za, zc, zs, sa, sc, e, h1, h2⟩ := h
  exact ⟨za, zc, zs, sa, sc, e, h1.below hb, h2.below hb⟩
def LD (kv : Value) (a19 : Option Addr) (c19 : Nat) (g : Int) (j : Nat) (v : Value) (_ : World) : Prop := match j with
 | 0 | 1 | 17 | 18 | 23 | 24 | 25 | 26 => v = .bool true
 | 2 | 16 => v = .int .i64 g
 | 3 | 4 | 14 | 15 => v = .bool false
 | 19 => v = kv
 | 20 => v = .agg #[.slice a19 0 c19]
 | 21 => ∃ za zc, v = .slice za 0 zc
 | 22 => v = .int .i64 0
 | _ => True
theorem LD.below {kv : Value} {a19 : Option Addr} {c19 : Nat} {g : Int} {W W' : World} (_ : Below W.heap.size W W') (j : Nat) (u : Value) (h : LD kv a19 c19 g j u W) : LD kv a19 c19 g j u W' := h
theorem split_k {P : Program} {x y : Code} {Q : Exit → Act → World → Prop} {K : Act → World → Prop} (h : ∀ a w, (Code.seq x y).wp P Q a w → K a w) : ∃ K2 : Act → World → Prop, (∀ a w, y.wp P Q a w → K2 a w) ∧ (∀ a w, x.wp P (Exit.then K2 Q) a w → K a w) := ⟨fun a w => y.wp P Q a w, fun _ _ h => h, fun a w hx => h a w (wp_seq hx)⟩
set_option maxHeartbeats 64000000 in
theorem law_SaveTexts (a ta : Option Addr) (c tc : Nat) (fs : List FileV) (ts : List TrackV) (s : ByteArray) (w : World) (h : FilesH w a fs) (ht : TracksH w ta ts) (hm : HasM w) (hU : HasU w) (hfl : fs.length < 9223372036854775808) (htx : ∀ f, f ∈ fs → TextsH w f.la f.lines) (htsz : ∀ t, t ∈ ts → t.path.size < 4294967281) (hpsz : ∀ t, t ∈ ts → t.patch.size < 9223372036854775000) (htl : ts.length < 9223372036854775808) (hcap : ts.length ≤ tc) (hsl : s.size < 9223372036854775808) :
  Calls Tryz.prog 3 #[.slice a fs.length c, .slice ta ts.length tc, .string s] w fun e w' => e = .returned (.bool true) ∧ Below w.heap.size w w' := by
 have mixed : Tryz.prog.follows .mixedOrders = true := by kernel_rfl
 have HCAP : Hid _ := hcap
 have HM : Hid (HasM w) := hm
 have HU : Hid (HasU w) := hU
 have AWK : Hid _ := fun w => Wc.awakeS_calls w
 clear hcap hm hU
 go_enter Tryz.func3, Tryz.ntmps3
 go_wp2_with fail
 refine (L06_Light a c fs w h hfl).mono ?_
 rintro e w1 ⟨⟨t, rfl, hlt⟩, hw1⟩
 rw [hw1]
 clear hw1 w1
 by_cases hgo : t = true ∧ ts.length ≤ 15 ∧ s.size ≤ 2000
 case neg =>
  by_cases h15 : ts.length ≤ 15
  ·by_cases h2k : s.size ≤ 2000
   ·have : t = false := by cases t with
     | false => rfl
     | true => exact absurd ⟨rfl, h15, h2k⟩ hgo
    subst this
    clear hlt hgo
    go_wp2_with fail
    refine Calls.mono (AWK.out _) ?_
    rintro e w3 ⟨rfl, hb3⟩
    go_wp2
    go_ret
    exact ⟨rfl, hb3⟩
   ·have h2 : (2000 : Int) < (s.size : Int) := by omega
    have h3 : ¬ (15 : Int) < (ts.length : Int) := by omega
    clear hlt hgo
    cases t
    all_goals
     go_wp2_with fail
     refine Calls.mono (AWK.out _) ?_
     rintro e w3 ⟨rfl, hb3⟩
     go_wp2
     go_ret
     exact ⟨rfl, hb3⟩
  ·have h3 : (15 : Int) < (ts.length : Int) := by omega
   clear hlt hgo
   cases t
   all_goals
    go_wp2_with fail
    refine Calls.mono (AWK.out _) ?_
    rintro e w3 ⟨rfl, hb3⟩
    go_wp2
    go_ret
    exact ⟨rfl, hb3⟩
 obtain ⟨rfl, h15, h2k⟩ := hgo
 have HL : Hid (FilesLight fs) := hlt rfl
 clear hlt
 have h15z : ¬ (15 : Int) < (ts.length : Int) := by omega
 have h2z : ¬ (2000 : Int) < (s.size : Int) := by omega
 have HS : Hid (s.size ≤ 1000000) := by show _ ≤ _; omega
 have HOF : Hid _ := tree_OfX a c fs w h HM.out HU.out (fun f hf => by obtain ⟨j, hj⟩ := List.getElem?_of_mem hf; have := (HL.out.2 j f hj).1; omega) (fun f hf => by obtain ⟨j, hj⟩ := List.getElem?_of_mem hf; have := (HL.out.2 j f hj).2.1; omega) (fun f hf s hs => by
  obtain ⟨j, hj⟩ := List.getElem?_of_mem hf
  obtain ⟨k, hk⟩ := List.getElem?_of_mem hs
  have := (HL.out.2 j f hj).2.2 k s hk
  omega) htx (by have := HL.out.1; omega)
 have HTT : Hid (TracksH w ta ts) := ht
 clear ht htx h
 go_wp2_with fail
 refine Calls.mono HOF.out ?_
 rintro e w2 ⟨hret, hb2⟩
 have hun : ∃ (v8 : Value) (a7 : Option Addr) (n7 c7 : Nat) (e8 : Int), e = .returned (.tuple #[.agg #[.slice a7 n7 c7], v8]) ∧ v8 = .int .i64 e8 ∧ (e8 ≠ 0 ∨ (e8 = 0 ∧ ∃ gfs : List FileV, n7 = gfs.length ∧ OfOk fs gfs ∧ Good gfs ∧ FilesH w2 a7 gfs)) := by
  rcases hret with ⟨en, hen, rfl, _⟩ | ⟨a', c', gfs, hok, hgood, rfl, hF⟩
  ·exact ⟨_, _, _, _, en, rfl, rfl, .inl hen⟩
  ·exact ⟨_, _, _, _, 0, rfl, rfl, .inr ⟨rfl, gfs, rfl, hok, hgood, hF⟩⟩
 obtain ⟨v8, a', n7, c', e8, rfl, hv8, hun⟩ := hun
 have HV8 : Hid (v8 = .int .i64 e8) := hv8
 have HUN8 : Hid _ := hun
 have HB2 : Hid (Below w.heap.size w w2) := hb2
 clear hret hv8 hun hb2 HOF
 go_wp2_with fail
 rename_i K2 aK2 K4 aC4 K0 aK0
 have TAIL : Hid (∀ (u7 u8 u9 u10 u11 u12 u13 u14 u15 u16 u17 u18 u19 u20 u21 u22 u23 u24 u25 u26 u27 u28 u29 u30 u31 u32 u33 u34 u35 u36 u37 u38 u39 u40 u41 u42 u43 u44 u45 u46 u47 u48 u49 u50 u51 u52 u53 u54 u55 u56 u57 u58 u59 u60 u61 u62 u63 u64 u65 u66 u67 u68 u69 u70 u71 u72 u73 u74 u75 u76 u77 u78 u79 u80 u81 u82 u83 u84 u85 u86 u87 u88 u89 u90 u91 u92 u93 u94 u95 u96 u97 u98 u99 u100 u101 u102 u103 u104 u105 u106 u107 u108 u109 u110 u111 u112 u113 u114 : Value) (WT : World), Below w.heap.size w WT → K2 { tmps := #[.slice a fs.length c, .slice ta ts.length tc, .string s, undef, undef, undef, .bool false, u7, u8, u9, u10, u11, u12, u13, u14, u15, u16, u17, u18, u19, u20, u21, u22, u23, u24, u25, u26, u27, u28, u29, u30, u31, u32, u33, u34, u35, u36, u37, u38, u39, u40, u41, u42, u43, u44, u45, u46, u47, u48, u49, u50, u51, u52, u53, u54, u55, u56, u57, u58, u59, u60, u61, u62, u63, u64, u65, u66, u67, u68, u69, u70, u71, u72, u73, u74, u75, u76, u77, u78, u79, u80, u81, u82, u83, u84, u85, u86, u87, u88, u89, u90, u91, u92, u93, u94, u95, u96, u97, u98, u99, u100, u101, u102, u103, u104, u105, u106, u107, u108, u109, u110, u111, u112, u113, u114, undef, undef, undef, undef, undef, undef, undef, undef, undef, undef, undef, undef, undef, undef, undef, undef, undef, undef, undef, undef, undef, undef, undef, undef, undef, undef, undef, undef, undef, undef, undef, undef, undef, undef, undef, undef, undef, undef, undef, undef, undef, undef, undef, undef, undef, undef, undef, undef, undef, undef, undef, undef, undef, undef, undef, undef], defers := [] } WT) := by
  intro u7 u8 u9 u10 u11 u12 u13 u14 u15 u16 u17 u18 u19 u20 u21 u22 u23 u24 u25 u26 u27 u28 u29 u30 u31 u32 u33 u34 u35 u36 u37 u38 u39 u40 u41 u42 u43 u44 u45 u46 u47 u48 u49 u50 u51 u52 u53 u54 u55 u56 u57 u58 u59 u60 u61 u62 u63 u64 u65 u66 u67 u68 u69 u70 u71 u72 u73 u74 u75 u76 u77 u78 u79 u80 u81 u82 u83 u84 u85 u86 u87 u88 u89 u90 u91 u92 u93 u94 u95 u96 u97 u98 u99 u100 u101 u102 u103 u104 u105 u106 u107 u108 u109 u110 u111 u112 u113 u114 WT HB0
  have HB : Hid (Below w.heap.size w WT) := HB0
  clear HB0 aK0 aC4
  apply aK2
  clear aK2
  go_wp2_with fail
  refine Calls.mono (save_TreeOf s WT HS.out (HM.out.below HB.out) (HU.out.below HB.out)) ?_
  rintro e v1 ⟨hret, hb⟩
  have hun : ∃ (a17 : Option Addr) (c17 : Nat) (xs : List FileV) (f : Int) (v18 : Value), e = .returned (.tuple #[.agg #[.slice a17 xs.length c17], v18]) ∧ v18 = .int .i64 f ∧ FilesH v1 a17 xs ∧ (∀ x, x ∈ xs → x.lines.length ≤ 1000000) ∧ xs.length ≤ 1000000 ∧ ((f ≠ 0 ∧ xs.length = 0) ∨ (f = 0 ∧ dl s = treeT xs)) := by
   rcases hret with ⟨n, hn, rfl, _⟩ | ⟨a, c, fs, h1, h2, h3, rfl, h4⟩
   ·exact ⟨none, 0, [], n, _, rfl, rfl, .inl rfl, fun x hx => (by cases hx), Nat.zero_le _, .inl ⟨hn, rfl⟩⟩
   ·exact ⟨a, c, fs, 0, _, rfl, rfl, h4, h1.lines, h1.len, .inr ⟨rfl, h3⟩⟩
  obtain ⟨a17, c17, xs, f, v18, rfl, hv18, hFx, hxl, hxn, hf⟩ := hun
  have HV18 : Hid (v18 = .int .i64 f) := hv18
  clear hret hv18
  obtain ⟨V1, hV1⟩ : ∃ V1, V1 = v1.alloc (.cells #[.slice a17 xs.length c17] 27) := ⟨_, rfl⟩
  obtain ⟨b17, hb17⟩ : ∃ b17, b17 = v1.heap.size := ⟨_, rfl⟩
  have hA1 : Below v1.heap.size v1 V1 := by rw [hV1]; exact belowAlloc _ _
  have HB1 : Hid (Below w.heap.size w V1) := belowTrans (belowTrans HB.out hb) hA1
  have HD17 : Hid (V1.heap[b17]? = some (.cells #[.slice a17 xs.length c17] 27 (0, 0))) := by show _ = _; rw [hV1, hb17]; exact (MapKept.heap_alloc _ _).1
  have HFX : Hid (∀ W, Below V1.heap.size V1 W → FilesH W a17 xs) := fun W h => (hFx.below hA1).below h
  have HXL : Hid (∀ x, x ∈ xs → x.lines.length ≤ 1000000) := hxl
  have HXN : Hid (xs.length ≤ 1000000) := hxn
  have HFC : Hid ((f ≠ 0 ∧ xs.length = 0) ∨ (f = 0 ∧ dl s = treeT xs)) := hf
  clear hb hFx hA1 hxl hxn hf
  go_wp2_with fail
  simp only [← hb17, ← hV1]
  clear hb17 hV1
  refine Calls.mono (save_WorkOf s V1 HS.out (HM.out.below HB1.out) (HU.out.below HB1.out)) ?_
  rintro e v2 ⟨hret, hb⟩
  have hun : ∃ (a19 : Option Addr) (c19 : Nat) (ys : List FileV) (ta19 : Option Addr) (tc19 : Nat) (tks : List TrackV) (g : Int), e = .returned (.tuple #[.agg #[.slice a19 ys.length c19, .slice ta19 tks.length tc19], .int .i64 g]) ∧ FilesH v2 a19 ys ∧ (∀ x, x ∈ ys → x.lines.length ≤ 1000000) ∧ ys.length ≤ 1000000 ∧ TracksH v2 ta19 tks ∧ tks.length ≤ 1000000 ∧ (∀ t, t ∈ tks → t.patch.size < 9223372036854775000) ∧ ((g ≠ 0 ∧ ys.length = 0) ∨ (g = 0 ∧ dl s = workT ys tks)) := by
   rcases hret with ⟨n, hn, rfl, _⟩ | ⟨a, c, fs, ta, tc, ts, h1, h2, h3, h4, h5, h6, rfl, h7, h8⟩
   ·exact ⟨none, 0, [], none, 0, [], n, rfl, .inl rfl, fun x hx => (by cases hx), Nat.zero_le _, .inl rfl, Nat.zero_le _, fun x hx => (by cases hx), .inl ⟨hn, rfl⟩⟩
   ·refine ⟨a, c, fs, ta, tc, ts, 0, rfl, h7, h1.lines, h1.len, h8, h6, fun t ht => ?_, .inr ⟨rfl, h3⟩⟩
    have q1 := tracksK_patch (h4.mem_iff.1 ht)
    have q2 := partL_len (fun x hx => (listE_len (dl s)).2 x hx) 1
    have q3 := HS.out
    rw [dl_len] at q2
    omega
  obtain ⟨a19, c19, ys, ta19, tc19, tks, g, rfl, hFy, hyl, hyn, hTy, htn, hpb, hg⟩ := hun
  clear hret
  obtain ⟨V2, hV2⟩ : ∃ V2, V2 = v2.alloc (.cells #[.slice a19 ys.length c19, .slice ta19 tks.length tc19] 42) := ⟨_, rfl⟩
  obtain ⟨b19, hb19⟩ : ∃ b19, b19 = v2.heap.size := ⟨_, rfl⟩
  have hA2 : Below v2.heap.size v2 V2 := by rw [hV2]; exact belowAlloc _ _
  have HJ2 : Hid (Below V1.heap.size V1 V2) := belowTrans hb hA2
  have HB2' : Hid (Below w.heap.size w V2) := belowTrans HB1.out HJ2.out
  have HD19 : Hid (V2.heap[b19]? = some (.cells #[.slice a19 ys.length c19, .slice ta19 tks.length tc19] 42 (0, 0))) := by show _ = _; rw [hV2, hb19]; exact (MapKept.heap_alloc _ _).1
  have HFY : Hid (∀ W, Below V2.heap.size V2 W → FilesH W a19 ys) := fun W h => (hFy.below hA2).below h
  have HTY : Hid (∀ W, Below V2.heap.size V2 W → TracksH W ta19 tks) := fun W h => (hTy.below hA2).below h
  have HYX : Hid (∀ x, x ∈ ys → x.lines.length ≤ 1000000) := hyl
  have HYL : Hid (ys.length ≤ 1000000) := hyn
  have HTL : Hid (tks.length ≤ 1000000) := htn
  have HPB : Hid (∀ t, t ∈ tks → t.patch.size < 9223372036854775000) := hpb
  have HGC : Hid ((g ≠ 0 ∧ ys.length = 0) ∨ (g = 0 ∧ dl s = workT ys tks)) := hg
  have d17 := (HJ2.out.block b17 (Array.getElem?_eq_some_iff.1 HD17.out).1).trans HD17.out
  have x17 : (v2.alloc (.cells #[.slice a19 ys.length c19, .slice ta19 tks.length tc19] 42)).cell? ⟨b17, 0, none⟩ = some (.slice a17 xs.length c17) := by rw [← hV2]; simp [World.cell?, d17]
  clear hb hFy hA2 hyl hyn hTy htn hpb hg d17
  go_wp2_with fail
  rename_i K20 aK20 K0' aK0'
  have T22 : Hid (∀ (u7 u8 u9 u10 u11 u12 u13 u14 u15 u16 u17 u18 u21 u22 u23 u24 u25 u26 u27 u28 u29 u30 u31 u32 u33 u34 u35 u36 u37 u38 u39 u40 u41 u42 u43 u44 u45 u46 u47 u48 u49 u50 u51 u52 u53 u54 u55 u56 u57 u58 u59 u60 u61 u62 u63 u64 u65 u66 u67 u68 u69 u70 u71 u72 u73 u74 u75 u76 u77 u78 u79 u80 u81 u82 u83 u84 u85 u86 u87 u88 u89 u90 u91 u92 u93 u94 u95 u96 u97 u98 u99 u100 u101 u102 u103 u104 u105 u106 u107 u108 u109 u110 u111 u112 u113 u114 u115 u116 u117 u118 u119 u120 u121 u122 u123 u124 u125 u126 u127 u128 u129 u130 u131 u132 u133 u134 u135 u136 u137 u138 u139 u140 u141 u142 : Value) (V4 : World), Below V2.heap.size V2 V4 → K20 { tmps := #[.slice a fs.length c, .slice ta ts.length tc, .string s, undef, undef, undef, .bool false, u7, u8, u9, u10, u11, u12, u13, u14, u15, u16, u17, u18, .pointer (some ⟨b19, 0, none⟩), .int .i64 g, u21, u22, u23, u24, u25, u26, u27, u28, u29, u30, u31, u32, u33, u34, u35, u36, u37, u38, u39, u40, u41, u42, u43, u44, u45, u46, u47, u48, u49, u50, u51, u52, u53, u54, u55, u56, u57, u58, u59, u60, u61, u62, u63, u64, u65, u66, u67, u68, u69, u70, u71, u72, u73, u74, u75, u76, u77, u78, u79, u80, u81, u82, u83, u84, u85, u86, u87, u88, u89, u90, u91, u92, u93, u94, u95, u96, u97, u98, u99, u100, u101, u102, u103, u104, u105, u106, u107, u108, u109, u110, u111, u112, u113, u114, u115, u116, u117, u118, u119, u120, u121, u122, u123, u124, u125, u126, u127, u128, u129, u130, u131, u132, u133, u134, u135, u136, u137, u138, u139, u140, u141, u142, .bool false, undef, undef, undef, undef, undef, undef, undef, undef, undef, undef, undef, undef, undef, undef, undef, undef, undef, undef, undef, undef, undef, undef, undef, undef, undef, undef, undef], defers := [] } V4) := by
   intro u7 u8 u9 u10 u11 u12 u13 u14 u15 u16 u17 u18 u21 u22 u23 u24 u25 u26 u27 u28 u29 u30 u31 u32 u33 u34 u35 u36 u37 u38 u39 u40 u41 u42 u43 u44 u45 u46 u47 u48 u49 u50 u51 u52 u53 u54 u55 u56 u57 u58 u59 u60 u61 u62 u63 u64 u65 u66 u67 u68 u69 u70 u71 u72 u73 u74 u75 u76 u77 u78 u79 u80 u81 u82 u83 u84 u85 u86 u87 u88 u89 u90 u91 u92 u93 u94 u95 u96 u97 u98 u99 u100 u101 u102 u103 u104 u105 u106 u107 u108 u109 u110 u111 u112 u113 u114 u115 u116 u117 u118 u119 u120 u121 u122 u123 u124 u125 u126 u127 u128 u129 u130 u131 u132 u133 u134 u135 u136 u137 u138 u139 u140 u141 u142 V4 HJ40
   have HJ4 : Hid (Below V2.heap.size V2 V4) := HJ40
   have HBV : Hid (Below w.heap.size w V4) := belowTrans HB2'.out HJ40
   clear HJ40 aK0' hV2 hb19 x17
   apply aK20
   clear aK20
   have HL19 : Hid (∀ W, Below V4.heap.size V4 W → W.cell? ⟨b19, 0, none⟩ = some (.slice a19 ys.length c19) ∧ W.cell? ⟨b19, 1, none⟩ = some (.slice ta19 tks.length tc19)) := fun W h => by
    have e1 := ((belowTrans HJ4.out h).block b19 (Array.getElem?_eq_some_iff.1 HD19.out).1).trans HD19.out
    exact ⟨by simp [World.cell?, e1], by simp [World.cell?, e1]⟩
   have HTE : Hid (∀ W, _) := fun W => work_Tree a19 ta19 c19 tc19 ys.length tks.length W
   have HAL2 : Hid (∀ W, Below V4.heap.size V4 W → _) := fun W h => tree_All a19 c19 ys W (HFY.out W (belowTrans HJ4.out h)) HYX.out HYL.out
   have HTK2 : Hid (∀ W, Below V4.heap.size V4 W → _) := fun W h => work_Tracks a19 ta19 c19 tc19 ys.length tks W (HTY.out W (belowTrans HJ4.out h)) (by have := HTL.out; omega)
   rcases HGC.out with ⟨hg, hy0⟩ | ⟨hg, hys⟩
   ·have hg0 : (g == 0) = false := by simpa using hg
    obtain ⟨n19, hn19⟩ : ∃ n19, n19 = ys.length := ⟨_, rfl⟩
    have HG0 : Hid (ys.length = 0) := hy0
    rw [HG0.out] at HL19 HTE HAL2
    obtain ⟨kv, hkv⟩ : ∃ kv : Value, kv = .agg #[.slice a19 0 c19, .slice ta19 tks.length tc19] := ⟨_, rfl⟩
    clear hn19 hy0
    go_wp2_with fail
    refine wp_region_gx 27 27 171 (by kernel_rfl) ?ok ?forced rfl (fun _ => LD (.agg #[.slice a19 0 c19, .slice ta19 tks.length tc19]) a19 c19 g) (fun W => Below V4.heap.size V4 W) (belowDrew1 _) ?step ?fin
    case ok => kernel_rfl
    case forced => kernel_rfl
    case step =>
     intro i' oq hi' ho L A W hLi hpre hF hJ hV
     have s19 : A.tmps[19]? = some (.pointer (some ⟨b19, 0, none⟩)) := hF.at (by kernel_rfl) rfl
     have s20 : A.tmps[20]? = some (.int .i64 g) := hF.at (by kernel_rfl) rfl
     have g19 := HL19.out W hJ
     have hWs := hJ.size
     match i', hi' with
     | 0, _ =>
      cases ho
      refine .inl ⟨wanted_none rfl, fun K hK => rg_enter (f := 5) (args := #[]) (w' := W) ?_ (AWK.out W) ?_ ?_ ?_⟩
      ·simp [Act.eval, go_sem]
      ·rintro v w'' ⟨e, hb⟩
       cases e
       exact hK _ _ (fun j u _ => LD.below hb j u) rfl (hJ.trans (hb.mono hWs))
      ·rintro chain w'' ⟨e, hb⟩
       cases e
      ·rintro w'' ⟨e, hb⟩
       cases e
     | 1, _ =>
      cases ho
      have sx := hF.slot (i := 0) rfl (by simp) (hV 0 (hpre ⟨0, .data⟩ (by simp) rfl))
      refine .inl ⟨wanted_none rfl, fun K hK => rg_val (v := .bool true) ?_ (hK _ _ (fun j u _ => LD.below (Below.refl _ _) j u) rfl hJ)⟩
      simp [execOp, Act.eval, go_sem, sx]
     | 2, _ =>
      cases ho
      refine .inl ⟨wantedN hF rfl rfl (by simp) (hV 1 (hpre ⟨1, .guard⟩ (by simp) rfl)), fun K hK => rg_val (v := .int .i64 g) ?_ (hK _ _ (fun j u _ => LD.below (Below.refl _ _) j u) rfl hJ)⟩
      simp [execOp, Act.eval, go_sem, s20]
     | 3, _ =>
      cases ho
      have sx := hF.slot (i := 2) rfl (by simp) (hV 2 (hpre ⟨2, .data⟩ (by simp) rfl))
      refine .inl ⟨wantedN hF rfl rfl (by simp) (hV 1 (hpre ⟨1, .guard⟩ (by simp) rfl)), fun K hK => rg_val (v := .bool false) ?_ (hK _ _ (fun j u _ => LD.below (Below.refl _ _) j u) rfl hJ)⟩
      simp [execOp, Act.eval, go_sem, sx, hg]
     | 4, _ =>
      cases ho
      have sx := hF.slot (i := 3) rfl (by simp) (hV 3 (hpre ⟨3, .data⟩ (by simp) rfl))
      refine .inl ⟨wantedN hF rfl rfl (by simp) (hV 1 (hpre ⟨1, .guard⟩ (by simp) rfl)), fun K hK => rg_val (v := .bool false) ?_ (hK _ _ (fun j u _ => LD.below (Below.refl _ _) j u) rfl hJ)⟩
      simp [execOp, Act.eval, go_sem, sx]
     | 5, _ =>
      cases ho
      exact .inr ⟨unwantedN hF rfl rfl (by simp) (hV 4 (hpre ⟨4, .guard⟩ (by simp) rfl)), fun _ _ _ h => h, trivial⟩
     | 6, _ =>
      cases ho
      exact .inr ⟨unwantedN hF rfl rfl (by simp) (hV 4 (hpre ⟨4, .guard⟩ (by simp) rfl)), fun _ _ _ h => h, trivial⟩
     | 7, _ =>
      cases ho
      exact .inr ⟨unwantedN hF rfl rfl (by simp) (hV 4 (hpre ⟨4, .guard⟩ (by simp) rfl)), fun _ _ _ h => h, trivial⟩
     | 8, _ =>
      cases ho
      exact .inr ⟨unwantedN hF rfl rfl (by simp) (hV 4 (hpre ⟨4, .guard⟩ (by simp) rfl)), fun _ _ _ h => h, trivial⟩
     | 9, _ =>
      cases ho
      exact .inr ⟨unwantedN hF rfl rfl (by simp) (hV 4 (hpre ⟨4, .guard⟩ (by simp) rfl)), fun _ _ _ h => h, trivial⟩
     | 10, _ =>
      cases ho
      exact .inr ⟨unwantedN hF rfl rfl (by simp) (hV 4 (hpre ⟨4, .guard⟩ (by simp) rfl)), fun _ _ _ h => h, trivial⟩
     | 11, _ =>
      cases ho
      exact .inr ⟨unwantedN hF rfl rfl (by simp) (hV 4 (hpre ⟨4, .guard⟩ (by simp) rfl)), fun _ _ _ h => h, trivial⟩
     | 12, _ =>
      cases ho
      exact .inr ⟨unwantedN hF rfl rfl (by simp) (hV 4 (hpre ⟨4, .guard⟩ (by simp) rfl)), fun _ _ _ h => h, trivial⟩
     | 13, _ =>
      cases ho
      exact .inr ⟨unwantedN hF rfl rfl (by simp) (hV 4 (hpre ⟨4, .guard⟩ (by simp) rfl)), fun _ _ _ h => h, trivial⟩
     | 14, _ =>
      cases ho
      have sx := hF.slot (i := 4) rfl (by simp) (hV 4 (hpre ⟨4, .data⟩ (by simp) rfl))
      refine .inl ⟨wantedN hF rfl rfl (by simp) (hV 1 (hpre ⟨1, .guard⟩ (by simp) rfl)), fun K hK => rg_val (v := .bool false) ?_ (hK _ _ (fun j u _ => LD.below (Below.refl _ _) j u) rfl hJ)⟩
      simp [execOp, Act.eval, go_sem, sx]
     | 15, _ =>
      cases ho
      have sx := hF.slot (i := 14) rfl (by simp) (hV 14 (hpre ⟨14, .data⟩ (by simp) rfl))
      refine .inl ⟨wantedN hF rfl rfl (by simp) (hV 1 (hpre ⟨1, .guard⟩ (by simp) rfl)), fun K hK => rg_val (v := .bool false) ?_ (hK _ _ (fun j u _ => LD.below (Below.refl _ _) j u) rfl hJ)⟩
      simp [execOp, Act.eval, go_sem, sx]
     | 16, _ =>
      cases ho
      refine .inl ⟨wantedN hF rfl rfl (by simp) (hV 15 (hpre ⟨15, .guard⟩ (by simp) rfl)), fun K hK => rg_val (v := .int .i64 g) ?_ (hK _ _ (fun j u _ => LD.below (Below.refl _ _) j u) rfl hJ)⟩
      simp [execOp, Act.eval, go_sem, s20]
     | 17, _ =>
      cases ho
      have sx := hF.slot (i := 16) rfl (by simp) (hV 16 (hpre ⟨16, .data⟩ (by simp) rfl))
      refine .inl ⟨wantedN hF rfl rfl (by simp) (hV 15 (hpre ⟨15, .guard⟩ (by simp) rfl)), fun K hK => rg_val (v := .bool true) ?_ (hK _ _ (fun j u _ => LD.below (Below.refl _ _) j u) rfl hJ)⟩
      simp [execOp, Act.eval, go_sem, sx, hg]
     | 18, _ =>
      cases ho
      have sx := hF.slot (i := 17) rfl (by simp) (hV 17 (hpre ⟨17, .data⟩ (by simp) rfl))
      refine .inl ⟨wantedN hF rfl rfl (by simp) (hV 15 (hpre ⟨15, .guard⟩ (by simp) rfl)), fun K hK => rg_val (v := .bool true) ?_ (hK _ _ (fun j u _ => LD.below (Below.refl _ _) j u) rfl hJ)⟩
      simp [execOp, Act.eval, go_sem, sx]
     | 19, _ =>
      cases ho
      refine .inl ⟨wantedN hF rfl rfl (by simp) (hV 18 (hpre ⟨18, .guard⟩ (by simp) rfl)), fun K hK => rg_val (v := (.agg #[.slice a19 0 c19, .slice ta19 tks.length tc19])) ?_ (hK _ _ (fun j u _ => LD.below (Below.refl _ _) j u) rfl hJ)⟩
      simp [execOp, Act.eval, go_sem, s19, g19]
     | 20, _ =>
      cases ho
      have sx := hF.slot (i := 19) rfl (by simp) (hV 19 (hpre ⟨19, .data⟩ (by simp) rfl))
      refine .inl ⟨wantedN hF rfl rfl (by simp) (hV 18 (hpre ⟨18, .guard⟩ (by simp) rfl)), fun K hK => rg_enter (f := 19) (args := #[.agg #[.slice a19 0 c19, .slice ta19 tks.length tc19]]) (w' := W) ?_ (HTE.out W) ?_ ?_ ?_⟩
      ·simp [Act.eval, go_sem, sx]
      ·rintro v w'' ⟨e, hb⟩
       cases e
       exact hK _ _ (fun j u _ => LD.below hb j u) rfl (hJ.trans (hb.mono hWs))
      ·rintro chain w'' ⟨e, hb⟩
       cases e
      ·rintro w'' ⟨e, hb⟩
       cases e
     | 21, _ =>
      cases ho
      have sx := hF.slot (i := 20) rfl (by simp) (hV 20 (hpre ⟨20, .data⟩ (by simp) rfl))
      refine .inl ⟨wantedN hF rfl rfl (by simp) (hV 18 (hpre ⟨18, .guard⟩ (by simp) rfl)), fun K hK => rg_enter (f := 10) (args := #[.agg #[.slice a19 0 c19]]) (w' := W) ?_ (HAL2.out W hJ) ?_ ?_ ?_⟩
      ·simp [Act.eval, go_sem, sx]
      ·rintro v w'' ⟨⟨za, zc, zs, h1, h2, e, h3, _⟩, hb⟩
       cases e
       exact hK _ _ (fun j u _ => LD.below hb j u) ⟨za, zc, by rw [h1, HG0.out]; first | done | rfl⟩ (hJ.trans (hb.mono hWs))
      ·rintro chain w'' ⟨⟨za, zc, zs, h1, h2, e, h3, _⟩, hb⟩
       cases e
      ·rintro w'' ⟨⟨za, zc, zs, h1, h2, e, h3, _⟩, hb⟩
       cases e
     | 22, _ =>
      cases ho
      obtain ⟨za, zc, e21⟩ := hV 21 (hpre ⟨21, .data⟩ (by simp) rfl)
      have sx := hF.slot (i := 21) rfl (by simp) e21
      refine .inl ⟨wantedN hF rfl rfl (by simp) (hV 18 (hpre ⟨18, .guard⟩ (by simp) rfl)), fun K hK => rg_val (v := .int .i64 0) ?_ (hK _ _ (fun j u _ => LD.below (Below.refl _ _) j u) rfl hJ)⟩
      simp [execOp, Act.eval, go_sem, sx]
     | 23, _ =>
      cases ho
      have sx := hF.slot (i := 22) rfl (by simp) (hV 22 (hpre ⟨22, .data⟩ (by simp) rfl))
      refine .inl ⟨wantedN hF rfl rfl (by simp) (hV 18 (hpre ⟨18, .guard⟩ (by simp) rfl)), fun K hK => rg_val (v := .bool true) ?_ (hK _ _ (fun j u _ => LD.below (Below.refl _ _) j u) rfl hJ)⟩
      simp [execOp, Act.eval, go_sem, sx]
     | 24, _ =>
      cases ho
      have sx := hF.slot (i := 18) rfl (by simp) (hV 18 (hpre ⟨18, .data⟩ (by simp) rfl))
      have sy := hF.slot (i := 23) rfl (by simp) (hV 23 (hpre ⟨23, .data⟩ (by simp) rfl))
      refine .inl ⟨wantedN hF rfl rfl (by simp) (hV 15 (hpre ⟨15, .guard⟩ (by simp) rfl)), fun K hK => rg_val (v := .bool true) ?_ (hK _ _ (fun j u _ => LD.below (Below.refl _ _) j u) rfl hJ)⟩
      simp [execOp, Act.eval, go_sem, sx, sy]
     | 25, _ =>
      cases ho
      have sx := hF.slot (i := 15) rfl (by simp) (hV 15 (hpre ⟨15, .data⟩ (by simp) rfl))
      have sy := hF.slot (i := 24) rfl (by simp) (hV 24 (hpre ⟨24, .data⟩ (by simp) rfl))
      refine .inl ⟨wantedN hF rfl rfl (by simp) (hV 1 (hpre ⟨1, .guard⟩ (by simp) rfl)), fun K hK => rg_val (v := .bool true) ?_ (hK _ _ (fun j u _ => LD.below (Below.refl _ _) j u) rfl hJ)⟩
      simp [execOp, Act.eval, go_sem, sx, sy]
     | 26, _ =>
      cases ho
      have sx := hF.slot (i := 1) rfl (by simp) (hV 1 (hpre ⟨1, .data⟩ (by simp) rfl))
      have sy := hF.slot (i := 25) rfl (by simp) (hV 25 (hpre ⟨25, .data⟩ (by simp) rfl))
      refine .inl ⟨wanted_none rfl, fun K hK => rg_val (v := .bool true) ?_ (hK _ _ (fun j u _ => LD.below (Below.refl _ _) j u) rfl hJ)⟩
      simp [execOp, Act.eval, go_sem, sx, sy]
     | k + 27, hk => exact absurd hk (by omega)
    case fin =>
     intro A W hF hJ hV
     have e26 : A.tmps.getD 170 undef = .bool true := hV 26 (by omega)
     rw [hF.lit [144, 145, 146, 147, 148, 149, 150, 151, 152, 153, 154, 155, 156, 157, 158, 159, 160, 161, 162, 163, 164, 165, 166, 167, 168, 169, 170] (by kernel_rfl)]
     simp only [relaid, List.foldl_cons, List.foldl_nil, e26]
     generalize A.tmps.getD 144 undef = y144
     generalize A.tmps.getD 145 undef = y145
     generalize A.tmps.getD 146 undef = y146
     generalize A.tmps.getD 147 undef = y147
     generalize A.tmps.getD 148 undef = y148
     generalize A.tmps.getD 149 undef = y149
     generalize A.tmps.getD 150 undef = y150
     generalize A.tmps.getD 151 undef = y151
     generalize A.tmps.getD 152 undef = y152
     generalize A.tmps.getD 153 undef = y153
     generalize A.tmps.getD 154 undef = y154
     generalize A.tmps.getD 155 undef = y155
     generalize A.tmps.getD 156 undef = y156
     generalize A.tmps.getD 157 undef = y157
     generalize A.tmps.getD 158 undef = y158
     generalize A.tmps.getD 159 undef = y159
     generalize A.tmps.getD 160 undef = y160
     generalize A.tmps.getD 161 undef = y161
     generalize A.tmps.getD 162 undef = y162
     generalize A.tmps.getD 163 undef = y163
     generalize A.tmps.getD 164 undef = y164
     generalize A.tmps.getD 165 undef = y165
     generalize A.tmps.getD 166 undef = y166
     generalize A.tmps.getD 167 undef = y167
     generalize A.tmps.getD 168 undef = y168
     generalize A.tmps.getD 169 undef = y169
     simp only [List.setIfInBounds_toArray, List.set_cons_succ, List.set_cons_zero, List.drop_succ_cons]
     have HBW : Hid (Below w.heap.size w W) := belowTrans HBV.out hJ
     clear hV hF e26 hJ
     go_wp2
     go_ret
     exact ⟨rfl, HBW.out⟩
   ·subst hg
    have HSW : Hid (ofL (workT ys tks) = s) := by show _ = _; rw [← hys]; exact ofL_dl s
    have HBIG : Hid ((workT ys tks).length ≤ 70368744177664) := by show _ ≤ _; rw [← hys, dl_len]; have := HS.out; omega
    clear hys
    go_wp2_with fail
    refine wp_region_gx 27 27 171 (by kernel_rfl) ?ok ?forced rfl (fun _ => LC (.agg #[.slice a19 ys.length c19, .slice ta19 tks.length tc19]) a19 ys.length c19 s ys tks) (fun W => Below V4.heap.size V4 W) (belowDrew1 _) ?step ?fin
    case ok => kernel_rfl
    case forced => kernel_rfl
    case step =>
     intro i' oq hi' ho L A W hLi hpre hF hJ hV
     have s2 : A.tmps[2]? = some (.string s) := hF.at (by kernel_rfl) rfl
     have s19 : A.tmps[19]? = some (.pointer (some ⟨b19, 0, none⟩)) := hF.at (by kernel_rfl) rfl
     have s20 : A.tmps[20]? = some (.int .i64 0) := hF.at (by kernel_rfl) rfl
     have g19 := HL19.out W hJ
     have hWs := hJ.size
     match i', hi' with
     | 0, _ =>
      cases ho
      refine .inl ⟨wanted_none rfl, fun K hK => rg_enter (f := 5) (args := #[]) (w' := W) ?_ (AWK.out W) ?_ ?_ ?_⟩
      ·simp [Act.eval, go_sem]
      ·rintro v w'' ⟨e, hb⟩
       cases e
       exact hK _ _ (fun j u _ => LC.below hb j u) rfl (hJ.trans (hb.mono hWs))
      ·rintro chain w'' ⟨e, hb⟩
       cases e
      ·rintro w'' ⟨e, hb⟩
       cases e
     | 1, _ =>
      cases ho
      have sx := hF.slot (i := 0) rfl (by simp) (hV 0 (hpre ⟨0, .data⟩ (by simp) rfl))
      refine .inl ⟨wanted_none rfl, fun K hK => rg_val (v := .bool true) ?_ (hK _ _ (fun j u _ => LC.below (Below.refl _ _) j u) rfl hJ)⟩
      simp [execOp, Act.eval, go_sem, sx]
     | 2, _ =>
      cases ho
      refine .inl ⟨wantedN hF rfl rfl (by simp) (hV 1 (hpre ⟨1, .guard⟩ (by simp) rfl)), fun K hK => rg_val (v := .int .i64 0) ?_ (hK _ _ (fun j u _ => LC.below (Below.refl _ _) j u) rfl hJ)⟩
      simp [execOp, Act.eval, go_sem, s20]
     | 3, _ =>
      cases ho
      have sx := hF.slot (i := 2) rfl (by simp) (hV 2 (hpre ⟨2, .data⟩ (by simp) rfl))
      refine .inl ⟨wantedN hF rfl rfl (by simp) (hV 1 (hpre ⟨1, .guard⟩ (by simp) rfl)), fun K hK => rg_val (v := .bool true) ?_ (hK _ _ (fun j u _ => LC.below (Below.refl _ _) j u) rfl hJ)⟩
      simp [execOp, Act.eval, go_sem, sx]
     | 4, _ =>
      cases ho
      have sx := hF.slot (i := 3) rfl (by simp) (hV 3 (hpre ⟨3, .data⟩ (by simp) rfl))
      refine .inl ⟨wantedN hF rfl rfl (by simp) (hV 1 (hpre ⟨1, .guard⟩ (by simp) rfl)), fun K hK => rg_val (v := .bool true) ?_ (hK _ _ (fun j u _ => LC.below (Below.refl _ _) j u) rfl hJ)⟩
      simp [execOp, Act.eval, go_sem, sx]
     | 5, _ =>
      cases ho
      refine .inl ⟨wantedN hF rfl rfl (by simp) (hV 4 (hpre ⟨4, .guard⟩ (by simp) rfl)), fun K hK => rg_val (v := (.agg #[.slice a19 ys.length c19, .slice ta19 tks.length tc19])) ?_ (hK _ _ (fun j u _ => LC.below (Below.refl _ _) j u) rfl hJ)⟩
      simp [execOp, Act.eval, go_sem, s19, g19]
     | 6, _ =>
      cases ho
      have sx := hF.slot (i := 5) rfl (by simp) (hV 5 (hpre ⟨5, .data⟩ (by simp) rfl))
      refine .inl ⟨wantedN hF rfl rfl (by simp) (hV 4 (hpre ⟨4, .guard⟩ (by simp) rfl)), fun K hK => rg_enter (f := 19) (args := #[.agg #[.slice a19 ys.length c19, .slice ta19 tks.length tc19]]) (w' := W) ?_ (HTE.out W) ?_ ?_ ?_⟩
      ·simp [Act.eval, go_sem, sx]
      ·rintro v w'' ⟨e, hb⟩
       cases e
       exact hK _ _ (fun j u _ => LC.below hb j u) rfl (hJ.trans (hb.mono hWs))
      ·rintro chain w'' ⟨e, hb⟩
       cases e
      ·rintro w'' ⟨e, hb⟩
       cases e
     | 7, _ =>
      cases ho
      have sx := hF.slot (i := 6) rfl (by simp) (hV 6 (hpre ⟨6, .data⟩ (by simp) rfl))
      refine .inl ⟨wantedN hF rfl rfl (by simp) (hV 4 (hpre ⟨4, .guard⟩ (by simp) rfl)), fun K hK => rg_enter (f := 10) (args := #[.agg #[.slice a19 ys.length c19]]) (w' := W) ?_ (HAL2.out W hJ) ?_ ?_ ?_⟩
      ·simp [Act.eval, go_sem, sx]
      ·rintro v w'' ⟨⟨za, zc, zs, h1, h2, e, h3, _⟩, hb⟩
       cases e
       exact hK _ _ (fun j u _ => LC.below hb j u) ⟨za, zc, zs, rfl, ⟨h1, h2, h3⟩⟩ (hJ.trans (hb.mono hWs))
      ·rintro chain w'' ⟨⟨za, zc, zs, h1, h2, e, h3, _⟩, hb⟩
       cases e
      ·rintro w'' ⟨⟨za, zc, zs, h1, h2, e, h3, _⟩, hb⟩
       cases e
     | 8, _ =>
      cases ho
      refine .inl ⟨wantedN hF rfl rfl (by simp) (hV 4 (hpre ⟨4, .guard⟩ (by simp) rfl)), fun K hK => rg_val (v := (.agg #[.slice a19 ys.length c19, .slice ta19 tks.length tc19])) ?_ (hK _ _ (fun j u _ => LC.below (Below.refl _ _) j u) rfl hJ)⟩
      simp [execOp, Act.eval, go_sem, s19, g19]
     | 9, _ =>
      cases ho
      have sx := hF.slot (i := 8) rfl (by simp) (hV 8 (hpre ⟨8, .data⟩ (by simp) rfl))
      refine .inl ⟨wantedN hF rfl rfl (by simp) (hV 4 (hpre ⟨4, .guard⟩ (by simp) rfl)), fun K hK => rg_enter (f := 17) (args := #[.agg #[.slice a19 ys.length c19, .slice ta19 tks.length tc19]]) (w' := W) ?_ (HTK2.out W hJ) ?_ ?_ ?_⟩
      ·simp [Act.eval, go_sem, sx]
      ·rintro v w'' ⟨⟨v', e, ho⟩, hb⟩
       obtain ⟨sa, sc, rfl⟩ := ownShape ho
       cases e
       exact hK _ _ (fun j u _ => LC.below hb j u) ⟨sa, sc, rfl, tracksH_row ho⟩ (hJ.trans (hb.mono hWs))
      ·rintro chain w'' ⟨⟨v', e, ho⟩, hb⟩
       cases e
      ·rintro w'' ⟨⟨v', e, ho⟩, hb⟩
       cases e
     | 10, _ =>
      cases ho
      obtain ⟨za, zc, zs, e3, h3⟩ := hV 7 (hpre ⟨7, .data⟩ (by simp) rfl)
      have sx := hF.slot (i := 7) rfl (by simp) e3
      obtain ⟨sa, sc, e5, h5⟩ := hV 9 (hpre ⟨9, .data⟩ (by simp) rfl)
      have sy := hF.slot (i := 9) rfl (by simp) e5
      refine .inl ⟨wantedN hF rfl rfl (by simp) (hV 4 (hpre ⟨4, .guard⟩ (by simp) rfl)), fun K hK => rg_val (v := .agg #[.slice za zs.length zc, .slice sa tks.length sc]) ?_ (hK _ _ (fun j u _ => LC.below (Below.refl _ _) j u) ⟨za, zc, zs, sa, sc, rfl, h3, h5⟩ hJ)⟩
      simp [execOp, Act.eval, go_sem, sx, sy]
     | 11, _ =>
      cases ho
      obtain ⟨za, zc, zs, sa, sc, e6, h6, h7⟩ := hV 10 (hpre ⟨10, .data⟩ (by simp) rfl)
      have sx := hF.slot (i := 10) rfl (by simp) e6
      refine .inl ⟨wantedN hF rfl rfl (by simp) (hV 4 (hpre ⟨4, .guard⟩ (by simp) rfl)), fun K hK => rg_enter (f := 16) (args := #[.agg #[.slice za zs.length zc, .slice sa tks.length sc]]) (w' := W) ?_ (R33_WorkText za sa zc sc zs tks W h6.2.2 (by rw [h6.1]; exact HYL.out) h7 HTL.out HPB.out (by rw [workT_keys h6.2.1]; exact HBIG.out)) ?_ ?_ ?_⟩
      ·simp [Act.eval, go_sem, sx]
      ·rintro v w'' ⟨e, hb⟩
       cases e
       exact hK _ _ (fun j u _ => LC.below hb j u) (by show _ = _; rw [workT_keys h6.2.1, HSW.out]; first | done | rfl) (hJ.trans (hb.mono hWs))
      ·rintro chain w'' ⟨e, hb⟩
       cases e
      ·rintro w'' ⟨e, hb⟩
       cases e
     | 12, _ =>
      cases ho
      refine .inl ⟨wantedN hF rfl rfl (by simp) (hV 4 (hpre ⟨4, .guard⟩ (by simp) rfl)), fun K hK => rg_val (v := .string s) ?_ (hK _ _ (fun j u _ => LC.below (Below.refl _ _) j u) rfl hJ)⟩
      simp [execOp, Act.eval, go_sem, s2]
     | 13, _ =>
      cases ho
      have sx := hF.slot (i := 11) rfl (by simp) (hV 11 (hpre ⟨11, .data⟩ (by simp) rfl))
      have sy := hF.slot (i := 12) rfl (by simp) (hV 12 (hpre ⟨12, .data⟩ (by simp) rfl))
      refine .inl ⟨wantedN hF rfl rfl (by simp) (hV 4 (hpre ⟨4, .guard⟩ (by simp) rfl)), fun K hK => rg_val (v := .bool true) ?_ (hK _ _ (fun j u _ => LC.below (Below.refl _ _) j u) rfl hJ)⟩
      simp [execOp, Act.eval, go_sem, sx, sy]
     | 14, _ =>
      cases ho
      have sx := hF.slot (i := 4) rfl (by simp) (hV 4 (hpre ⟨4, .data⟩ (by simp) rfl))
      have sy := hF.slot (i := 13) rfl (by simp) (hV 13 (hpre ⟨13, .data⟩ (by simp) rfl))
      refine .inl ⟨wantedN hF rfl rfl (by simp) (hV 1 (hpre ⟨1, .guard⟩ (by simp) rfl)), fun K hK => rg_val (v := .bool true) ?_ (hK _ _ (fun j u _ => LC.below (Below.refl _ _) j u) rfl hJ)⟩
      simp [execOp, Act.eval, go_sem, sx, sy]
     | 15, _ =>
      cases ho
      have sx := hF.slot (i := 14) rfl (by simp) (hV 14 (hpre ⟨14, .data⟩ (by simp) rfl))
      refine .inl ⟨wantedN hF rfl rfl (by simp) (hV 1 (hpre ⟨1, .guard⟩ (by simp) rfl)), fun K hK => rg_val (v := .bool true) ?_ (hK _ _ (fun j u _ => LC.below (Below.refl _ _) j u) rfl hJ)⟩
      simp [execOp, Act.eval, go_sem, sx]
     | 16, _ =>
      cases ho
      exact .inr ⟨unwantedN hF rfl rfl (by simp) (hV 15 (hpre ⟨15, .guard⟩ (by simp) rfl)), fun _ _ _ h => h, rfl⟩
     | 17, _ =>
      cases ho
      exact .inr ⟨unwantedN hF rfl rfl (by simp) (hV 15 (hpre ⟨15, .guard⟩ (by simp) rfl)), fun _ _ _ h => h, rfl⟩
     | 18, _ =>
      cases ho
      exact .inr ⟨unwantedN hF rfl rfl (by simp) (hV 15 (hpre ⟨15, .guard⟩ (by simp) rfl)), fun _ _ _ h => h, rfl⟩
     | 19, _ =>
      cases ho
      exact .inr ⟨unwantedU hF rfl rfl (by simp) (hV 18 (hpre ⟨18, .guard⟩ (by simp) rfl)), fun _ _ _ h => h, trivial⟩
     | 20, _ =>
      cases ho
      exact .inr ⟨unwantedU hF rfl rfl (by simp) (hV 18 (hpre ⟨18, .guard⟩ (by simp) rfl)), fun _ _ _ h => h, trivial⟩
     | 21, _ =>
      cases ho
      exact .inr ⟨unwantedU hF rfl rfl (by simp) (hV 18 (hpre ⟨18, .guard⟩ (by simp) rfl)), fun _ _ _ h => h, trivial⟩
     | 22, _ =>
      cases ho
      exact .inr ⟨unwantedU hF rfl rfl (by simp) (hV 18 (hpre ⟨18, .guard⟩ (by simp) rfl)), fun _ _ _ h => h, trivial⟩
     | 23, _ =>
      cases ho
      exact .inr ⟨unwantedU hF rfl rfl (by simp) (hV 18 (hpre ⟨18, .guard⟩ (by simp) rfl)), fun _ _ _ h => h, trivial⟩
     | 24, _ =>
      cases ho
      exact .inr ⟨unwantedN hF rfl rfl (by simp) (hV 15 (hpre ⟨15, .guard⟩ (by simp) rfl)), fun _ _ _ h => h, trivial⟩
     | 25, _ =>
      cases ho
      have sx := hF.slot (i := 15) rfl (by simp) (hV 15 (hpre ⟨15, .data⟩ (by simp) rfl))
      refine .inl ⟨wantedN hF rfl rfl (by simp) (hV 1 (hpre ⟨1, .guard⟩ (by simp) rfl)), fun K hK => rg_val (v := .bool true) ?_ (hK _ _ (fun j u _ => LC.below (Below.refl _ _) j u) rfl hJ)⟩
      simp [execOp, Act.eval, go_sem, sx]
     | 26, _ =>
      cases ho
      have sx := hF.slot (i := 1) rfl (by simp) (hV 1 (hpre ⟨1, .data⟩ (by simp) rfl))
      have sy := hF.slot (i := 25) rfl (by simp) (hV 25 (hpre ⟨25, .data⟩ (by simp) rfl))
      refine .inl ⟨wanted_none rfl, fun K hK => rg_val (v := .bool true) ?_ (hK _ _ (fun j u _ => LC.below (Below.refl _ _) j u) rfl hJ)⟩
      simp [execOp, Act.eval, go_sem, sx, sy]
     | k + 27, hk => exact absurd hk (by omega)
    case fin =>
     intro A W hF hJ hV
     have e26 : A.tmps.getD 170 undef = .bool true := hV 26 (by omega)
     rw [hF.lit [144, 145, 146, 147, 148, 149, 150, 151, 152, 153, 154, 155, 156, 157, 158, 159, 160, 161, 162, 163, 164, 165, 166, 167, 168, 169, 170] (by kernel_rfl)]
     simp only [relaid, List.foldl_cons, List.foldl_nil, e26]
     generalize A.tmps.getD 144 undef = y144
     generalize A.tmps.getD 145 undef = y145
     generalize A.tmps.getD 146 undef = y146
     generalize A.tmps.getD 147 undef = y147
     generalize A.tmps.getD 148 undef = y148
     generalize A.tmps.getD 149 undef = y149
     generalize A.tmps.getD 150 undef = y150
     generalize A.tmps.getD 151 undef = y151
     generalize A.tmps.getD 152 undef = y152
     generalize A.tmps.getD 153 undef = y153
     generalize A.tmps.getD 154 undef = y154
     generalize A.tmps.getD 155 undef = y155
     generalize A.tmps.getD 156 undef = y156
     generalize A.tmps.getD 157 undef = y157
     generalize A.tmps.getD 158 undef = y158
     generalize A.tmps.getD 159 undef = y159
     generalize A.tmps.getD 160 undef = y160
     generalize A.tmps.getD 161 undef = y161
     generalize A.tmps.getD 162 undef = y162
     generalize A.tmps.getD 163 undef = y163
     generalize A.tmps.getD 164 undef = y164
     generalize A.tmps.getD 165 undef = y165
     generalize A.tmps.getD 166 undef = y166
     generalize A.tmps.getD 167 undef = y167
     generalize A.tmps.getD 168 undef = y168
     generalize A.tmps.getD 169 undef = y169
     simp only [List.setIfInBounds_toArray, List.set_cons_succ, List.set_cons_zero, List.drop_succ_cons]
     have HBW : Hid (Below w.heap.size w W) := belowTrans HBV.out hJ
     clear hV hF e26 hJ
     go_wp2
     go_ret
     exact ⟨rfl, HBW.out⟩
  clear aK20
  have hv18 := HV18.out
  subst hv18
  rcases HFC.out with ⟨hf, hx0⟩ | ⟨hf, hxs⟩
  ·have HX0 : Hid (xs.length = 0) := hx0
   clear hx0
   go_wp2_with fail
   simp only [← hb19, ← hV2]
   clear hb19 hV2
   refine Calls.mono (tree_All a17 c17 xs V2 (HFX.out V2 HJ2.out) HXL.out HXN.out) ?_
   rintro e V4 ⟨⟨za, zc, zs, q1, q2, rfl, q3, q4⟩, hb4⟩
   have HJ4 : Hid (Below V2.heap.size V2 V4) := hb4
   have hz0 : zs.length = 0 := by rw [q1]; exact HX0.out
   clear q1 q2 q3 q4 hb4 x17
   go_wp2_with fail
   apply T22.out
   exact HJ4.out
  ·subst hf
   have HXS : Hid (dl s = treeT xs) := hxs
   clear hxs
   go_wp2_with fail
   simp only [← hb19, ← hV2]
   clear hb19 hV2
   refine Calls.mono (tree_All a17 c17 xs V2 (HFX.out V2 HJ2.out) HXL.out HXN.out) ?_
   rintro e v3 ⟨⟨za, zc, zs, q1, q2, rfl, q3, q4⟩, hb3⟩
   have HZS : Hid (ofL (treeT zs) = s) := by show _ = _; rw [treeT_keys q2, ← HXS.out]; exact ofL_dl s
   have HRT : Hid (Calls Tryz.prog 9 #[.slice za zs.length zc] v3 fun e w' => e = .returned (.string s) ∧ Below v3.heap.size v3 w') := by
    have := R33_TreeText za zc zs v3 q3 (by rw [q1]; exact HXN.out) (by rw [treeT_keys q2, ← HXS.out, dl_len]; have := HS.out; omega)
    rw [HZS.out] at this
    exact this
   have HJ3 : Hid (Below V2.heap.size V2 v3) := hb3
   clear q1 q2 q3 q4 hb3 x17
   go_wp2_with fail
   refine Calls.mono HRT.out ?_
   rintro e V4 ⟨rfl, hb4⟩
   have HJ4 : Hid (Below V2.heap.size V2 V4) := belowTrans HJ3.out hb4
   clear hb4
   go_wp2_with fail
   apply T22.out
   exact HJ4.out
 clear aK2
 have hv8 := HV8.out
 subst hv8
 rcases HUN8.out with hen | ⟨rfl, gfs, rfl, hok, hgood, hF⟩
 ·have HB : Hid (Below w.heap.size w (w2.alloc (.cells #[.slice a' n7 c'] 27))) := belowTrans HB2.out (belowAlloc _ _)
  go_wp2_with fail
  apply TAIL.out
  exact HB.out
 ·obtain ⟨hGT, hTLN, hPS⟩ := goodT_light HL.out hok hgood
  have HGT : Hid (GoodT gfs) := hGT
  have HTLN : Hid ((treeT gfs).length ≤ 800000) := hTLN
  have HPS : Hid (∀ g, g ∈ gfs → g.path.size ≤ 300) := hPS
  have HOK : Hid (OfOk fs gfs) := hok
  have hgl := hgood.len
  clear hGT hTLN hPS hgood
  obtain ⟨T, hT⟩ : ∃ T, T = ofL (treeT gfs) := ⟨_, rfl⟩
  have HT : Hid (ofL (treeT gfs) = T) := hT.symm
  have HTD : Hid (dl T = treeT gfs ∧ T.size ≤ 1000000) := ⟨by rw [hT]; exact dl_ofL _, by rw [hT, ofL_size]; have := HTLN.out; omega⟩
  clear hT
  obtain ⟨b7, hb7⟩ : ∃ b7, b7 = w2.heap.size := ⟨_, rfl⟩
  obtain ⟨W3, hW3⟩ : ∃ W3, W3 = w2.alloc (.cells #[.slice a' gfs.length c'] 27) := ⟨_, rfl⟩
  have hA3 : Below w2.heap.size w2 W3 := by rw [hW3]; exact belowAlloc _ _
  have HB3 : Hid (Below w.heap.size w W3) := belowTrans HB2.out hA3
  have HD7 : Hid (W3.heap[b7]? = some (.cells #[.slice a' gfs.length c'] 27 (0, 0))) := by show _ = _; rw [hW3, hb7]; exact (MapKept.heap_alloc _ _).1
  have HFW : Hid (∀ W, Below W3.heap.size W3 W → FilesH W a' gfs) := fun W h => (hF.below hA3).below h
  have HX7 : Hid (∀ W, Below W3.heap.size W3 W → W.cell? ⟨b7, 0, none⟩ = some (.slice a' gfs.length c')) := fun W h => by
   have e1 := (h.block b7 (Array.getElem?_eq_some_iff.1 HD7.out).1).trans HD7.out
   simp [World.cell?, e1]
  have HGL : Hid (gfs.length ≤ 1000000) := by show _ ≤ _; omega
  have HLT : Hid (gfs.length < 9223372036854775808) := by show _ < _; omega
  have HBIG : Hid ((treeT gfs).length ≤ 70368744177664) := by have := HTLN.out; show _ ≤ _; omega
  have HTT' : Hid (∀ W, Below W3.heap.size W3 W → Calls Tryz.prog 8 #[.agg #[.slice a' gfs.length c']] W fun e w' => e = .returned (.string T) ∧ Below W.heap.size W w') := fun W h => by
   have := tree_Text a' c' gfs W (HFW.out W h) HOK.out.ok.lines HGL.out HBIG.out
   rw [HT.out] at this
   exact this
  have HAL : Hid (∀ W, Below W3.heap.size W3 W → _) := fun W h => tree_All a' c' gfs W (HFW.out W h) HOK.out.ok.lines HGL.out
  clear hF hok hA3 hgl
  go_wp2_with fail
  simp only [← hb7, ← hW3]
  clear hW3 hb7
  refine Calls.mono (HTT'.out W3 (Below.refl _ _)) ?_
  rintro e w4 ⟨rfl, hb4⟩
  have HB4 : Hid (Below w.heap.size w w4) := belowTrans HB3.out hb4
  have HJ4 : Hid (Below W3.heap.size W3 w4) := hb4
  clear hb4
  go_wp2_with fail
  refine Calls.mono (save_TreeOf T w4 HTD.out.2 (HM.out.below HB4.out) (HU.out.below HB4.out)) ?_
  rintro e w5 ⟨hret, hb5⟩
  rcases hret with ⟨n, _, _, hng⟩ | ⟨a9, c9, fs9, h9a, h9b, h9c, rfl, h9d⟩
  ·exact absurd HTD.out.1 (hng gfs HGT.out)
  obtain ⟨b9, hb9⟩ : ∃ b9, b9 = w5.heap.size := ⟨_, rfl⟩
  obtain ⟨W5, hW5⟩ : ∃ W5, W5 = w5.alloc (.cells #[.slice a9 fs9.length c9] 27) := ⟨_, rfl⟩
  have hA5 : Below w5.heap.size w5 W5 := by rw [hW5]; exact belowAlloc _ _
  have HJ5 : Hid (Below W3.heap.size W3 W5) := belowTrans (belowTrans HJ4.out hb5) hA5
  have HJW : Hid (∀ W, Below W5.heap.size W5 W → Below W3.heap.size W3 W) := fun W h => belowTrans HJ5.out h
  have HD9 : Hid (W5.heap[b9]? = some (.cells #[.slice a9 fs9.length c9] 27 (0, 0))) := by show _ = _; rw [hW5, hb9]; exact (MapKept.heap_alloc _ _).1
  have HX9 : Hid (∀ W, Below W5.heap.size W5 W → W.cell? ⟨b9, 0, none⟩ = some (.slice a9 fs9.length c9)) := fun W h => by
   have e1 := (h.block b9 (Array.getElem?_eq_some_iff.1 HD9.out).1).trans HD9.out
   simp [World.cell?, e1]
  have HF9 : Hid (∀ W, Below W5.heap.size W5 W → FilesH W a9 fs9) := fun W h => (h9d.below hA5).below h
  have HKY : Hid (gfs.map FileV.key = fs9.map FileV.key) := treeT_inj HGT.out.total (by rw [← HTD.out.1, h9c])
  clear h9a h9b h9c h9d hb5 hA5
  go_wp2_with fail
  simp only [← hb9, ← hW5]
  clear hb9 hW5
  refine wp_region_gx 15 15 171 (by kernel_rfl) ?ok ?forced rfl (fun _ => LA a' a9 gfs.length c' fs9.length c9 T gfs) (fun W => Below W5.heap.size W5 W) (belowDrew1 _) ?step ?fin
  case ok => kernel_rfl
  case forced => kernel_rfl
  case step =>
   intro i' oq hi' ho L A W hLi hpre hF hJ hV
   have s7 : A.tmps[7]? = some (.pointer (some ⟨b7, 0, none⟩)) := hF.at (by kernel_rfl) rfl
   have s9 : A.tmps[9]? = some (.pointer (some ⟨b9, 0, none⟩)) := hF.at (by kernel_rfl) rfl
   have s10 : A.tmps[10]? = some (.int .i64 0) := hF.at (by kernel_rfl) rfl
   have f7 : W.cell? ⟨b7, 0, none⟩ = some (.slice a' gfs.length c') := HX7.out W (HJW.out W hJ)
   have f9 : W.cell? ⟨b9, 0, none⟩ = some (.slice a9 fs9.length c9) := HX9.out W hJ
   have hWs := hJ.size
   match i', hi' with
   | 0, _ =>
    cases ho
    refine .inl ⟨wanted_none rfl, fun K hK => rg_val (v := .agg #[.slice a' gfs.length c']) ?_ (hK _ _ (fun j u _ => LA.below (Below.refl _ _) j u) rfl hJ)⟩
    simp [execOp, Act.eval, go_sem, s7, f7]
   | 1, _ =>
    cases ho
    have sx := hF.slot (i := 0) rfl (by simp) (hV 0 (hpre ⟨0, .data⟩ (by simp) rfl))
    refine .inl ⟨wanted_none rfl, fun K hK => rg_enter (f := 8) (args := #[.agg #[.slice a' gfs.length c']]) (w' := W) ?_ (HTT'.out W (HJW.out W hJ)) ?_ ?_ ?_⟩
    ·simp [Act.eval, go_sem, sx]
    ·rintro v w'' ⟨e, hb⟩
     cases e
     exact hK _ _ (fun j u _ => LA.below hb j u) rfl (hJ.trans (hb.mono hWs))
    ·rintro chain w'' ⟨e, hb⟩
     cases e
    ·rintro w'' ⟨e, hb⟩
     cases e
   | 2, _ =>
    cases ho
    refine .inl ⟨wanted_none rfl, fun K hK => rg_val (v := .agg #[.slice a' gfs.length c']) ?_ (hK _ _ (fun j u _ => LA.below (Below.refl _ _) j u) rfl hJ)⟩
    simp [execOp, Act.eval, go_sem, s7, f7]
   | 3, _ =>
    cases ho
    have sx := hF.slot (i := 2) rfl (by simp) (hV 2 (hpre ⟨2, .data⟩ (by simp) rfl))
    refine .inl ⟨wanted_none rfl, fun K hK => rg_enter (f := 10) (args := #[.agg #[.slice a' gfs.length c']]) (w' := W) ?_ (HAL.out W (HJW.out W hJ)) ?_ ?_ ?_⟩
    ·simp [Act.eval, go_sem, sx]
    ·rintro v w'' ⟨⟨za, zc, zs, h1, h2, e, h3, _⟩, hb⟩
     cases e
     exact hK _ _ (fun j u _ => LA.below hb j u) ⟨za, zc, zs, rfl, ⟨h1, h2, h3⟩⟩ (hJ.trans (hb.mono hWs))
    ·rintro chain w'' ⟨⟨za, zc, zs, h1, h2, e, h3, _⟩, hb⟩
     cases e
    ·rintro w'' ⟨⟨za, zc, zs, h1, h2, e, h3, _⟩, hb⟩
     cases e
   | 4, _ =>
    cases ho
    obtain ⟨za, zc, zs, e3, h3⟩ := hV 3 (hpre ⟨3, .data⟩ (by simp) rfl)
    have sx := hF.slot (i := 3) rfl (by simp) e3
    refine .inl ⟨wanted_none rfl, fun K hK => rg_enter (f := 9) (args := #[.slice za zs.length zc]) (w' := W) ?_ (R33_TreeText za zc zs W h3.2.2 (by rw [h3.1]; exact HGL.out) (by rw [treeT_keys h3.2.1]; exact HBIG.out)) ?_ ?_ ?_⟩
    ·simp [Act.eval, go_sem, sx]
    ·rintro v w'' ⟨e, hb⟩
     cases e
     exact hK _ _ (fun j u _ => LA.below hb j u) (by show _ = _; rw [treeT_keys h3.2.1, HT.out]; first | done | rfl) (hJ.trans (hb.mono hWs))
    ·rintro chain w'' ⟨e, hb⟩
     cases e
    ·rintro w'' ⟨e, hb⟩
     cases e
   | 5, _ =>
    cases ho
    have sx := hF.slot (i := 1) rfl (by simp) (hV 1 (hpre ⟨1, .data⟩ (by simp) rfl))
    have sy := hF.slot (i := 4) rfl (by simp) (hV 4 (hpre ⟨4, .data⟩ (by simp) rfl))
    refine .inl ⟨wanted_none rfl, fun K hK => rg_val (v := .bool false) ?_ (hK _ _ (fun j u _ => LA.below (Below.refl _ _) j u) rfl hJ)⟩
    simp [execOp, Act.eval, go_sem, sx, sy]
   | 6, _ =>
    cases ho
    have sx := hF.slot (i := 5) rfl (by simp) (hV 5 (hpre ⟨5, .data⟩ (by simp) rfl))
    refine .inl ⟨wanted_none rfl, fun K hK => rg_val (v := .bool false) ?_ (hK _ _ (fun j u _ => LA.below (Below.refl _ _) j u) rfl hJ)⟩
    simp [execOp, Act.eval, go_sem, sx]
   | 7, _ =>
    cases ho
    refine .inl ⟨wantedN hF rfl rfl (by simp) (hV 6 (hpre ⟨6, .guard⟩ (by simp) rfl)), fun K hK => rg_val (v := .int .i64 0) ?_ (hK _ _ (fun j u _ => LA.below (Below.refl _ _) j u) rfl hJ)⟩
    simp [execOp, Act.eval, go_sem, s10]
   | 8, _ =>
    cases ho
    have sx := hF.slot (i := 7) rfl (by simp) (hV 7 (hpre ⟨7, .data⟩ (by simp) rfl))
    refine .inl ⟨wantedN hF rfl rfl (by simp) (hV 6 (hpre ⟨6, .guard⟩ (by simp) rfl)), fun K hK => rg_val (v := .bool false) ?_ (hK _ _ (fun j u _ => LA.below (Below.refl _ _) j u) rfl hJ)⟩
    simp [execOp, Act.eval, go_sem, sx]
   | 9, _ =>
    cases ho
    have sx := hF.slot (i := 6) rfl (by simp) (hV 6 (hpre ⟨6, .data⟩ (by simp) rfl))
    have sy := hF.slot (i := 8) rfl (by simp) (hV 8 (hpre ⟨8, .data⟩ (by simp) rfl))
    refine .inl ⟨wanted_none rfl, fun K hK => rg_val (v := .bool false) ?_ (hK _ _ (fun j u _ => LA.below (Below.refl _ _) j u) rfl hJ)⟩
    simp [execOp, Act.eval, go_sem, sx, sy]
   | 10, _ =>
    cases ho
    have sx := hF.slot (i := 9) rfl (by simp) (hV 9 (hpre ⟨9, .data⟩ (by simp) rfl))
    refine .inl ⟨wanted_none rfl, fun K hK => rg_val (v := .bool false) ?_ (hK _ _ (fun j u _ => LA.below (Below.refl _ _) j u) rfl hJ)⟩
    simp [execOp, Act.eval, go_sem, sx]
   | 11, _ =>
    cases ho
    refine .inl ⟨wantedN hF rfl rfl (by simp) (hV 10 (hpre ⟨10, .guard⟩ (by simp) rfl)), fun K hK => rg_val (v := .agg #[.slice a' gfs.length c']) ?_ (hK _ _ (fun j u _ => LA.below (Below.refl _ _) j u) rfl hJ)⟩
    simp [execOp, Act.eval, go_sem, s7, f7]
   | 12, _ =>
    cases ho
    refine .inl ⟨wantedN hF rfl rfl (by simp) (hV 10 (hpre ⟨10, .guard⟩ (by simp) rfl)), fun K hK => rg_val (v := .agg #[.slice a9 fs9.length c9]) ?_ (hK _ _ (fun j u _ => LA.below (Below.refl _ _) j u) rfl hJ)⟩
    simp [execOp, Act.eval, go_sem, s9, f9]
   | 13, _ =>
    cases ho
    have sx := hF.slot (i := 11) rfl (by simp) (hV 11 (hpre ⟨11, .data⟩ (by simp) rfl))
    have sy := hF.slot (i := 12) rfl (by simp) (hV 12 (hpre ⟨12, .data⟩ (by simp) rfl))
    refine .inl ⟨wantedN hF rfl rfl (by simp) (hV 10 (hpre ⟨10, .guard⟩ (by simp) rfl)), fun K hK => rg_enter (f := 11) (args := #[.agg #[.slice a' gfs.length c'], .agg #[.slice a9 fs9.length c9]]) (w' := W) ?_ (tree_Same a' a9 c' c9 gfs fs9 W (HFW.out W (HJW.out W hJ)) (HF9.out W hJ) HKY.out HLT.out) ?_ ?_ ?_⟩
    ·simp [Act.eval, go_sem, sx, sy]
    ·rintro v w'' ⟨e, hb⟩
     cases e
     exact hK _ _ (fun j u _ => LA.below hb j u) rfl (hJ.trans (hb.mono hWs))
    ·rintro chain w'' ⟨e, hb⟩
     cases e
    ·rintro w'' ⟨e, hb⟩
     cases e
   | 14, _ =>
    cases ho
    have sx := hF.slot (i := 13) rfl (by simp) (hV 13 (hpre ⟨13, .data⟩ (by simp) rfl))
    refine .inl ⟨wantedN hF rfl rfl (by simp) (hV 10 (hpre ⟨10, .guard⟩ (by simp) rfl)), fun K hK => rg_val (v := .bool false) ?_ (hK _ _ (fun j u _ => LA.below (Below.refl _ _) j u) rfl hJ)⟩
    simp [execOp, Act.eval, go_sem, sx]
  case fin =>
   intro A W hF hJ hV
   have e9 : A.tmps.getD 57 undef = .bool false := hV 9 (by omega)
   have e14 : A.tmps.getD 62 undef = .bool false := hV 14 (by omega)
   have e10 : A.tmps.getD 58 undef = .bool false := hV 10 (by omega)
   rw [hF.lit [48, 49, 50, 51, 52, 53, 54, 55, 56, 57, 58, 59, 60, 61, 62] (by kernel_rfl)]
   simp only [relaid, List.foldl_cons, List.foldl_nil, e9, e14, e10]
   generalize A.tmps.getD 48 undef = y48
   generalize A.tmps.getD 49 undef = y49
   generalize A.tmps.getD 50 undef = y50
   generalize A.tmps.getD 51 undef = y51
   generalize A.tmps.getD 52 undef = y52
   generalize A.tmps.getD 53 undef = y53
   generalize A.tmps.getD 54 undef = y54
   generalize A.tmps.getD 55 undef = y55
   generalize A.tmps.getD 56 undef = y56
   generalize A.tmps.getD 59 undef = y59
   generalize A.tmps.getD 60 undef = y60
   generalize A.tmps.getD 61 undef = y61
   simp only [List.setIfInBounds_toArray, List.set_cons_succ, List.set_cons_zero, List.drop_succ_cons]
   have HBW : Hid (Below W5.heap.size W5 W) := hJ
   clear hV hF e9 e14 e10 hJ
   rename World => W6
   have HB6 : Hid (Below w.heap.size w W6) := belowTrans HB3.out (HJW.out W6 HBW.out)
   have HJ6 : Hid (Below W3.heap.size W3 W6) := HJW.out W6 HBW.out
   have HTA : Hid (TracksH w ta ts) := HTT.out
   go_wp2_with fail
   go_loopg [11, 12] ts.length (fun kx s11 s12 wr => ∃ (i : Nat) (r : Bool), s11 = .bool r ∧ s12 = .int .i64 i ∧ i ≤ ts.length ∧ ts.length - i ≤ kx ∧ Hid (r = (ts.take i).all (fun t => idR t.patch t.n) ∧ Below W6.heap.size W6 wr))
   case atStart => exact ⟨0, true, rfl, rfl, Nat.zero_le _, Nat.le_refl _, by simp, Below.refl _ _⟩
   case round =>
    obtain ⟨i, r, rfl, rfl, hin, hkx, REL⟩ := hrel
    have HBR : Hid (Below w.heap.size w wr) := belowTrans HB6.out REL.out.2
    have HJR : Hid (Below W3.heap.size W3 wr) := belowTrans HJ6.out REL.out.2
    by_cases hil : i < ts.length
    ·obtain ⟨b, o, rfl, hN⟩ : ∃ b o, ta = some ⟨b, o, none⟩ ∧ TracksAt w b o ts := HTA.out.resolve_left (by omega)
     obtain ⟨X, hX⟩ : ∃ X, ts[i]? = some X := ⟨_, List.getElem?_eq_getElem hil⟩
     have hXm := List.mem_of_getElem? hX
     obtain ⟨e0, e1, e2⟩ := (hN.below HBR.out).cell i X hX
     have hiz : (i : Int) < (ts.length : Int) := by omega
     have hnn : ¬ (i : Int) < 0 := by omega
     have hnn0 : (0 : Int) ≤ (i : Int) := by omega
     have HTK : Hid ((ts.take (i + 1)).all (fun t => idR t.patch t.n) = ((ts.take i).all (fun t => idR t.patch t.n) && idR X.patch X.n)) := by
      show _ = _
      rw [List.take_add_one, hX, Option.toList_some, List.all_append]
      simp
     have HRI : Hid _ := R11_RightId X.patch X.n wr (by have := hpsz X hXm; omega)
     clear hX hN hXm
     cases r with
     | false =>
      have HN : Hid (false = (ts.take (i + 1)).all (fun t => idR t.patch t.n) ∧ Below W6.heap.size W6 wr) := ⟨by rw [HTK.out, ← REL.out.1]; rfl, REL.out.2⟩
      clear REL HRI
      go_wp2
      go_roundg (ts.length - (i + 1))
      case measure => omega
      case rel => exact ⟨i + 1, false, rfl, by go_num, by omega, Nat.le_refl _, HN.out⟩
     | true =>
      have HR1 : Hid _ := REL.out.1
      have HR2 : Hid _ := REL.out.2
      clear REL
      generalize idR X.patch X.n = q at *
      go_wp2_with fail
      refine Calls.mono HRI.out ?_
      rintro e w8 ⟨rfl, hb8⟩
      have HN : Hid (q = (ts.take (i + 1)).all (fun t => idR t.patch t.n) ∧ Below W6.heap.size W6 w8) := ⟨by rw [HTK.out, ← HR1.out]; rfl, belowTrans HR2.out hb8⟩
      clear hb8
      go_wp2
      go_roundg (ts.length - (i + 1))
      case measure => omega
      case rel => exact ⟨i + 1, q, rfl, by go_num, by omega, Nat.le_refl _, HN.out⟩
    ·have hiz : ¬ (i : Int) < (ts.length : Int) := by omega
     have HRT : Hid (r = ts.all (fun t => idR t.patch t.n)) := by
      have h1 := REL.out.1
      rw [List.take_of_length_le (by omega)] at h1
      exact h1
     have x7 := HX7.out wr HJR.out
     have HMK : Hid _ := work_Make a' ta c' tc gfs ts wr (HFW.out wr HJR.out) HOK.out.ok (HTA.out.below HBR.out) htsz (by omega) HCAP.out (HM.out.below HBR.out)
     clear REL
     go_wp2_with fail
     refine Calls.mono HMK.out ?_
     rintro e w9 ⟨hret, hb9⟩
     generalize hE : makeE (hasP (pathsOf gfs)) [] ts = E at hret
     have hun : ∃ (x0 : Option Addr) (n0 m0 : Nat) (x1 : Option Addr) (n1 m1 : Nat), e = .returned (.tuple #[.agg #[.slice x0 n0 m0, .slice x1 n1 m1], .int .i64 E]) ∧ (E ≠ 0 ∨ (E = 0 ∧ x0 = a' ∧ n0 = gfs.length ∧ m0 = c' ∧ ∃ gs : List TrackV, n1 = gs.length ∧ gs.Perm ts ∧ gs.Pairwise (fun x y => pathLess y.path x.path = false) ∧ TracksH w9 x1 gs)) := by
      rcases hret with ⟨h1, h2⟩ | ⟨h1, ra, rc, gs, g1, g2, g3, g4⟩
      ·rw [hE] at h1 h2
       exact ⟨_, _, _, _, _, _, h2, .inl h1⟩
      ·rw [hE] at h1
       exact ⟨_, _, _, _, _, _, by rw [g3, h1], .inr ⟨h1, rfl, rfl, rfl, gs, g1.length_eq.symm, g1, g2, g4⟩⟩
     obtain ⟨x0, n0, m0, x1, n1, m1, rfl, hun⟩ := hun
     have HE : Hid (makeE (hasP (pathsOf gfs)) [] ts = E) := hE
     have HUN : Hid _ := hun
     have HB9 : Hid (Below w.heap.size w (w9.alloc (.cells #[.slice x0 n0 m0, .slice x1 n1 m1] 42))) := belowTrans (belowTrans HBR.out hb9) (belowAlloc _ _)
     clear hret hun hE HMK x7
     by_cases hE0 : E = 0
     case neg =>
      go_wp2_with fail
      apply TAIL.out
      exact HB9.out
     cases r with
     | false =>
      subst hE0
      go_wp2_with fail
      apply TAIL.out
      exact HB9.out
     | true =>
      obtain ⟨_, rfl, rfl, rfl, gs, rfl, g1, g2, g3⟩ := HUN.out.resolve_left (fun h => h hE0)
      subst hE0
      have HID : Hid (∀ t, t ∈ ts → idR t.patch t.n = true) := fun t ht => List.all_eq_true.1 HRT.out.symm t ht
      have HGW : Hid (GoodW gfs gs) := goodW_light HGT.out HTLN.out HPS.out HE.out g1 g2 HID.out h15
      obtain ⟨b13, hb13⟩ : ∃ b13, b13 = w9.heap.size := ⟨_, rfl⟩
      obtain ⟨W9, hW9⟩ : ∃ W9, W9 = w9.alloc (.cells #[.slice x0 gfs.length m0, .slice x1 gs.length m1] 42) := ⟨_, rfl⟩
      have hA9 : Below w9.heap.size w9 W9 := by rw [hW9]; exact belowAlloc _ _
      have HBW9 : Hid (Below w.heap.size w W9) := by rw [hW9]; exact HB9.out
      have HJ9 : Hid (Below W3.heap.size W3 W9) := belowTrans (belowTrans HJR.out hb9) hA9
      have HD13 : Hid (W9.heap[b13]? = some (.cells #[.slice x0 gfs.length m0, .slice x1 gs.length m1] 42 (0, 0))) := by show _ = _; rw [hW9, hb13]; exact (MapKept.heap_alloc _ _).1
      have HTG : Hid (∀ W, Below W9.heap.size W9 W → TracksH W x1 gs) := fun W h => (g3.below hA9).below h
      have HGSL : Hid (gs.length ≤ 1000000) := HGW.out.len
      have HPB : Hid (∀ t, t ∈ gs → t.patch.size < 9223372036854775000) := fun t ht => hpsz t (g1.mem_iff.1 ht)
      obtain ⟨T2, hT2⟩ : ∃ T2, T2 = ofL (workT gfs gs) := ⟨_, rfl⟩
      have HT2 : Hid (ofL (workT gfs gs) = T2) := hT2.symm
      have HT2D : Hid (dl T2 = workT gfs gs ∧ T2.size ≤ 1000000) := ⟨by rw [hT2]; exact dl_ofL _, by rw [hT2, ofL_size]; exact HGW.out.total⟩
      have HBIGT := HBIG
      have HBIG : Hid ((workT gfs gs).length ≤ 70368744177664) := by have := HGW.out.total; show _ ≤ _; omega
      have HWT : Hid (∀ W, Below W9.heap.size W9 W → Calls Tryz.prog 15 #[.agg #[.slice x0 gfs.length m0, .slice x1 gs.length m1]] W fun e w' => e = .returned (.string T2) ∧ Below W.heap.size W w') := fun W h => by
       have := save_WorkText x0 x1 m0 m1 gfs gs W (HFW.out W (belowTrans HJ9.out h)) HOK.out.ok.lines HGL.out (HTG.out W h) HGSL.out HPB.out HBIG.out
       rw [HT2.out] at this
       exact this
      have HTK : Hid (∀ W, Below W9.heap.size W9 W → _) := fun W h => work_Tracks x0 x1 m0 m1 gfs.length gs W (HTG.out W h) (by have := HGSL.out; omega)
      have x13 : (w9.alloc (.cells #[.slice x0 gfs.length m0, .slice x1 gs.length m1] 42)).cell? ⟨w9.heap.size, 0, none⟩ = some (.slice x0 gfs.length m0) ∧ (w9.alloc (.cells #[.slice x0 gfs.length m0, .slice x1 gs.length m1] 42)).cell? ⟨w9.heap.size, 1, none⟩ = some (.slice x1 gs.length m1) := by
       rw [← hW9, ← hb13]
       have e1 := HD13.out
       exact ⟨by simp [World.cell?, e1], by simp [World.cell?, e1]⟩
      obtain ⟨x13a, x13b⟩ := x13
      clear hT2 g1 g2 g3 hb9 hA9
      go_wp2_with fail
      simp only [← hb13, ← hW9]
      clear hb13 hW9 x13a x13b
      refine Calls.mono (HWT.out W9 (Below.refl _ _)) ?_
      rintro e w10 ⟨rfl, hb10⟩
      have HB10 : Hid (Below w.heap.size w w10) := belowTrans HBW9.out hb10
      have HJ10 : Hid (Below W9.heap.size W9 w10) := hb10
      clear hb10
      go_wp2_with fail
      refine Calls.mono (save_WorkOf T2 w10 HT2D.out.2 (HM.out.below HB10.out) (HU.out.below HB10.out)) ?_
      rintro e w11 ⟨hret, hb11⟩
      rcases hret with ⟨n, _, _, hng⟩ | ⟨a15, c15, fs15, ta15, tc15, ts15, k1, k2, k3, k4, k5, k6, rfl, k7, k8⟩
      ·exact absurd HT2D.out.1 (hng gfs gs HGW.out)
      obtain ⟨hk9, rfl⟩ := work_same HGW.out (by rw [← HT2D.out.1, k3]) (by rw [HT2.out]; exact k4) k5
      obtain ⟨b15, hb15⟩ : ∃ b15, b15 = w11.heap.size := ⟨_, rfl⟩
      obtain ⟨WB, hWB⟩ : ∃ WB, WB = w11.alloc (.cells #[.slice a15 fs15.length c15, .slice ta15 ts15.length tc15] 42) := ⟨_, rfl⟩
      have hAB : Below w11.heap.size w11 WB := by rw [hWB]; exact belowAlloc _ _
      have HJB : Hid (Below W9.heap.size W9 WB) := belowTrans (belowTrans HJ10.out hb11) hAB
      have HBB : Hid (Below w.heap.size w WB) := belowTrans HBW9.out HJB.out
      have HJW : Hid (∀ W, Below WB.heap.size WB W → Below W9.heap.size W9 W) := fun W h => belowTrans HJB.out h
      have HJZ : Hid (∀ W, Below WB.heap.size WB W → Below W3.heap.size W3 W) := fun W h => belowTrans HJ9.out (belowTrans HJB.out h)
      have HD15 : Hid (WB.heap[b15]? = some (.cells #[.slice a15 fs15.length c15, .slice ta15 ts15.length tc15] 42 (0, 0))) := by show _ = _; rw [hWB, hb15]; exact (MapKept.heap_alloc _ _).1
      have HL13 : Hid (∀ W, Below WB.heap.size WB W → W.cell? ⟨b13, 0, none⟩ = some (.slice x0 gfs.length m0) ∧ W.cell? ⟨b13, 1, none⟩ = some (.slice x1 ts15.length m1)) := fun W h => by
       have e1 := ((HJW.out W h).block b13 (Array.getElem?_eq_some_iff.1 HD13.out).1).trans HD13.out
       exact ⟨by simp [World.cell?, e1], by simp [World.cell?, e1]⟩
      have HL15 : Hid (∀ W, Below WB.heap.size WB W → W.cell? ⟨b15, 0, none⟩ = some (.slice a15 fs15.length c15) ∧ W.cell? ⟨b15, 1, none⟩ = some (.slice ta15 ts15.length tc15)) := fun W h => by
       have e1 := (h.block b15 (Array.getElem?_eq_some_iff.1 HD15.out).1).trans HD15.out
       exact ⟨by simp [World.cell?, e1], by simp [World.cell?, e1]⟩
      have HWS : Hid (∀ W, Below WB.heap.size WB W → _) := fun W h => work_Same x0 a15 x1 ta15 m0 c15 m1 tc15 gfs fs15 ts15 W (HFW.out W (HJZ.out W h)) ((k7.below hAB).below h) hk9 HLT.out (HTG.out W (HJW.out W h)) ((k8.below hAB).below h) (by have := HGSL.out; omega)
      clear k1 k2 k3 k4 k5 k6 k7 k8 hk9 hb11 hAB
      go_wp2_with fail
      simp only [← hb15, ← hWB]
      clear hb15 hWB
      refine wp_region_gx 18 18 171 (by kernel_rfl) ?ok ?forced rfl (fun _ => LB (.agg #[.slice x0 gfs.length m0, .slice x1 ts15.length m1]) (.agg #[.slice a15 fs15.length c15, .slice ta15 ts15.length tc15]) x0 gfs.length m0 T2 gfs ts15) (fun W => Below WB.heap.size WB W) (belowDrew1 _) ?step ?fin
      case ok => kernel_rfl
      case forced => kernel_rfl
      case step =>
       intro i' oq hi' ho L A W hLi hpre hF hJ hV
       have s7 : A.tmps[7]? = some (.pointer (some ⟨b7, 0, none⟩)) := hF.at (by kernel_rfl) rfl
       have s13 : A.tmps[13]? = some (.pointer (some ⟨b13, 0, none⟩)) := hF.at (by kernel_rfl) rfl
       have s15 : A.tmps[15]? = some (.pointer (some ⟨b15, 0, none⟩)) := hF.at (by kernel_rfl) rfl
       have s16 : A.tmps[16]? = some (.int .i64 0) := hF.at (by kernel_rfl) rfl
       have f7 : W.cell? ⟨b7, 0, none⟩ = some (.slice x0 gfs.length m0) := HX7.out W (HJZ.out W hJ)
       have g13 := HL13.out W hJ
       have g15 := HL15.out W hJ
       have hWs := hJ.size
       match i', hi' with
       | 0, _ =>
        cases ho
        refine .inl ⟨wanted_none rfl, fun K hK => rg_val (v := .agg #[.slice x0 gfs.length m0, .slice x1 ts15.length m1]) ?_ (hK _ _ (fun j u _ => LB.below (Below.refl _ _) j u) rfl hJ)⟩
        simp [execOp, Act.eval, go_sem, s13, g13]
       | 1, _ =>
        cases ho
        have sx := hF.slot (i := 0) rfl (by simp) (hV 0 (hpre ⟨0, .data⟩ (by simp) rfl))
        refine .inl ⟨wanted_none rfl, fun K hK => rg_enter (f := 15) (args := #[.agg #[.slice x0 gfs.length m0, .slice x1 ts15.length m1]]) (w' := W) ?_ (HWT.out W (HJW.out W hJ)) ?_ ?_ ?_⟩
        ·simp [Act.eval, go_sem, sx]
        ·rintro v w'' ⟨e, hb⟩
         cases e
         exact hK _ _ (fun j u _ => LB.below hb j u) rfl (hJ.trans (hb.mono hWs))
        ·rintro chain w'' ⟨e, hb⟩
         cases e
        ·rintro w'' ⟨e, hb⟩
         cases e
       | 2, _ =>
        cases ho
        refine .inl ⟨wanted_none rfl, fun K hK => rg_val (v := .agg #[.slice x0 gfs.length m0]) ?_ (hK _ _ (fun j u _ => LB.below (Below.refl _ _) j u) rfl hJ)⟩
        simp [execOp, Act.eval, go_sem, s7, f7]
       | 3, _ =>
        cases ho
        have sx := hF.slot (i := 2) rfl (by simp) (hV 2 (hpre ⟨2, .data⟩ (by simp) rfl))
        refine .inl ⟨wanted_none rfl, fun K hK => rg_enter (f := 10) (args := #[.agg #[.slice x0 gfs.length m0]]) (w' := W) ?_ (HAL.out W (HJZ.out W hJ)) ?_ ?_ ?_⟩
        ·simp [Act.eval, go_sem, sx]
        ·rintro v w'' ⟨⟨za, zc, zs, h1, h2, e, h3, _⟩, hb⟩
         cases e
         exact hK _ _ (fun j u _ => LB.below hb j u) ⟨za, zc, zs, rfl, ⟨h1, h2, h3⟩⟩ (hJ.trans (hb.mono hWs))
        ·rintro chain w'' ⟨⟨za, zc, zs, h1, h2, e, h3, _⟩, hb⟩
         cases e
        ·rintro w'' ⟨⟨za, zc, zs, h1, h2, e, h3, _⟩, hb⟩
         cases e
       | 4, _ =>
        cases ho
        refine .inl ⟨wanted_none rfl, fun K hK => rg_val (v := .agg #[.slice x0 gfs.length m0, .slice x1 ts15.length m1]) ?_ (hK _ _ (fun j u _ => LB.below (Below.refl _ _) j u) rfl hJ)⟩
        simp [execOp, Act.eval, go_sem, s13, g13]
       | 5, _ =>
        cases ho
        have sx := hF.slot (i := 4) rfl (by simp) (hV 4 (hpre ⟨4, .data⟩ (by simp) rfl))
        refine .inl ⟨wanted_none rfl, fun K hK => rg_enter (f := 17) (args := #[.agg #[.slice x0 gfs.length m0, .slice x1 ts15.length m1]]) (w' := W) ?_ (HTK.out W (HJW.out W hJ)) ?_ ?_ ?_⟩
        ·simp [Act.eval, go_sem, sx]
        ·rintro v w'' ⟨⟨v', e, ho⟩, hb⟩
         obtain ⟨sa, sc, rfl⟩ := ownShape ho
         cases e
         exact hK _ _ (fun j u _ => LB.below hb j u) ⟨sa, sc, rfl, tracksH_row ho⟩ (hJ.trans (hb.mono hWs))
        ·rintro chain w'' ⟨⟨v', e, ho⟩, hb⟩
         cases e
        ·rintro w'' ⟨⟨v', e, ho⟩, hb⟩
         cases e
       | 6, _ =>
        cases ho
        obtain ⟨za, zc, zs, e3, h3⟩ := hV 3 (hpre ⟨3, .data⟩ (by simp) rfl)
        have sx := hF.slot (i := 3) rfl (by simp) e3
        obtain ⟨sa, sc, e5, h5⟩ := hV 5 (hpre ⟨5, .data⟩ (by simp) rfl)
        have sy := hF.slot (i := 5) rfl (by simp) e5
        refine .inl ⟨wanted_none rfl, fun K hK => rg_val (v := .agg #[.slice za zs.length zc, .slice sa ts15.length sc]) ?_ (hK _ _ (fun j u _ => LB.below (Below.refl _ _) j u) ⟨za, zc, zs, sa, sc, rfl, h3, h5⟩ hJ)⟩
        simp [execOp, Act.eval, go_sem, sx, sy]
       | 7, _ =>
        cases ho
        obtain ⟨za, zc, zs, sa, sc, e6, h6, h7⟩ := hV 6 (hpre ⟨6, .data⟩ (by simp) rfl)
        have sx := hF.slot (i := 6) rfl (by simp) e6
        refine .inl ⟨wanted_none rfl, fun K hK => rg_enter (f := 16) (args := #[.agg #[.slice za zs.length zc, .slice sa ts15.length sc]]) (w' := W) ?_ (R33_WorkText za sa zc sc zs ts15 W h6.2.2 (by rw [h6.1]; exact HGL.out) h7 HGSL.out HPB.out (by rw [workT_keys h6.2.1]; exact HBIG.out)) ?_ ?_ ?_⟩
        ·simp [Act.eval, go_sem, sx]
        ·rintro v w'' ⟨e, hb⟩
         cases e
         exact hK _ _ (fun j u _ => LB.below hb j u) (by show _ = _; rw [workT_keys h6.2.1, HT2.out]; first | done | rfl) (hJ.trans (hb.mono hWs))
        ·rintro chain w'' ⟨e, hb⟩
         cases e
        ·rintro w'' ⟨e, hb⟩
         cases e
       | 8, _ =>
        cases ho
        have sx := hF.slot (i := 1) rfl (by simp) (hV 1 (hpre ⟨1, .data⟩ (by simp) rfl))
        have sy := hF.slot (i := 7) rfl (by simp) (hV 7 (hpre ⟨7, .data⟩ (by simp) rfl))
        refine .inl ⟨wanted_none rfl, fun K hK => rg_val (v := .bool false) ?_ (hK _ _ (fun j u _ => LB.below (Below.refl _ _) j u) rfl hJ)⟩
        simp [execOp, Act.eval, go_sem, sx, sy]
       | 9, _ =>
        cases ho
        have sx := hF.slot (i := 8) rfl (by simp) (hV 8 (hpre ⟨8, .data⟩ (by simp) rfl))
        refine .inl ⟨wanted_none rfl, fun K hK => rg_val (v := .bool false) ?_ (hK _ _ (fun j u _ => LB.below (Below.refl _ _) j u) rfl hJ)⟩
        simp [execOp, Act.eval, go_sem, sx]
       | 10, _ =>
        cases ho
        refine .inl ⟨wantedN hF rfl rfl (by simp) (hV 9 (hpre ⟨9, .guard⟩ (by simp) rfl)), fun K hK => rg_val (v := .int .i64 0) ?_ (hK _ _ (fun j u _ => LB.below (Below.refl _ _) j u) rfl hJ)⟩
        simp [execOp, Act.eval, go_sem, s16]
       | 11, _ =>
        cases ho
        have sx := hF.slot (i := 10) rfl (by simp) (hV 10 (hpre ⟨10, .data⟩ (by simp) rfl))
        refine .inl ⟨wantedN hF rfl rfl (by simp) (hV 9 (hpre ⟨9, .guard⟩ (by simp) rfl)), fun K hK => rg_val (v := .bool false) ?_ (hK _ _ (fun j u _ => LB.below (Below.refl _ _) j u) rfl hJ)⟩
        simp [execOp, Act.eval, go_sem, sx]
       | 12, _ =>
        cases ho
        have sx := hF.slot (i := 9) rfl (by simp) (hV 9 (hpre ⟨9, .data⟩ (by simp) rfl))
        have sy := hF.slot (i := 11) rfl (by simp) (hV 11 (hpre ⟨11, .data⟩ (by simp) rfl))
        refine .inl ⟨wanted_none rfl, fun K hK => rg_val (v := .bool false) ?_ (hK _ _ (fun j u _ => LB.below (Below.refl _ _) j u) rfl hJ)⟩
        simp [execOp, Act.eval, go_sem, sx, sy]
       | 13, _ =>
        cases ho
        have sx := hF.slot (i := 12) rfl (by simp) (hV 12 (hpre ⟨12, .data⟩ (by simp) rfl))
        refine .inl ⟨wanted_none rfl, fun K hK => rg_val (v := .bool false) ?_ (hK _ _ (fun j u _ => LB.below (Below.refl _ _) j u) rfl hJ)⟩
        simp [execOp, Act.eval, go_sem, sx]
       | 14, _ =>
        cases ho
        refine .inl ⟨wantedN hF rfl rfl (by simp) (hV 13 (hpre ⟨13, .guard⟩ (by simp) rfl)), fun K hK => rg_val (v := .agg #[.slice x0 gfs.length m0, .slice x1 ts15.length m1]) ?_ (hK _ _ (fun j u _ => LB.below (Below.refl _ _) j u) rfl hJ)⟩
        simp [execOp, Act.eval, go_sem, s13, g13]
       | 15, _ =>
        cases ho
        refine .inl ⟨wantedN hF rfl rfl (by simp) (hV 13 (hpre ⟨13, .guard⟩ (by simp) rfl)), fun K hK => rg_val (v := .agg #[.slice a15 fs15.length c15, .slice ta15 ts15.length tc15]) ?_ (hK _ _ (fun j u _ => LB.below (Below.refl _ _) j u) rfl hJ)⟩
        simp [execOp, Act.eval, go_sem, s15, g15]
       | 16, _ =>
        cases ho
        have sx := hF.slot (i := 14) rfl (by simp) (hV 14 (hpre ⟨14, .data⟩ (by simp) rfl))
        have sy := hF.slot (i := 15) rfl (by simp) (hV 15 (hpre ⟨15, .data⟩ (by simp) rfl))
        refine .inl ⟨wantedN hF rfl rfl (by simp) (hV 13 (hpre ⟨13, .guard⟩ (by simp) rfl)), fun K hK => rg_enter (f := 18) (args := #[.agg #[.slice x0 gfs.length m0, .slice x1 ts15.length m1], .agg #[.slice a15 fs15.length c15, .slice ta15 ts15.length tc15]]) (w' := W) ?_ (HWS.out W hJ) ?_ ?_ ?_⟩
        ·simp [Act.eval, go_sem, sx, sy]
        ·rintro v w'' ⟨e, hb⟩
         cases e
         exact hK _ _ (fun j u _ => LB.below hb j u) rfl (hJ.trans (hb.mono hWs))
        ·rintro chain w'' ⟨e, hb⟩
         cases e
        ·rintro w'' ⟨e, hb⟩
         cases e
       | 17, _ =>
        cases ho
        have sx := hF.slot (i := 16) rfl (by simp) (hV 16 (hpre ⟨16, .data⟩ (by simp) rfl))
        refine .inl ⟨wantedN hF rfl rfl (by simp) (hV 13 (hpre ⟨13, .guard⟩ (by simp) rfl)), fun K hK => rg_val (v := .bool false) ?_ (hK _ _ (fun j u _ => LB.below (Below.refl _ _) j u) rfl hJ)⟩
        simp [execOp, Act.eval, go_sem, sx]
       | k + 18, hk => exact absurd hk (by omega)
      case fin =>
       intro A W hF hJ hV
       have e12 : A.tmps.getD 108 undef = .bool false := hV 12 (by omega)
       have e13 : A.tmps.getD 109 undef = .bool false := hV 13 (by omega)
       have e17 : A.tmps.getD 113 undef = .bool false := hV 17 (by omega)
       rw [hF.lit [96, 97, 98, 99, 100, 101, 102, 103, 104, 105, 106, 107, 108, 109, 110, 111, 112, 113] (by kernel_rfl)]
       simp only [relaid, List.foldl_cons, List.foldl_nil, e12, e13, e17]
       generalize A.tmps.getD 96 undef = y96
       generalize A.tmps.getD 97 undef = y97
       generalize A.tmps.getD 98 undef = y98
       generalize A.tmps.getD 99 undef = y99
       generalize A.tmps.getD 100 undef = y100
       generalize A.tmps.getD 101 undef = y101
       generalize A.tmps.getD 102 undef = y102
       generalize A.tmps.getD 103 undef = y103
       generalize A.tmps.getD 104 undef = y104
       generalize A.tmps.getD 105 undef = y105
       generalize A.tmps.getD 106 undef = y106
       generalize A.tmps.getD 107 undef = y107
       generalize A.tmps.getD 110 undef = y110
       generalize A.tmps.getD 111 undef = y111
       generalize A.tmps.getD 112 undef = y112
       simp only [List.setIfInBounds_toArray, List.set_cons_succ, List.set_cons_zero, List.drop_succ_cons]
       have HBW : Hid (Below WB.heap.size WB W) := hJ
       clear hV hF e12 e13 e17 hJ
       rename World => W16
       have HB16 : Hid (Below w.heap.size w W16) := belowTrans HBB.out HBW.out
       go_wp2_with fail
       apply TAIL.out
       exact HB16.out
end Go.Proofs.W
