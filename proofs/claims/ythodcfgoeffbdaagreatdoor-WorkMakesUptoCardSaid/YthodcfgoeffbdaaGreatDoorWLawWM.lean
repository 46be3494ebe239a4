/- A PART OF THE PROOF THAT WORKMAKES HOLDS FOR EVERY INPUT OF BULK AT MOST 1048576. No condition beyond the given statement. This part: WLawWM. -/
import Derived.Test.YthodcfgoeffbdaaGreatDoorWFind6
import Derived.Test.YthodcfgoeffbdaaGreatDoorMakeLaw
import Derived.Test.YthodcfgoeffbdaaGreatDoorWIxT
import Derived.Test.YthodcfgoeffbdaaGreatDoorWIs
import Derived.Test.YthodcfgoeffbdaaGreatDoorWLight
import Derived.Test.YthodcfgoeffbdaaGreatDoorAwXC
namespace Go.Proofs.W
open Go Go.Proofs Go.RowKit Go.Op Go.Sort
set_option maxRecDepth 1000000

def YV (a' ta : Option Addr) (n c' tc : Nat) (gfs : List FileV) (ts : List TrackV) (kv : Value) (i : Nat) (v : Value) (W : World) : Prop := match i with
  | 0 | 1 | 8 | 9 | 10 | 17 => v = .bool true
  | 2 | 11 => v = kv
  | 3 | 14 => v = .agg #[.slice a' n c']
  | 4 | 15 => ∃ za zc zs, v = .slice za zs.length zc ∧ FilesAs gfs za zs W
  | 5 => v = .slice ta ts.length tc
  | 6 => ∃ sa sc, v = .slice sa ts.length sc ∧ TracksH W sa (insAll ltT ts)
  | 7 => ∃ za zc zs sa sc, v = .agg #[.slice za zs.length zc, .slice sa ts.length sc] ∧ FilesAs gfs za zs W ∧ TracksH W sa (insAll ltT ts)
  | 12 => v = .agg #[.slice none 0 0, .slice none 0 0]
  | 13 => ∃ a2 c2, v = .agg #[.slice a' n c', .slice a2 0 c2]
  | 16 => ∃ za zc zs, v = .agg #[.slice za zs.length zc, .slice none 0 0] ∧ FilesAs gfs za zs W
  | _ => True
theorem YV.below {a' ta : Option Addr} {n c' tc : Nat} {gfs : List FileV} {ts : List TrackV} {kv : Value} {W W' : World} (hb : RowKit.Below W.heap.size W W') (i : Nat) (v : Value) (h : YV a' ta n c' tc gfs ts kv i v W) : YV a' ta n c' tc gfs ts kv i v W' := by
  unfold YV at h ⊢
  split at h
  any_goals exact h
  · obtain ⟨za, zc, zs, e, h1⟩ := h
    exact ⟨za, zc, zs, e, h1.below hb⟩
  · obtain ⟨za, zc, zs, e, h1⟩ := h
    exact ⟨za, zc, zs, e, h1.below hb⟩
  · obtain ⟨sa, sc, e, h1⟩ := h
    exact ⟨sa, sc, e, h1.below hb⟩
  · obtain ⟨za, zc, zs, sa, sc, e, h1, h2⟩ := h
    exact ⟨za, zc, zs, sa, sc, e, h1.below hb, h2.below hb⟩
  · obtain ⟨za, zc, zs, e, h1⟩ := h
    exact ⟨za, zc, zs, e, h1.below hb⟩

set_option maxHeartbeats 32000000 in
theorem law_WorkMakes (a ta : Option Addr) (c tc : Nat) (fs : List FileV) (ts : List TrackV) (w : World) (h : FilesH w a fs) (ht : TracksH w ta ts) (hm : HasM w) (hU : HasU w) (hfl : fs.length < 9223372036854775808) (htx : ∀ f, f ∈ fs → TextsH w f.la f.lines) (htsz : ∀ t, t ∈ ts → t.path.size < 4294967281) (hcap : ts.length ≤ tc) :
    Calls Tryz.prog 3 #[.slice a fs.length c, .slice ta ts.length tc] w fun e w' => e = .returned (.bool true) ∧ RowKit.Below w.heap.size w w' := by
  have mixed : Tryz.prog.follows .mixedOrders = true := by kernel_rfl
  have HCAP : Hid _ := hcap
  clear hcap
  go_enter Tryz.func3, Tryz.ntmps3
  go_wp2_with fail
  refine (L06_Light a c fs w h hfl).mono ?_
  rintro e w1 ⟨⟨t, rfl, hlt⟩, hw1⟩
  subst hw1
  have AWK : Hid _ := fun w => Wc.awakeX_calls w
  by_cases hgo : t = true ∧ ts.length ≤ 20
  · obtain ⟨rfl, h20⟩ := hgo
    have hL := hlt rfl
    have hz20 : ¬ (20 : Int) < (ts.length : Int) := by omega
    have hlen := hL.1
    have hsz : ∀ f, f ∈ fs → f.path.size < 4294967281 := fun f hf => by obtain ⟨j, hj⟩ := List.getElem?_of_mem hf; have := (hL.2 j f hj).1; omega
    have hls : ∀ f, f ∈ fs → ∀ s, s ∈ f.lines → s.size ≤ 9223372036854775807 := fun f hf s hs => by
      obtain ⟨j, hj⟩ := List.getElem?_of_mem hf
      obtain ⟨k, hk⟩ := List.getElem?_of_mem hs
      have := (hL.2 j f hj).2.2 k s hk
      omega
    have hof := tree_Of a c fs w1 h hm hU hsz (fun f hf => by obtain ⟨j, hj⟩ := List.getElem?_of_mem hf; have := (hL.2 j f hj).2.1; omega) hls htx (by omega)
    clear hsz hls
    have HO : Hid _ := hof
    clear hof hlt hL
    go_wp2_with fail
    refine Calls.mono HO.out ?_
    rintro e w2 ⟨hret, hb2⟩
    rcases hret with ⟨en, hen, rfl⟩ | ⟨a', c', gfs, hok, rfl, hF⟩
    · have HA : Hid _ := belowTrans hb2 (belowAlloc w2 (.cells #[.slice none 0 0] 27))
      go_wp2_with fail
      refine Calls.mono (AWK.out _) ?_
      rintro e w3 ⟨rfl, hb3⟩
      go_wp2
      go_ret
      exact ⟨rfl, belowTrans HA.out hb3⟩
    · obtain ⟨W3, hW3⟩ : ∃ W3, W3 = w2.alloc (.cells #[.slice a' gfs.length c'] 27) := ⟨_, rfl⟩
      have hA3 : RowKit.Below w2.heap.size w2 W3 := by rw [hW3]; exact belowAlloc _ _
      have d5 : W3.heap[w2.heap.size]? = some (.cells #[.slice a' gfs.length c'] 27 (0, 0)) := by rw [hW3]; exact (MapKept.heap_alloc _ _).1
      have hz3 : W3.heap.size = w2.heap.size + 1 := by rw [hW3]; simp
      have f5 : W3.cell? ⟨w2.heap.size, 0, none⟩ = some (.slice a' gfs.length c') := by simp [World.cell?, d5]
      have hB3 := belowTrans hb2 hA3
      have hmk := work_Make a' ta c' tc gfs ts W3 (hF.below hA3) hok.ok (ht.below hB3) htsz (by omega) HCAP.out (hm.below hB3)
      have HMK : Hid _ := hmk
      have HB3 : Hid _ := hB3
      have HD5 : Hid _ := d5
      have HOK : Hid (OfOk fs gfs) := hok
      have HF : Hid (∀ w', RowKit.Below W3.heap.size W3 w' → FilesH w' a' gfs) := fun w' hb => (hF.below hA3).below hb
      have HZ3 : Hid _ := hz3
      clear hmk hB3 d5 hA3 hb2 hz3 hF hok HO
      go_wp2_with fail
      simp only [← hW3]
      clear hW3 f5
      refine Calls.mono HMK.out ?_
      rintro e w4 ⟨hret, hb4⟩
      clear HMK
      generalize hE : makeE (hasP (pathsOf gfs)) [] ts = E at hret
      have HE : Hid _ := hE
      have hun : ∃ (x0 : Option Addr) (n0 m0 : Nat) (x1 : Option Addr) (n1 m1 : Nat), e = .returned (.tuple #[.agg #[.slice x0 n0 m0, .slice x1 n1 m1], .int .i64 E]) ∧ ((E ≠ 0 ∧ x0 = none ∧ n0 = 0 ∧ m0 = 0 ∧ x1 = none ∧ n1 = 0 ∧ m1 = 0) ∨ (E = 0 ∧ x0 = a' ∧ n0 = gfs.length ∧ m0 = c' ∧ n1 = ts.length ∧ ∃ gs : List TrackV, gs.Perm ts ∧ gs.Pairwise (fun x y => pathLess y.path x.path = false) ∧ TracksH w4 x1 gs)) := by
        rcases hret with ⟨h1, h2⟩ | ⟨h1, ra, rc, gs, g1, g2, g3, g4⟩
        · rw [hE] at h1 h2
          exact ⟨_, _, _, _, _, _, h2, .inl ⟨h1, rfl, rfl, rfl, rfl, rfl, rfl⟩⟩
        · rw [hE] at h1
          exact ⟨_, _, _, _, _, _, by rw [g3, h1], .inr ⟨h1, rfl, rfl, rfl, rfl, gs, g1, g2, g4⟩⟩
      clear hret hE
      obtain ⟨x0, n0, m0, x1, n1, m1, rfl, hun⟩ := hun
      have HUN : Hid _ := hun
      clear hun
      obtain ⟨W5, hW5⟩ : ∃ W5, W5 = w4.alloc (.cells #[.slice x0 n0 m0, .slice x1 n1 m1] 32) := ⟨_, rfl⟩
      have hA5 : RowKit.Below w4.heap.size w4 W5 := by rw [hW5]; exact belowAlloc _ _
      have HD7 : Hid (W5.heap[w4.heap.size]? = some (.cells #[.slice x0 n0 m0, .slice x1 n1 m1] 32 (0, 0))) := by show _ = _; rw [hW5]; exact (MapKept.heap_alloc _ _).1
      have HZ5 : Hid (W5.heap.size = w4.heap.size + 1) := by show _ = _; rw [hW5]; simp
      have HB35 : Hid (RowKit.Below W3.heap.size W3 W5) := belowTrans hb4 hA5
      have HB5 : Hid (RowKit.Below w1.heap.size w1 W5) := belowTrans HB3.out HB35.out
      have HA5 : Hid _ := hA5
      clear hb4 hA5
      go_wp2_with fail
      simp only [← hW5]
      clear hW5
      go_loopg [9, 10] ts.length (fun kx s9 s10 wr => ∃ (i : Nat) (v : Int), s9 = .int .i64 v ∧ s10 = .int .i64 i ∧ i ≤ ts.length ∧ ts.length - i ≤ kx ∧ Hid (WantOut (hasP (pathsOf gfs)) ts E i v ∧ RowKit.Below W5.heap.size W5 wr))
      case atStart => exact ⟨0, 0, rfl, rfl, Nat.zero_le _, Nat.le_refl _, .inl ⟨rfl, by rw [← HE.out]; rfl⟩, RowKit.Below.refl _ _⟩
      case round =>
        obtain ⟨i, v, rfl, rfl, hi, hkx, REL⟩ := hrel
        rename World => w6
        by_cases hil : i < ts.length
        · by_cases hv : v = 0
          · subst hv
            obtain ⟨b, o, rfl, hN⟩ : ∃ b o, ta = some ⟨b, o, none⟩ ∧ TracksAt w1 b o ts := ht.resolve_left (by omega)
            obtain ⟨X, hX⟩ : ∃ X, ts[i]? = some X := ⟨_, List.getElem?_eq_getElem hil⟩
            have HN : Hid (TracksAt w1 b o ts) := hN
            have HX : Hid _ := hX
            have HE1 : Hid (makeE (hasP (pathsOf gfs)) (ts.take i) (ts.drop i) = E) := by
              rcases REL.out.1 with ⟨_, h1⟩ | ⟨h1, _⟩
              · exact h1
              · exact absurd rfl h1
            have HBx : Hid (RowKit.Below W5.heap.size W5 w6) := REL.out.2
            have hBt := belowTrans HB5.out HBx.out
            obtain ⟨x0', x1', x2'⟩ := (hN.below hBt).cell i X hX
            have hiz : (i : Int) < (ts.length : Int) := by omega
            have hnn : ¬ (i : Int) < 0 := by omega
            have hnn0 : (0 : Int) ≤ (i : Int) := by omega
            have hfi := R06_Find a c fs X.path w6 (h.below hBt) (by omega)
            have hhas := has_find HOK.out X.path
            generalize findF fs X.path = fi at hfi hhas
            have HFI : Hid _ := hfi
            have HHAS : Hid _ := hhas
            clear hfi hhas hN hX hBt REL
            by_cases hfz : fi < 0
            · have HST : Hid (WantIn (hasP (pathsOf gfs)) ts X i 0 9) := .inl ⟨rfl, by rw [HHAS.out]; exact decide_eq_false (by omega)⟩
              go_wp2_with fail
              refine Calls.mono HFI.out ?_
              rintro e w6' ⟨rfl, rfl⟩
              clear x0' x1' x2'
              go_wp2
              go_loopg [9, 11] ts.length (fun kx2 s9 s11 wk => ∃ (j : Nat) (v : Int), s9 = .int .i64 v ∧ s11 = .int .i64 j ∧ j ≤ i ∧ i - j ≤ kx2 ∧ Hid (WantIn (hasP (pathsOf gfs)) ts X i j v ∧ RowKit.Below W5.heap.size W5 wk))
              case atStart => exact ⟨0, 9, rfl, rfl, Nat.zero_le _, by omega, HST.out, HBx.out⟩
              case round =>
                obtain ⟨j, v, rfl, rfl, hj, hkx2, REL2⟩ := hrel
                by_cases hjl : j < i
                · by_cases hv : v = 0
                  · subst hv
                    obtain ⟨Y, hY⟩ : ∃ Y, ts[j]? = some Y := ⟨_, List.getElem?_eq_getElem (by omega)⟩
                    have hBt := belowTrans HB5.out REL2.out.2
                    obtain ⟨x0, x1, x2⟩ := (HN.out.below hBt).cell i X HX.out
                    obtain ⟨y0, y1, y2⟩ := (HN.out.below hBt).cell j Y hY
                    have hjz : (j : Int) < (i : Int) := by omega
                    have hjn : (j : Int) < (ts.length : Int) := by omega
                    have hjj : ¬ (j : Int) < 0 := by omega
                    have hjj0 : (0 : Int) ≤ (j : Int) := by omega
                    have hs : sameT X Y = ((Y.path.toList == X.path.toList) || ((Y.patch.toList == X.patch.toList) && (Y.n == X.n))) := by
                      rw [sameT_symm]
                      unfold sameT
                      rw [toList_eq_iff, toList_eq_iff]
                      rfl
                    have HY : Hid _ := hY
                    have HS : Hid _ := hs
                    have HBq : Hid _ := fun k => belowTrans REL2.out.2 (belowDrew wr k)
                    have HW : Hid ((hasP (pathsOf gfs)) X.path = true ∧ (ts.take j).any (sameT X) = false) := by
                      rcases REL2.out.1 with ⟨h, _⟩ | ⟨_, h⟩ | ⟨h, _⟩
                      · cases h
                      · exact h
                      · cases h
                    clear hs hY hBt REL2
                    cases hq1 : (Y.path.toList == X.path.toList)
                    · cases hq2 : (Y.patch.toList == X.patch.toList)
                      · have hsf : sameT X Y = false := by rw [HS.out, hq1, hq2]; rfl
                        have HSF : Hid _ := hsf
                        clear hsf
                        go_wp2_with fail
                        go_quiet (fail)
                        go_wp2
                        go_roundg (i - (j + 1))
                        case measure => omega
                        case rel => exact ⟨j + 1, 0, rfl, by go_num, by omega, Nat.le_refl _, .inr (.inl ⟨rfl, HW.out.1, any_on HY.out HW.out.2 HSF.out⟩), HBq.out _⟩
                      · cases hq3 : (Y.n == X.n)
                        · have hsf : sameT X Y = false := by rw [HS.out, hq1, hq2, hq3]; rfl
                          have HSF : Hid _ := hsf
                          clear hsf
                          go_wp2_with fail
                          go_quiet (fail)
                          go_wp2
                          go_roundg (i - (j + 1))
                          case measure => omega
                          case rel => exact ⟨j + 1, 0, rfl, by go_num, by omega, Nat.le_refl _, .inr (.inl ⟨rfl, HW.out.1, any_on HY.out HW.out.2 HSF.out⟩), HBq.out _⟩
                        · have hst : sameT X Y = true := by rw [HS.out, hq1, hq2, hq3]; rfl
                          have HSF : Hid _ := hst
                          clear hst
                          go_wp2_with fail
                          go_quiet (fail)
                          go_wp2
                          go_roundg (i - (j + 1))
                          case measure => omega
                          case rel => exact ⟨j + 1, 10, rfl, by go_num, by omega, Nat.le_refl _, .inr (.inr ⟨rfl, HW.out.1, any_hit HY.out hjl HSF.out⟩), HBq.out _⟩
                    · have hst : sameT X Y = true := by rw [HS.out, hq1]; rfl
                      have HSF : Hid _ := hst
                      clear hst
                      go_wp2_with fail
                      go_quiet (fail)
                      go_wp2
                      go_roundg (i - (j + 1))
                      case measure => omega
                      case rel => exact ⟨j + 1, 10, rfl, by go_num, by omega, Nat.le_refl _, .inr (.inr ⟨rfl, HW.out.1, any_hit HY.out hjl HSF.out⟩), HBq.out _⟩
                  · have hjz : (j : Int) < (i : Int) := by omega
                    have HON : Hid _ := want_on HX.out HE1.out REL2.out.1 (fun h0 => absurd h0 hv)
                    have HBn : Hid _ := REL2.out.2
                    clear REL2
                    go_wp2
                    go_roundg (ts.length - (i + 1))
                    case measure => omega
                    case rel => exact ⟨i + 1, v, rfl, by go_num, by omega, Nat.le_refl _, HON.out, HBn.out⟩
                · have hjz : ¬ (j : Int) < (i : Int) := by omega
                  have HON : Hid _ := want_on HX.out HE1.out REL2.out.1 (fun _ => by omega)
                  have HBn : Hid _ := REL2.out.2
                  clear REL2
                  go_wp2
                  go_roundg (ts.length - (i + 1))
                  case measure => omega
                  case rel => exact ⟨i + 1, v, rfl, by go_num, by omega, Nat.le_refl _, HON.out, HBn.out⟩
            · have HST : Hid (WantIn (hasP (pathsOf gfs)) ts X i 0 0) := .inr (.inl ⟨rfl, by rw [HHAS.out]; exact decide_eq_true (by omega), rfl⟩)
              go_wp2_with fail
              refine Calls.mono HFI.out ?_
              rintro e w6' ⟨rfl, rfl⟩
              clear x0' x1' x2'
              go_wp2
              go_loopg [9, 11] ts.length (fun kx2 s9 s11 wk => ∃ (j : Nat) (v : Int), s9 = .int .i64 v ∧ s11 = .int .i64 j ∧ j ≤ i ∧ i - j ≤ kx2 ∧ Hid (WantIn (hasP (pathsOf gfs)) ts X i j v ∧ RowKit.Below W5.heap.size W5 wk))
              case atStart => exact ⟨0, 0, rfl, rfl, Nat.zero_le _, by omega, HST.out, HBx.out⟩
              case round =>
                obtain ⟨j, v, rfl, rfl, hj, hkx2, REL2⟩ := hrel
                by_cases hjl : j < i
                · by_cases hv : v = 0
                  · subst hv
                    obtain ⟨Y, hY⟩ : ∃ Y, ts[j]? = some Y := ⟨_, List.getElem?_eq_getElem (by omega)⟩
                    have hBt := belowTrans HB5.out REL2.out.2
                    obtain ⟨x0, x1, x2⟩ := (HN.out.below hBt).cell i X HX.out
                    obtain ⟨y0, y1, y2⟩ := (HN.out.below hBt).cell j Y hY
                    have hjz : (j : Int) < (i : Int) := by omega
                    have hjn : (j : Int) < (ts.length : Int) := by omega
                    have hjj : ¬ (j : Int) < 0 := by omega
                    have hjj0 : (0 : Int) ≤ (j : Int) := by omega
                    have hs : sameT X Y = ((Y.path.toList == X.path.toList) || ((Y.patch.toList == X.patch.toList) && (Y.n == X.n))) := by
                      rw [sameT_symm]
                      unfold sameT
                      rw [toList_eq_iff, toList_eq_iff]
                      rfl
                    have HY : Hid _ := hY
                    have HS : Hid _ := hs
                    have HBq : Hid _ := fun k => belowTrans REL2.out.2 (belowDrew wr k)
                    have HW : Hid ((hasP (pathsOf gfs)) X.path = true ∧ (ts.take j).any (sameT X) = false) := by
                      rcases REL2.out.1 with ⟨h, _⟩ | ⟨_, h⟩ | ⟨h, _⟩
                      · cases h
                      · exact h
                      · cases h
                    clear hs hY hBt REL2
                    cases hq1 : (Y.path.toList == X.path.toList)
                    · cases hq2 : (Y.patch.toList == X.patch.toList)
                      · have hsf : sameT X Y = false := by rw [HS.out, hq1, hq2]; rfl
                        have HSF : Hid _ := hsf
                        clear hsf
                        go_wp2_with fail
                        go_quiet (fail)
                        go_wp2
                        go_roundg (i - (j + 1))
                        case measure => omega
                        case rel => exact ⟨j + 1, 0, rfl, by go_num, by omega, Nat.le_refl _, .inr (.inl ⟨rfl, HW.out.1, any_on HY.out HW.out.2 HSF.out⟩), HBq.out _⟩
                      · cases hq3 : (Y.n == X.n)
                        · have hsf : sameT X Y = false := by rw [HS.out, hq1, hq2, hq3]; rfl
                          have HSF : Hid _ := hsf
                          clear hsf
                          go_wp2_with fail
                          go_quiet (fail)
                          go_wp2
                          go_roundg (i - (j + 1))
                          case measure => omega
                          case rel => exact ⟨j + 1, 0, rfl, by go_num, by omega, Nat.le_refl _, .inr (.inl ⟨rfl, HW.out.1, any_on HY.out HW.out.2 HSF.out⟩), HBq.out _⟩
                        · have hst : sameT X Y = true := by rw [HS.out, hq1, hq2, hq3]; rfl
                          have HSF : Hid _ := hst
                          clear hst
                          go_wp2_with fail
                          go_quiet (fail)
                          go_wp2
                          go_roundg (i - (j + 1))
                          case measure => omega
                          case rel => exact ⟨j + 1, 10, rfl, by go_num, by omega, Nat.le_refl _, .inr (.inr ⟨rfl, HW.out.1, any_hit HY.out hjl HSF.out⟩), HBq.out _⟩
                    · have hst : sameT X Y = true := by rw [HS.out, hq1]; rfl
                      have HSF : Hid _ := hst
                      clear hst
                      go_wp2_with fail
                      go_quiet (fail)
                      go_wp2
                      go_roundg (i - (j + 1))
                      case measure => omega
                      case rel => exact ⟨j + 1, 10, rfl, by go_num, by omega, Nat.le_refl _, .inr (.inr ⟨rfl, HW.out.1, any_hit HY.out hjl HSF.out⟩), HBq.out _⟩
                  · have hjz : (j : Int) < (i : Int) := by omega
                    have HON : Hid _ := want_on HX.out HE1.out REL2.out.1 (fun h0 => absurd h0 hv)
                    have HBn : Hid _ := REL2.out.2
                    clear REL2
                    go_wp2
                    go_roundg (ts.length - (i + 1))
                    case measure => omega
                    case rel => exact ⟨i + 1, v, rfl, by go_num, by omega, Nat.le_refl _, HON.out, HBn.out⟩
                · have hjz : ¬ (j : Int) < (i : Int) := by omega
                  have HON : Hid _ := want_on HX.out HE1.out REL2.out.1 (fun _ => by omega)
                  have HBn : Hid _ := REL2.out.2
                  clear REL2
                  go_wp2
                  go_roundg (ts.length - (i + 1))
                  case measure => omega
                  case rel => exact ⟨i + 1, v, rfl, by go_num, by omega, Nat.le_refl _, HON.out, HBn.out⟩
          · have hiz : (i : Int) < (ts.length : Int) := by omega
            have hvE : v = E ∧ E ≠ 0 := by
              rcases REL.out.1 with ⟨h1, _⟩ | ⟨h1, h2⟩
              · exact absurd h1 hv
              · exact ⟨h2, h2 ▸ h1⟩
            obtain ⟨hvE, hE0⟩ := hvE
            subst v
            have HE0 : Hid _ := hE0
            have HBX : Hid (RowKit.Below W5.heap.size W5 w6) := REL.out.2
            rcases HUN.out with ⟨_, q1, q2, q3, q4, q5, q6⟩ | ⟨h0, _⟩
            · clear REL hkx hE0 hv HUN
              subst x0 n0 m0 x1 n1 m1
              have d7 := (HBX.out.block w4.heap.size (by rw [HZ5.out]; omega)).trans HD7.out
              have p0 : w6.cell? ⟨w4.heap.size, 0, none⟩ = some (.slice none 0 0) := by simp [World.cell?, d7]
              have p1 : w6.cell? ⟨w4.heap.size, 1, none⟩ = some (.slice none 0 0) := by simp [World.cell?, d7]
              have hEv : ¬ E = 0 := HE0.out
              have HBR : Hid _ := belowTrans HB5.out HBX.out
              clear d7
              go_wp2_with fail
              refine Calls.mono (AWK.out _) ?_
              rintro e w7 ⟨rfl, hb7⟩
              have d7 := ((belowTrans HBX.out hb7).block w4.heap.size (by rw [HZ5.out]; omega)).trans HD7.out
              clear p0 p1
              have p0 : w7.cell? ⟨w4.heap.size, 0, none⟩ = some (.slice none 0 0) := by simp [World.cell?, d7]
              have p1 : w7.cell? ⟨w4.heap.size, 1, none⟩ = some (.slice none 0 0) := by simp [World.cell?, d7]
              have HB7 : Hid _ := belowTrans HBR.out hb7
              have HIS : Hid _ := law_Is none none none none 0 0 0 0 [] [] [] w7 (.inl rfl) (fun _ h => by cases h) (by simp) (.inl rfl) (by simp) (.inl rfl) rfl (.inl rfl)
              clear d7 hb7
              go_wp2_with fail
              refine Calls.mono HIS.out ?_
              rintro e w8 ⟨rfl, hb8⟩
              go_wp2
              go_ret
              exact ⟨rfl, belowTrans HB7.out hb8⟩
            · exact absurd h0 HE0.out
        · have hiz : ¬ (i : Int) < (ts.length : Int) := by omega
          have hin : i = ts.length := by omega
          have hvE : v = E := by
            rcases REL.out.1 with ⟨h1, h2⟩ | ⟨_, h2⟩
            · rw [hin, makeE_end] at h2
              rw [h1, h2]
            · exact h2
          rcases HUN.out with ⟨hE0, q1, q2, q3, q4, q5, q6⟩ | ⟨hE0, q1, q2, q3, q5, hgs⟩
          · subst v
            have HE0 : Hid _ := hE0
            have HBX : Hid (RowKit.Below W5.heap.size W5 w6) := REL.out.2
            clear REL hkx hE0 HUN
            subst x0 n0 m0 x1 n1 m1
            have d7 := (HBX.out.block w4.heap.size (by rw [HZ5.out]; omega)).trans HD7.out
            have p0 : w6.cell? ⟨w4.heap.size, 0, none⟩ = some (.slice none 0 0) := by simp [World.cell?, d7]
            have p1 : w6.cell? ⟨w4.heap.size, 1, none⟩ = some (.slice none 0 0) := by simp [World.cell?, d7]
            have hEv : ¬ E = 0 := HE0.out
            have HBR : Hid _ := belowTrans HB5.out HBX.out
            clear d7
            go_wp2_with fail
            refine Calls.mono (AWK.out _) ?_
            rintro e w7 ⟨rfl, hb7⟩
            have d7 := ((belowTrans HBX.out hb7).block w4.heap.size (by rw [HZ5.out]; omega)).trans HD7.out
            clear p0 p1
            have p0 : w7.cell? ⟨w4.heap.size, 0, none⟩ = some (.slice none 0 0) := by simp [World.cell?, d7]
            have p1 : w7.cell? ⟨w4.heap.size, 1, none⟩ = some (.slice none 0 0) := by simp [World.cell?, d7]
            have HB7 : Hid _ := belowTrans HBR.out hb7
            have HIS : Hid _ := law_Is none none none none 0 0 0 0 [] [] [] w7 (.inl rfl) (fun _ h => by cases h) (by simp) (.inl rfl) (by simp) (.inl rfl) rfl (.inl rfl)
            clear d7 hb7
            go_wp2_with fail
            refine Calls.mono HIS.out ?_
            rintro e w8 ⟨rfl, hb8⟩
            go_wp2
            go_ret
            exact ⟨rfl, belowTrans HB7.out hb8⟩
          · subst hvE
            subst hE0
            subst x0 n0 m0 n1
            clear HUN
            obtain ⟨gs, hperm, hpw, hTg⟩ := hgs
            obtain ⟨hz1, hz2⟩ := makeE_zero (hasP (pathsOf gfs)) ts [] HE.out
            have hgse := sorted_unique hz2 hperm hpw
            subst hgse
            have HPR : Hid (∀ t, t ∈ ts → pathR t.path = true) := fun t hmem => by
              have h1 := (hz1 t hmem).1
              have h2 := (hasP_iff HOK.out.ok.rising t.path).1 h1
              obtain ⟨f, hf, e⟩ := List.mem_map.1 h2
              rw [← e]
              exact HOK.out.right f hf
            have HGL : Hid ((insAll ltT ts).length = ts.length) := (insAll_perm (lt := ltT) ts).length_eq
            have HTG : Hid (TracksH w4 x1 (insAll ltT ts)) := hTg
            have HBX : Hid (RowKit.Below W5.heap.size W5 w6) := REL.out.2
            clear hz1 hz2 hperm hpw hTg REL hkx
            go_wp2_with fail
            refine wp_region_gd 18 14 116 (by kernel_rfl) ?ok ?forced rfl (fun _ => YV a' ta gfs.length c' tc gfs ts (.agg #[.slice a' gfs.length c', .slice x1 ts.length m1])) (fun W => RowKit.Below w6.heap.size w6 W) (belowDrew1 _) ?step ?fin
            case ok => kernel_rfl
            case forced => kernel_rfl
            case step =>
              intro i o hi ho L A W hLi hpre hF hJ hV
              have s1 : A.tmps[1]? = some (.slice ta ts.length tc) := hF.at (by kernel_rfl) rfl
              have s5 : A.tmps[5]? = some (.pointer (some ⟨w2.heap.size, 0, none⟩)) := hF.at (by kernel_rfl) rfl
              have s7 : A.tmps[7]? = some (.pointer (some ⟨w4.heap.size, 0, none⟩)) := hF.at (by kernel_rfl) rfl
              have hB5W := belowTrans HBX.out hJ
              have hB3W := belowTrans HB35.out hB5W
              have hBW := belowTrans HB3.out hB3W
              have hTW : TracksH W x1 (insAll ltT ts) := HTG.out.below (belowTrans HA5.out hB5W)
              have d5 := (hB3W.block w2.heap.size (by rw [HZ3.out]; omega)).trans HD5.out
              have d7 := (hB5W.block w4.heap.size (by rw [HZ5.out]; omega)).trans HD7.out
              have f5 : W.cell? ⟨w2.heap.size, 0, none⟩ = some (.slice a' gfs.length c') := by simp [World.cell?, d5]
              have k0 : W.cell? ⟨w4.heap.size, 0, none⟩ = some (.slice a' gfs.length c') := by simp [World.cell?, d7]
              have k1 : W.cell? ⟨w4.heap.size, 1, none⟩ = some (.slice x1 ts.length m1) := by simp [World.cell?, d7]
              match i, hi with
              | 0, _ =>
                simp only [List.getElem?_toArray, List.getElem?_cons_zero, Option.some.injEq] at ho
                subst ho
                refine ⟨wanted_none rfl, fun K hK => rg_enter (f := 5) (args := #[]) (w' := W) ?_ (Wc.awakeX_calls W) ?_ ?_ ?_⟩
                · simp [go_sem]
                · rintro v w'' ⟨e, hb⟩
                  cases e
                  exact hK _ _ (fun j u _ hv => YV.below hb j u hv) rfl (belowTrans hJ hb)
                · rintro chain w'' ⟨e, _⟩
                  cases e
                · rintro w'' ⟨e, _⟩
                  cases e
              | 1, _ =>
                simp only [List.getElem?_toArray, List.getElem?_cons_succ, List.getElem?_cons_zero, Option.some.injEq] at ho
                subst ho
                have sx := hF.slot (i := 0) rfl (by simp) (hV 0 (hpre ⟨0, .data⟩ (by simp) rfl))
                refine ⟨wanted_none rfl, fun K hK => rg_val (v := .bool true) ?_ (hK _ _ (fun j u _ hv => YV.below (RowKit.Below.refl _ _) j u hv) rfl hJ)⟩
                simp [execOp, Act.eval, go_sem, sx]
              | 2, _ =>
                simp only [List.getElem?_toArray, List.getElem?_cons_succ, List.getElem?_cons_zero, Option.some.injEq] at ho
                subst ho
                refine ⟨wanted_at hF rfl rfl (by simp) (hV 1 (hpre ⟨1, .guard⟩ (by simp) rfl)), fun K hK => rg_val (v := .agg #[.slice a' gfs.length c', .slice x1 ts.length m1]) ?_ (hK _ _ (fun j u _ hv => YV.below (RowKit.Below.refl _ _) j u hv) rfl hJ)⟩
                simp [execOp, Act.eval, go_sem, s7, k0, k1]
              | 3, _ =>
                simp only [List.getElem?_toArray, List.getElem?_cons_succ, List.getElem?_cons_zero, Option.some.injEq] at ho
                subst ho
                refine ⟨wanted_at hF rfl rfl (by simp) (hV 1 (hpre ⟨1, .guard⟩ (by simp) rfl)), fun K hK => rg_val (v := .agg #[.slice a' gfs.length c']) ?_ (hK _ _ (fun j u _ hv => YV.below (RowKit.Below.refl _ _) j u hv) rfl hJ)⟩
                simp [execOp, Act.eval, go_sem, s5, f5]
              | 4, _ =>
                simp only [List.getElem?_toArray, List.getElem?_cons_succ, List.getElem?_cons_zero, Option.some.injEq] at ho
                subst ho
                have sx := hF.slot (i := 3) rfl (by simp) (hV 3 (hpre ⟨3, .data⟩ (by simp) rfl))
                refine ⟨wanted_at hF rfl rfl (by simp) (hV 1 (hpre ⟨1, .guard⟩ (by simp) rfl)), fun K hK => rg_enter (f := 10) (args := #[.agg #[.slice a' gfs.length c']]) (w' := W) ?_ (tree_All a' c' gfs W (HF.out W hB3W) (fun f hf => HOK.out.ok.lines f hf) HOK.out.ok.len) ?_ ?_ ?_⟩
                · simp [Act.eval, go_sem, sx]
                · rintro v w'' ⟨⟨za, zc, zs, h1, h2, e, h3, _⟩, hb⟩
                  cases e
                  exact hK _ _ (fun j u _ hv => YV.below hb j u hv) ⟨za, zc, zs, rfl, h1, h2, h3⟩ (belowTrans hJ hb)
                · rintro chain w'' ⟨⟨_, _, _, _, _, e, _⟩, _⟩
                  cases e
                · rintro w'' ⟨⟨_, _, _, _, _, e, _⟩, _⟩
                  cases e
              | 5, _ =>
                simp only [List.getElem?_toArray, List.getElem?_cons_succ, List.getElem?_cons_zero, Option.some.injEq] at ho
                subst ho
                refine ⟨wanted_at hF rfl rfl (by simp) (hV 1 (hpre ⟨1, .guard⟩ (by simp) rfl)), fun K hK => rg_val (v := .slice ta ts.length tc) ?_ (hK _ _ (fun j u _ hv => YV.below (RowKit.Below.refl _ _) j u hv) rfl hJ)⟩
                simp [execOp, Act.eval, go_sem, s1]
              | 6, _ =>
                simp only [List.getElem?_toArray, List.getElem?_cons_succ, List.getElem?_cons_zero, Option.some.injEq] at ho
                subst ho
                have sx := hF.slot (i := 5) rfl (by simp) (hV 5 (hpre ⟨5, .data⟩ (by simp) rfl))
                refine ⟨wanted_at hF rfl rfl (by simp) (hV 1 (hpre ⟨1, .guard⟩ (by simp) rfl)), fun K hK => rg_enter (f := 11) (args := #[.slice ta ts.length tc]) (w' := W) ?_ (R22_Sort ta tc ts W (ht.below hBW) HPR.out (by omega)) ?_ ?_ ?_⟩
                · simp [Act.eval, go_sem, sx]
                · rintro v w'' ⟨⟨v', e, ho⟩, hb⟩
                  cases e
                  obtain ⟨sa, sc, rfl⟩ := ownShape ho
                  have hT : TracksH w'' sa (insAll ltT ts) := tracksH_row (c := sc) (by rw [HGL.out]; exact ho)
                  exact hK _ _ (fun j u _ hv => YV.below hb j u hv) ⟨sa, sc, rfl, hT⟩ (belowTrans hJ hb)
                · rintro chain w'' ⟨⟨_, e, _⟩, _⟩
                  cases e
                · rintro w'' ⟨⟨_, e, _⟩, _⟩
                  cases e
              | 7, _ =>
                simp only [List.getElem?_toArray, List.getElem?_cons_succ, List.getElem?_cons_zero, Option.some.injEq] at ho
                subst ho
                obtain ⟨za, zc, zs, e4, h4⟩ := hV 4 (hpre ⟨4, .data⟩ (by simp) rfl)
                obtain ⟨sa, sc, e6, h6⟩ := hV 6 (hpre ⟨6, .data⟩ (by simp) rfl)
                have sx := hF.slot (i := 4) rfl (by simp) e4
                have sy := hF.slot (i := 6) rfl (by simp) e6
                refine ⟨wanted_at hF rfl rfl (by simp) (hV 1 (hpre ⟨1, .guard⟩ (by simp) rfl)), fun K hK => rg_val (v := .agg #[.slice za zs.length zc, .slice sa ts.length sc]) ?_ (hK _ _ (fun j u _ hv => YV.below (RowKit.Below.refl _ _) j u hv) ⟨za, zc, zs, sa, sc, rfl, h4, h6⟩ hJ)⟩
                simp [execOp, Act.eval, go_sem, sx, sy]
              | 8, _ =>
                simp only [List.getElem?_toArray, List.getElem?_cons_succ, List.getElem?_cons_zero, Option.some.injEq] at ho
                subst ho
                obtain ⟨za, zc, zs, sa, sc, e7, h7, h8⟩ := hV 7 (hpre ⟨7, .data⟩ (by simp) rfl)
                have sx := hF.slot (i := 2) rfl (by simp) (hV 2 (hpre ⟨2, .data⟩ (by simp) rfl))
                have sy := hF.slot (i := 7) rfl (by simp) e7
                have his := law_Is a' x1 za sa c' m1 zc sc gfs zs (insAll ltT ts) W (HF.out W hB3W) (fun f hf => HOK.out.ok.lines f hf) HOK.out.ok.len hTW (by rw [HGL.out]; omega) h7.2.2 h7.2.1 h8
                rw [HGL.out] at his
                refine ⟨wanted_at hF rfl rfl (by simp) (hV 1 (hpre ⟨1, .guard⟩ (by simp) rfl)), fun K hK => rg_enter (f := 9) (args := #[.agg #[.slice a' gfs.length c', .slice x1 ts.length m1], .agg #[.slice za zs.length zc, .slice sa ts.length sc]]) (w' := W) ?_ (his) ?_ ?_ ?_⟩
                · simp [Act.eval, go_sem, sx, sy]
                · rintro v w'' ⟨e, hb⟩
                  cases e
                  exact hK _ _ (fun j u _ hv => YV.below hb j u hv) rfl (belowTrans hJ hb)
                · rintro chain w'' ⟨e, _⟩
                  cases e
                · rintro w'' ⟨e, _⟩
                  cases e
              | 9, _ =>
                simp only [List.getElem?_toArray, List.getElem?_cons_succ, List.getElem?_cons_zero, Option.some.injEq] at ho
                subst ho
                have sx := hF.slot (i := 1) rfl (by simp) (hV 1 (hpre ⟨1, .data⟩ (by simp) rfl))
                have sy := hF.slot (i := 8) rfl (by simp) (hV 8 (hpre ⟨8, .data⟩ (by simp) rfl))
                refine ⟨wanted_none rfl, fun K hK => rg_val (v := .bool true) ?_ (hK _ _ (fun j u _ hv => YV.below (RowKit.Below.refl _ _) j u hv) rfl hJ)⟩
                simp [execOp, Act.eval, go_sem, sx, sy]
              | 10, _ =>
                simp only [List.getElem?_toArray, List.getElem?_cons_succ, List.getElem?_cons_zero, Option.some.injEq] at ho
                subst ho
                have sx := hF.slot (i := 9) rfl (by simp) (hV 9 (hpre ⟨9, .data⟩ (by simp) rfl))
                refine ⟨wanted_none rfl, fun K hK => rg_val (v := .bool true) ?_ (hK _ _ (fun j u _ hv => YV.below (RowKit.Below.refl _ _) j u hv) rfl hJ)⟩
                simp [execOp, Act.eval, go_sem, sx]
              | 11, _ =>
                simp only [List.getElem?_toArray, List.getElem?_cons_succ, List.getElem?_cons_zero, Option.some.injEq] at ho
                subst ho
                refine ⟨wanted_at hF rfl rfl (by simp) (hV 10 (hpre ⟨10, .guard⟩ (by simp) rfl)), fun K hK => rg_val (v := .agg #[.slice a' gfs.length c', .slice x1 ts.length m1]) ?_ (hK _ _ (fun j u _ hv => YV.below (RowKit.Below.refl _ _) j u hv) rfl hJ)⟩
                simp [execOp, Act.eval, go_sem, s7, k0, k1]
              | 12, _ =>
                simp only [List.getElem?_toArray, List.getElem?_cons_succ, List.getElem?_cons_zero, Option.some.injEq] at ho
                subst ho
                refine ⟨wanted_at hF rfl rfl (by simp) (hV 10 (hpre ⟨10, .guard⟩ (by simp) rfl)), fun K hK => rg_val (v := .agg #[.slice none 0 0, .slice none 0 0]) ?_ (hK _ _ (fun j u _ hv => YV.below (RowKit.Below.refl _ _) j u hv) rfl hJ)⟩
                simp [execOp, Act.eval, go_sem]
              | 13, _ =>
                simp only [List.getElem?_toArray, List.getElem?_cons_succ, List.getElem?_cons_zero, Option.some.injEq] at ho
                subst ho
                have sx := hF.slot (i := 11) rfl (by simp) (hV 11 (hpre ⟨11, .data⟩ (by simp) rfl))
                have sy := hF.slot (i := 12) rfl (by simp) (hV 12 (hpre ⟨12, .data⟩ (by simp) rfl))
                have hkp := work_Keep a' x1 c' m1 gfs.length (insAll ltT ts) W hTW (by rw [HGL.out]; omega)
                rw [HGL.out] at hkp
                refine ⟨wanted_at hF rfl rfl (by simp) (hV 10 (hpre ⟨10, .guard⟩ (by simp) rfl)), fun K hK => rg_enter (f := 12) (args := #[.agg #[.slice a' gfs.length c', .slice x1 ts.length m1], .agg #[.slice none 0 0, .slice none 0 0]]) (w' := W) ?_ (hkp) ?_ ?_ ?_⟩
                · simp [Act.eval, go_sem, sx, sy]
                · rintro v w'' ⟨⟨a2, c2, e⟩, hb⟩
                  cases e
                  exact hK _ _ (fun j u _ hv => YV.below hb j u hv) ⟨a2, c2, rfl⟩ (belowTrans hJ hb)
                · rintro chain w'' ⟨⟨_, _, e⟩, _⟩
                  cases e
                · rintro w'' ⟨⟨_, _, e⟩, _⟩
                  cases e
              | 14, _ =>
                simp only [List.getElem?_toArray, List.getElem?_cons_succ, List.getElem?_cons_zero, Option.some.injEq] at ho
                subst ho
                refine ⟨wanted_at hF rfl rfl (by simp) (hV 10 (hpre ⟨10, .guard⟩ (by simp) rfl)), fun K hK => rg_val (v := .agg #[.slice a' gfs.length c']) ?_ (hK _ _ (fun j u _ hv => YV.below (RowKit.Below.refl _ _) j u hv) rfl hJ)⟩
                simp [execOp, Act.eval, go_sem, s5, f5]
              | 15, _ =>
                simp only [List.getElem?_toArray, List.getElem?_cons_succ, List.getElem?_cons_zero, Option.some.injEq] at ho
                subst ho
                have sx := hF.slot (i := 14) rfl (by simp) (hV 14 (hpre ⟨14, .data⟩ (by simp) rfl))
                refine ⟨wanted_at hF rfl rfl (by simp) (hV 10 (hpre ⟨10, .guard⟩ (by simp) rfl)), fun K hK => rg_enter (f := 10) (args := #[.agg #[.slice a' gfs.length c']]) (w' := W) ?_ (tree_All a' c' gfs W (HF.out W hB3W) (fun f hf => HOK.out.ok.lines f hf) HOK.out.ok.len) ?_ ?_ ?_⟩
                · simp [Act.eval, go_sem, sx]
                · rintro v w'' ⟨⟨za, zc, zs, h1, h2, e, h3, _⟩, hb⟩
                  cases e
                  exact hK _ _ (fun j u _ hv => YV.below hb j u hv) ⟨za, zc, zs, rfl, h1, h2, h3⟩ (belowTrans hJ hb)
                · rintro chain w'' ⟨⟨_, _, _, _, _, e, _⟩, _⟩
                  cases e
                · rintro w'' ⟨⟨_, _, _, _, _, e, _⟩, _⟩
                  cases e
              | 16, _ =>
                simp only [List.getElem?_toArray, List.getElem?_cons_succ, List.getElem?_cons_zero, Option.some.injEq] at ho
                subst ho
                obtain ⟨za, zc, zs, e4, h4⟩ := hV 15 (hpre ⟨15, .data⟩ (by simp) rfl)
                have sx := hF.slot (i := 15) rfl (by simp) e4
                refine ⟨wanted_at hF rfl rfl (by simp) (hV 10 (hpre ⟨10, .guard⟩ (by simp) rfl)), fun K hK => rg_val (v := .agg #[.slice za zs.length zc, .slice none 0 0]) ?_ (hK _ _ (fun j u _ hv => YV.below (RowKit.Below.refl _ _) j u hv) ⟨za, zc, zs, rfl, h4⟩ hJ)⟩
                simp [execOp, Act.eval, go_sem, sx]
              | 17, _ =>
                simp only [List.getElem?_toArray, List.getElem?_cons_succ, List.getElem?_cons_zero, Option.some.injEq] at ho
                subst ho
                obtain ⟨za, zc, zs, e16, h16⟩ := hV 16 (hpre ⟨16, .data⟩ (by simp) rfl)
                obtain ⟨a2, c2, e13⟩ := hV 13 (hpre ⟨13, .data⟩ (by simp) rfl)
                have sx := hF.slot (i := 13) rfl (by simp) e13
                have sy := hF.slot (i := 16) rfl (by simp) e16
                refine ⟨wanted_at hF rfl rfl (by simp) (hV 10 (hpre ⟨10, .guard⟩ (by simp) rfl)), fun K hK => rg_enter (f := 9) (args := #[.agg #[.slice a' gfs.length c', .slice a2 0 c2], .agg #[.slice za zs.length zc, .slice none 0 0]]) (w' := W) ?_ (law_Is a' a2 za none c' c2 zc 0 gfs zs [] W (HF.out W hB3W) (fun f hf => HOK.out.ok.lines f hf) HOK.out.ok.len (.inl rfl) (by simp) h16.2.2 h16.2.1 (.inl rfl)) ?_ ?_ ?_⟩
                · simp [Act.eval, go_sem, sx, sy]
                · rintro v w'' ⟨e, hb⟩
                  cases e
                  exact hK _ _ (fun j u _ hv => YV.below hb j u hv) rfl (belowTrans hJ hb)
                · rintro chain w'' ⟨e, _⟩
                  cases e
                · rintro w'' ⟨e, _⟩
                  cases e
              | m + 18, hm => exact absurd hm (by omega)
            case fin =>
              intro A W hF hJ hV
              have e10 : A.tmps.getD 107 undef = .bool true := hV 10 (by omega)
              have e17 : A.tmps.getD 114 undef = .bool true := hV 17 (by omega)
              rw [hF.lit [97, 98, 99, 100, 101, 102, 103, 104, 105, 106, 107, 108, 109, 110, 111, 112, 113, 114, 115, 4] (by kernel_rfl)]
              simp only [relaid, List.foldl_cons, List.foldl_nil, e10, e17]
              generalize A.tmps.getD 97 undef = y97
              generalize A.tmps.getD 98 undef = y98
              generalize A.tmps.getD 99 undef = y99
              generalize A.tmps.getD 100 undef = y100
              generalize A.tmps.getD 101 undef = y101
              generalize A.tmps.getD 102 undef = y102
              generalize A.tmps.getD 103 undef = y103
              generalize A.tmps.getD 104 undef = y104
              generalize A.tmps.getD 105 undef = y105
              generalize A.tmps.getD 106 undef = y106
              generalize A.tmps.getD 108 undef = y108
              generalize A.tmps.getD 109 undef = y109
              generalize A.tmps.getD 110 undef = y110
              generalize A.tmps.getD 111 undef = y111
              generalize A.tmps.getD 112 undef = y112
              generalize A.tmps.getD 113 undef = y113
              generalize A.tmps.getD 115 undef = y115
              generalize A.tmps.getD 4 undef = y4
              simp only [List.setIfInBounds_toArray, List.set_cons_succ, List.set_cons_zero, List.drop_succ_cons, List.drop_zero]
              have HBE : Hid _ := belowTrans HB5.out (belowTrans HBX.out hJ)
              clear hV hF e10 e17 hJ
              go_wp2
              go_ret
              exact ⟨rfl, HBE.out⟩
  · have hng : t = false ∨ (t = true ∧ (20 : Int) < (ts.length : Int)) := by
      cases t with
      | false => exact .inl rfl
      | true => exact .inr ⟨rfl, by have : ¬ ts.length ≤ 20 := fun h => hgo ⟨rfl, h⟩; omega⟩
    clear hgo hlt
    rcases hng with rfl | ⟨rfl, hz20⟩
    all_goals
      go_wp2_with fail
      refine Calls.mono (AWK.out _) ?_
      rintro e w3 ⟨rfl, hb3⟩
      go_wp2
      go_ret
      exact ⟨rfl, hb3⟩
end Go.Proofs.W
