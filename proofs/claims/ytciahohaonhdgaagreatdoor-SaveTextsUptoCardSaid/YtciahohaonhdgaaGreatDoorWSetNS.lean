/- A PART OF THE PROOF THAT SAVETEXTS HOLDS FOR EVERY INPUT OF BULK AT MOST 1048576. No condition beyond the given statement. This part: WSetNS. -/
import Derived.Test.YtciahohaonhdgaaGreatDoorWWith
import Derived.Test.YtciahohaonhdgaaGreatDoorMakeLaw
import Derived.Test.YtciahohaonhdgaaGreatDoorWWorkT
namespace Go.Proofs.W
open Go Go.Proofs Go.RowKit Go.Op Go.Sort
set_option maxRecDepth 1000000
def NoText (cur : Array Value) : Prop := ∀ (j : Nat) (x : ByteArray), cur[j]? ≠ some (.string x)
theorem noText_two {a a2 : Option Addr} {n n2 c c2 : Nat} : NoText #[.slice a n c, .slice a2 n2 c2] := fun j x h => by
 match j, h with
 | 0, h => simp at h
 | 1, h => simp at h
 | j + 2, h => simp at h
theorem block_ne {w : World} {k b o : Nat} {cur : Array Value} {t : TypeId} {r : Nat × Nat} (hk : w.heap[k]? = some (.cells cur t r)) (hn : NoText cur) {x : ByteArray} (h : w.cell? ⟨b, o, none⟩ = some (.string x)) : b ≠ k := fun e => by
 subst e
 simp only [World.cell?, hk] at h
 exact hn o x h
theorem textsH_ns {w : World} {k i : Nat} {a : Option Addr} {xs : List ByteArray} (h : TextsH w a xs) {cur : Array Value} {t : TypeId} {r : Nat × Nat} (hk : w.heap[k]? = some (.cells cur t r)) (hn : NoText cur) (v : Value) : TextsH (w.setCell ⟨k, i, none⟩ v) a xs := by
 rcases h with h | ⟨b, o, h1, h2⟩
 ·exact .inl h
 ·cases xs with
  | nil => exact .inl rfl
  | cons x xs => exact .inr ⟨b, o, h1, h2.keep (Nat.lt_of_lt_of_le h2.lt ((Below.refl 0 w).setCell (p := ⟨k, i, none⟩) (Nat.zero_le _) v).size) (Below.heap_setCell _ _ _ _ (block_ne hk hn (h2.cell 0 x rfl)))⟩
theorem filesH_ns {w : World} {k i : Nat} {a : Option Addr} {xs : List FileV} (h : FilesH w a xs) {cur : Array Value} {t : TypeId} {r : Nat × Nat} (hk : w.heap[k]? = some (.cells cur t r)) (hn : NoText cur) (v : Value) : FilesH (w.setCell ⟨k, i, none⟩ v) a xs := by
 rcases h with h | ⟨b, o, h1, h2⟩
 ·exact .inl h
 ·cases xs with
  | nil => exact .inl rfl
  | cons x xs =>
   have hne : b ≠ k := block_ne hk hn (h2.cell 0 x rfl).1
   have hb : (w.setCell ⟨k, i, none⟩ v).heap[b]? = w.heap[b]? := Below.heap_setCell _ _ _ _ hne
   refine .inr ⟨b, o, h1, Nat.lt_of_lt_of_le h2.lt ((Below.refl 0 w).setCell (p := ⟨k, i, none⟩) (Nat.zero_le _) v).size, fun j d hd => ?_, fun j d hd => ⟨textsH_ns (h2.sub j d hd).1 hk hn v, (h2.sub j d hd).2⟩⟩
   have hc : ∀ i', (w.setCell ⟨k, i, none⟩ v).cell? ⟨b, i', none⟩ = w.cell? ⟨b, i', none⟩ := fun i' => World.cell?_of_block hb
   simp only [hc]
   exact h2.cell j d hd
theorem tracksH_ns {w : World} {k i : Nat} {a : Option Addr} {xs : List TrackV} (h : TracksH w a xs) {cur : Array Value} {t : TypeId} {r : Nat × Nat} (hk : w.heap[k]? = some (.cells cur t r)) (hn : NoText cur) (v : Value) : TracksH (w.setCell ⟨k, i, none⟩ v) a xs := by
 cases xs with
 | nil => exact .inl rfl
 | cons x xs =>
  refine tracksH_other h (fun b o e => ?_) v
  rcases h with h | ⟨b', o', h1, h2⟩
  ·cases h
  ·rw [h1] at e
   cases e
   exact block_ne hk hn (h2.cell 0 x rfl).1
end Go.Proofs.W
namespace Go.Proofs.W
open Go Go.Proofs Go.RowKit Go.Op Go.Sort
set_option maxRecDepth 1000000
theorem treeT_read {fs : List FileV} (h : (treeT fs).length ≤ 1000000) : filesK (listE (treeT fs)).1 = fs.map FileV.key := by
 obtain ⟨h1, h2⟩ := treeL_sizes h
 have h3 : listE (treeT fs) = ((treeL fs).map dl, 0) := listE_back h1 h2
 rw [h3]
 unfold treeL
 refine filesK_back _ fun k hk => ?_
 obtain ⟨f, hf, rfl⟩ := List.mem_map.1 hk
 obtain ⟨h4, _⟩ := treeT_item hf
 refine ⟨?_, fun s hs => ?_⟩
 ·have := listT_len f.lines
  show f.lines.length < _
  omega
 ·have := listT_item (xs := f.lines) (x := s) hs
  omega
theorem treeT_inj {fs gs : List FileV} (h : (treeT fs).length ≤ 1000000) (e : treeT fs = treeT gs) : fs.map FileV.key = gs.map FileV.key := by
 have h1 := treeT_read h
 have h2 := treeT_read (fs := gs) (by rw [← e]; exact h)
 rw [← h1, e, h2]
def tracksOf (s : ByteArray) : List TrackV := tracksK (listE (partL (listE (dl s)).1 1)).1
def WorkRetE (s : ByteArray) (L : List (List UInt8)) (e : Ending) (w' : World) : Prop :=
 (∃ n : Int, n ≠ 0 ∧ e = .returned (.tuple #[.agg #[.slice none 0 0, .slice none 0 0], .int .i64 n]) ∧ ∀ fs ts, GoodW fs ts → dl s ≠ workT fs ts) ∨
 (∃ (a : Option Addr) (c : Nat) (fs : List FileV) (ta : Option Addr) (tc : Nat) (ts : List TrackV), FsOk fs ∧ Good fs ∧ dl s = workT fs ts ∧ ts.Perm (tracksK (listE (partL L 1)).1) ∧ ts.Pairwise (fun x y => pathLess y.path x.path = false) ∧ ts.length ≤ 1000000 ∧ e = .returned (.tuple #[.agg #[.slice a fs.length c, .slice ta ts.length tc], .int .i64 0]) ∧ FilesH w' a fs ∧ TracksH w' ta ts)
def WorkOfRet (s : ByteArray) (e : Ending) (w' : World) : Prop := WorkRetE s (listE (dl s)).1 e w'
theorem partL_len {L : List (List UInt8)} {M : Nat} (h : ∀ x, x ∈ L → x.length ≤ M) (i : Nat) : (partL L i).length ≤ M := by
 unfold partL
 rw [List.getD_eq_getElem?_getD]
 cases hq : L[i]? with
 | none => exact Nat.zero_le _
 | some x => exact h x (List.mem_of_getElem? hq)
theorem zeroWork {W : World} {b : Nat} (h : W.heap[b]? = some (.cells #[.slice none 0 0, .slice none 0 0] 42 (0, 0))) : W.cell? ⟨b, 0, none⟩ = some (.slice none 0 0) ∧ W.cell? ⟨b, 1, none⟩ = some (.slice none 0 0) ∧ W.frozen? ⟨b, 0, none⟩ = false ∧ W.frozen? ⟨b, 1, none⟩ = false :=
 ⟨by simp [World.cell?, h], by simp [World.cell?, h], frozen_of_row W b 0 _ _ h, frozen_of_row W b 1 _ _ h⟩
theorem idPp_size (s : ByteArray) : (idPp s).size ≤ s.size := by
 unfold idPp
 split
 ·exact Nat.zero_le _
 ·unfold cutP
  rw [ofL_size]
  have h1 : s.data.toList.length = s.size := by rw [Array.length_toList]; rfl
  unfold Lib.cut
  split
  ·simp only [List.length_take]; omega
  ·simp only; omega
theorem tracksK_patch {s : List UInt8} {t : TrackV} (h : t ∈ tracksK (listE s).1) : t.patch.size ≤ s.length := by
 obtain ⟨j, hj⟩ := List.getElem?_of_mem h
 have hl := (List.getElem?_eq_some_iff.1 hj).1
 rw [tracksK_len] at hl
 have h0 : (listE s).1[2 * j]? = some ((listE s).1[2 * j]'(by omega)) := List.getElem?_eq_getElem _
 have h1 : (listE s).1[2 * j + 1]? = some ((listE s).1[2 * j + 1]'(by omega)) := List.getElem?_eq_getElem _
 have h3 := tracksK_at _ j h0 h1
 rw [hj] at h3
 obtain rfl := Option.some.inj h3
 have q1 := (listE_len s).2 _ (List.mem_of_getElem? h1)
 have q2 := idPp_size (ofL ((listE s).1[2 * j + 1]'(by omega)))
 rw [ofL_size] at q2
 exact Nat.le_trans q2 q1
theorem trackL_le {ts : List TrackV} {M : Nat} (hl : ts.length ≤ 1000000) (hM : 48 ≤ M ∧ M ≤ 20000000) (h : ∀ t, t ∈ ts → t.path.size ≤ M) : (listT (trackL ts)).length ≤ 10 + 2 * ts.length * (M + 10) := by
 have := listT_le (xs := trackL ts) (M := M) (by rw [trackL_len]; omega) (by omega) (fun s hs => by
  unfold trackL at hs
  obtain ⟨t, ht, hs⟩ := List.mem_flatMap.1 hs
  simp only [List.mem_cons, List.not_mem_nil, or_false] at hs
  rcases hs with rfl | rfl
  ·exact h t ht
  ·exact Nat.le_trans idT_size hM.1)
 rw [trackL_len] at this
 exact this
theorem workT_le {fs : List FileV} {ts : List TrackV} {M : Nat} (hM : M < 2 ^ 63) (h1 : (treeT fs).length ≤ M) (h2 : (listT (trackL ts)).length ≤ M) : (workT fs ts).length ≤ 10 + 2 * (M + 10) :=
 listT_le (xs := workL fs ts) (M := M) (by simp [workL]) (by omega) (fun s hs => by
  simp only [workL, List.mem_cons, List.not_mem_nil, or_false] at hs
  rcases hs with rfl | rfl <;> rw [ofL_size] <;> assumption)
def WO (fa : Option Addr) (m fc b o n pc i : Nat) (p q : ByteArray) (k : Int) (j : Nat) (v : Value) (W : World) : Prop := match j with
 | 0 => v = .slice fa m fc
 | 1 => v = .slice (some ⟨b, o, none⟩) n pc
 | 2 => v = .int .i64 i
 | 3 => v = .pointer (some ⟨b, o + i, none⟩)
 | 4 => v = .string p
 | 5 => v = .agg #[.string q, .int .i64 k]
 | 6 => v = .agg #[.string p, .string q, .int .i64 k]
 | 7 => ∃ g c, v = .slice (some ⟨g, 0, none⟩) 1 c ∧ W.heap[g]? = some (.cells #[.string p, .string q, .int .i64 k] 40 (0, 0))
 | _ => True
theorem WO.below {fa : Option Addr} {m fc b o n pc i : Nat} {p q : ByteArray} {k : Int} {W W' : World} (hb : Below W.heap.size W W') (j : Nat) (u : Value) (h : WO fa m fc b o n pc i p q k j u W) : WO fa m fc b o n pc i p q k j u W' := by
 unfold WO at h ⊢
 split at h
 any_goals exact h
 obtain ⟨g, c, e, h1⟩ := h
 exact ⟨g, c, e, (hb.block g (Array.getElem?_eq_some_iff.1 h1).1).trans h1⟩
set_option maxHeartbeats 4000000 in
theorem save_part (b4 i : Nat) (la : Option Addr) (lc : Nat) (L : List (List UInt8)) (w : World) (h : w.cell? ⟨b4, 0, none⟩ = some (.slice la L.length lc)) (hT : TextsH w la (L.map ofL)) :
  Calls Tryz.prog 44 #[.int .i64 i, .pointer (some ⟨b4, 0, none⟩)] w fun e w' => e = .returned (.string (ofL (partL L i))) ∧ w' = w := by
 by_cases hlt : (i : Int) < (L.length : Int)
 ·obtain ⟨x, hx⟩ : ∃ x, L[i]? = some x := ⟨_, List.getElem?_eq_getElem (by omega)⟩
  have hp : Hid (partL L i = x) := by show _ = _; unfold partL; rw [List.getD_eq_getElem?_getD, hx]; rfl
  obtain ⟨b, o, rfl, hN⟩ : ∃ b o, la = some ⟨b, o, none⟩ ∧ TextsAt w b o (L.map ofL) := hT.resolve_left (by rw [List.length_map]; omega)
  have k0 := hN.cell i (ofL x) (by rw [List.getElem?_map, hx]; rfl)
  have hnn : ¬ (i : Int) < 0 := by omega
  have hnn0 : (0 : Int) ≤ (i : Int) := by omega
  clear hx hN hT
  go_enter Tryz.func44, Tryz.ntmps44
  go_wp2
  go_ret
  rw [hp.out]
  exact ⟨rfl, rfl⟩
 ·have hp : Hid (partL L i = []) := by show _ = _; unfold partL; rw [List.getD_eq_getElem?_getD, List.getElem?_eq_none (by omega)]; rfl
  clear hT
  go_enter Tryz.func44, Tryz.ntmps44
  go_wp2
  go_ret
  rw [hp.out]
  exact ⟨rfl, rfl⟩
theorem part_enters : ∀ args w, (callFunc 44 args).run Tryz.prog w = .ok (.enter 44 args) w := enters_of Tryz.func44 (by kernel_rfl) rfl
set_option maxHeartbeats 32000000 in
theorem save_WorkOf (s : ByteArray) (w : World) (hs : s.size ≤ 1000000) (hm : HasM w) (hU : HasU w) :
  Calls Tryz.prog 14 #[.string s] w fun e w' => WorkOfRet s e w' ∧ Below w.heap.size w w' := by
 have mixed : Tryz.prog.follows .mixedOrders = true := by kernel_rfl
 obtain ⟨io, hio, hz0, hz1, hz2⟩ := info_track
 obtain ⟨W0, hW0⟩ : ∃ W0, W0 = w.alloc (.cells #[.slice none 0 0, .slice none 0 0] 42) := ⟨_, rfl⟩
 have hA : Below w.heap.size w W0 := by rw [hW0]; exact belowAlloc _ _
 have hb : W0.heap[w.heap.size]? = some (.cells #[.slice none 0 0, .slice none 0 0] 42 (0, 0)) := by rw [hW0]; exact (MapKept.heap_alloc _ _).1
 have hlt : w.heap.size < W0.heap.size := (Array.getElem?_eq_some_iff.1 hb).1
 have HL : Hid _ := save_list s W0 (by omega)
 have HA : Hid _ := hA
 have HB0 : Hid _ := hb
 have HLT : Hid _ := hlt
 have HM : Hid (HasM w) := hm
 have HU : Hid (HasU w) := hU
 have hdl : (dl s).length ≤ 1000000 := by rw [dl_len]; exact hs
 have HLL : Hid _ := listE_len (dl s)
 have HRD : Hid (∀ fs ts, GoodW fs ts → dl s = workT fs ts → _) := fun fs ts hG e => work_read hG e
 clear hA hb hlt hm hU
 unfold WorkOfRet
 generalize hle : listE (dl s) = le at *
 obtain ⟨L, en⟩ := le
 clear hle
 simp only at HL HLL HRD ⊢
 have hLl : L.length ≤ 1000000 := by have h1 : L.length ≤ (dl s).length := HLL.out.1; omega
 go_enter Tryz.func14, Tryz.ntmps14
 go_wp2_with fail
 simp only [← hW0]
 clear hW0
 refine Calls.mono HL.out ?_
 rintro e w1 ⟨⟨a, c, rfl, hT⟩, hb1⟩
 simp only at hT ⊢
 obtain ⟨b4, hb4⟩ : ∃ b4, b4 = w1.heap.size := ⟨_, rfl⟩
 obtain ⟨W1, hW1⟩ : ∃ W1, W1 = w1.alloc (.cells #[.slice a L.length c] 54) := ⟨_, rfl⟩
 have hA1 : Below w1.heap.size w1 W1 := by rw [hW1]; exact belowAlloc _ _
 have HB1 : Hid _ := belowTrans (belowTrans HA.out hb1) hA1
 have H1 : Hid (W1.heap[w.heap.size]? = some (.cells #[.slice none 0 0, .slice none 0 0] 42 (0, 0))) := (hA1.block _ (Nat.lt_of_lt_of_le HLT.out hb1.size)).trans ((hb1.block _ HLT.out).trans HB0.out)
 have HT : Hid (TextsH W1 a (L.map ofL)) := (ownTextsH hT).below hA1
 have H4 : Hid (W1.heap[b4]? = some (.cells #[.slice a L.length c] 54 (0, 0))) := by show _ = _; rw [hW1, hb4]; exact (MapKept.heap_alloc _ _).1
 clear hT hb1 hA1 HL
 by_cases hen : en = 0
 case neg =>
  have HNG : Hid (∀ fs ts, GoodW fs ts → dl s ≠ workT fs ts) := fun fs ts hG e => hen (HRD.out fs ts hG e).1
  clear HRD HLL
  rw [hW1] at HB1 H1
  obtain ⟨z0, z1, z2, z3⟩ := zeroWork H1.out
  clear hW1 hb4
  go_wp2
  have hf0 := setCell_block (.slice none 0 0) H1.out (i := 0)
  have hfin := setCell_block (.slice none 0 0) hf0 (i := 1)
  refine bodyPost_ret_by (results_cell_row_tmp (p := 2) (u := 3) rfl _ _ w.heap.size _ _ _ _ ?hp hfin Tryz.underlying42 rfl (by kernel_rfl)) rfl ⟨Or.inl ⟨en, hen, rfl, HNG.out⟩, (HB1.out.setCell (Nat.le_refl _) _).setCell (Nat.le_refl _) _⟩
  case hp => rfl
 subst hen
 obtain ⟨p0, hp0⟩ : ∃ p0, p0 = partL L 0 := ⟨_, rfl⟩
 obtain ⟨p1, hp1⟩ : ∃ p1, p1 = partL L 1 := ⟨_, rfl⟩
 have hl0 : p0.length ≤ 1000000 := by rw [hp0]; exact Nat.le_trans (partL_len HLL.out.2 0) hdl
 have hl1 : p1.length ≤ 1000000 := by rw [hp1]; exact Nat.le_trans (partL_len HLL.out.2 1) hdl
 have HP0 : Hid (∀ W, Below W1.heap.size W1 W → Calls Tryz.prog 44 #[.int .i64 0, .pointer (some ⟨b4, 0, none⟩)] W fun e w' => e = .returned (.string (ofL p0)) ∧ w' = W) := fun W hb => by
  have e1 := (hb.block b4 (Array.getElem?_eq_some_iff.1 H4.out).1).trans H4.out
  rw [hp0]
  exact save_part b4 0 a c L W (by simp [World.cell?, e1]) (HT.out.below hb)
 have HP1 : Hid (∀ W, Below W1.heap.size W1 W → Calls Tryz.prog 44 #[.int .i64 1, .pointer (some ⟨b4, 0, none⟩)] W fun e w' => e = .returned (.string (ofL p1)) ∧ w' = W) := fun W hb => by
  have e1 := (hb.block b4 (Array.getElem?_eq_some_iff.1 H4.out).1).trans H4.out
  rw [hp1]
  exact save_part b4 1 a c L W (by simp [World.cell?, e1]) (HT.out.below hb)
 rw [← hp0, ← hp1] at HRD
 have HTO : Hid _ := save_TreeOf (ofL p0) W1 (by rw [ofL_size]; exact hl0) (HM.out.below HB1.out) (HU.out.below HB1.out)
 have epart := part_enters
 have HGOAL : Hid (∀ e w', WorkRetE s L e w' = ((∃ n : Int, n ≠ 0 ∧ e = .returned (.tuple #[.agg #[.slice none 0 0, .slice none 0 0], .int .i64 n]) ∧ ∀ fs ts, GoodW fs ts → dl s ≠ workT fs ts) ∨
 (∃ (a : Option Addr) (c : Nat) (fs : List FileV) (ta : Option Addr) (tc : Nat) (ts : List TrackV), FsOk fs ∧ Good fs ∧ dl s = workT fs ts ∧ ts.Perm (tracksK (listE p1).1) ∧ ts.Pairwise (fun x y => pathLess y.path x.path = false) ∧ ts.length ≤ 1000000 ∧ e = .returned (.tuple #[.agg #[.slice a fs.length c, .slice ta ts.length tc], .int .i64 0]) ∧ FilesH w' a fs ∧ TracksH w' ta ts))) := fun e w' => by rw [hp1]; rfl
 clear hp0 hp1 HLL HT
 have HPZ : Hid _ := HP0.out W1 (Below.refl _ _)
 go_wp2_with (go_at_fn 44; simp only [← hb4, ← hW1]; refine Calls.mono HPZ.out ?_; rintro e w' ⟨rfl, hw'⟩; rw [hw']; clear hw')
 simp only [← hb4, ← hW1]
 clear hW1 hb4 HPZ
 refine Calls.mono HTO.out ?_
 rintro e w5 ⟨hret, hb5⟩
 have hun : ∃ (a7 : Option Addr) (c7 : Nat) (fs : List FileV) (e5 : Int), e = .returned (.tuple #[.agg #[.slice a7 fs.length c7], .int .i64 e5]) ∧ FsOk fs ∧ FilesH w5 a7 fs ∧ ((e5 ≠ 0 ∧ ∀ fs', GoodT fs' → p0 ≠ treeT fs') ∨ (e5 = 0 ∧ Good fs ∧ p0 = treeT fs)) := by
  rcases hret with ⟨n, hn, rfl, hng⟩ | ⟨a7, c7, fs, h1, h2, h3, rfl, h4⟩
  ·refine ⟨none, 0, [], n, rfl, ⟨List.Pairwise.nil, fun f hf => (by cases hf), Nat.zero_le _, fun f hf => (by cases hf)⟩, .inl rfl, .inl ⟨hn, fun fs' hG e => hng fs' hG (by rw [dl_ofL]; exact e)⟩⟩
  ·rw [dl_ofL] at h3
   exact ⟨a7, c7, fs, 0, rfl, h1, h4, .inr ⟨rfl, h2, h3⟩⟩
 obtain ⟨a7, c7, fs, e5, rfl, hok, hF, hE5⟩ := hun
 clear hret HTO
 obtain ⟨b7, hb7⟩ : ∃ b7, b7 = w5.heap.size := ⟨_, rfl⟩
 obtain ⟨W5, hW5⟩ : ∃ W5, W5 = w5.alloc (.cells #[.slice a7 fs.length c7] 27) := ⟨_, rfl⟩
 have hA5 : Below w5.heap.size w5 W5 := by rw [hW5]; exact belowAlloc _ _
 have HJ5 : Hid (Below W1.heap.size W1 W5) := belowTrans hb5 hA5
 have H7 : Hid (W5.heap[b7]? = some (.cells #[.slice a7 fs.length c7] 27 (0, 0))) := by show _ = _; rw [hW5, hb7]; exact (MapKept.heap_alloc _ _).1
 have HF : Hid (FilesH W5 a7 fs) := hF.below hA5
 have HOK : Hid (FsOk fs) := hok
 have HE5 : Hid ((e5 ≠ 0 ∧ ∀ fs', GoodT fs' → p0 ≠ treeT fs') ∨ (e5 = 0 ∧ Good fs ∧ p0 = treeT fs)) := hE5
 have HPZ : Hid _ := HP1.out W5 HJ5.out
 have HLS : Hid _ := save_list (ofL p1) W5 (by rw [ofL_size]; omega)
 clear hb5 hA5 hF hok hE5
 go_wp2_with (go_at_fn 44; simp only [← hb7, ← hW5]; refine Calls.mono HPZ.out ?_; rintro e w' ⟨rfl, hw'⟩; rw [hw']; clear hw')
 simp only [← hb7, ← hW5]
 clear hW5 hb7 HPZ
 refine Calls.mono HLS.out ?_
 rintro e w6 ⟨⟨pa, pc, rfl, hpT⟩, hb6⟩
 rw [dl_ofL] at hpT ⊢
 obtain ⟨L2, hL2⟩ : ∃ L2, L2 = (listE p1).1 := ⟨_, rfl⟩
 obtain ⟨en2, hen2⟩ : ∃ en2, en2 = (listE p1).2 := ⟨_, rfl⟩
 rw [← hL2] at hpT
 simp only [← hL2, ← hen2]
 have hl2 : L2.length ≤ 1000000 ∧ ∀ x, x ∈ L2 → x.length ≤ 1000000 := by
  obtain ⟨h1, h2⟩ := listE_len p1
  rw [hL2]
  exact ⟨by omega, fun x hx => by have := h2 x hx; omega⟩
 have HTS : Hid (∀ t, t ∈ tracksK L2 → t.path.size ≤ 1000000 ∧ t.patch.size ≤ 1000000) := fun t ht => by
  rw [hL2] at ht
  exact ⟨Nat.le_trans (tracksK_sizes ht) hl1, Nat.le_trans (tracksK_patch ht) hl1⟩
 have HPT : Hid (TextsH w6 pa (L2.map ofL)) := ownTextsH hpT
 have HJ6 : Hid (Below W5.heap.size W5 w6) := hb6
 have HL2 : Hid (L2 = (listE p1).1 ∧ en2 = (listE p1).2) := ⟨hL2, hen2⟩
 have HL2X : Hid _ := hl2.2
 have hL2l := hl2.1
 clear hpT hb6 hL2 hen2 hl2 HLS
 go_wp2
 go_loopg [10, 11] L2.length (fun kx s10 s11 wr => ∃ (m i : Nat) (fa : Option Addr) (fc : Nat), s10 = .slice fa m fc ∧ s11 = .int .i64 i ∧ i ≤ L2.length ∧ L2.length - i ≤ kx ∧ Hid (i = 2 * m ∧ wr.ownsRow w6.heap.size 40 3 (.slice fa m fc) m (((tracksK L2).take m).flatMap TrackV.cells) ∧ Below w6.heap.size w6 wr))
 case atStart => exact ⟨0, 0, none, 0, rfl, rfl, Nat.zero_le _, Nat.le_refl _, rfl, World.ownsRow_nil _ _ _ _, Below.refl _ _⟩
 case round =>
  obtain ⟨m, i, fa, fc, rfl, rfl, hmL, hkx, REL⟩ := hrel
  have hi := REL.out.1
  by_cases hlt : (i : Int) + 1 < (L2.length : Int)
  ·obtain ⟨x, hx⟩ : ∃ x, L2[2 * m]? = some x := ⟨_, List.getElem?_eq_getElem (by omega)⟩
   obtain ⟨y, hy⟩ : ∃ y, L2[2 * m + 1]? = some y := ⟨_, List.getElem?_eq_getElem (by omega)⟩
   have HKA : Hid _ := tracksK_at L2 m hx hy
   have hyl := HL2X.out _ (List.mem_of_getElem? hy)
   obtain ⟨b, o, rfl, hN⟩ : ∃ b o, pa = some ⟨b, o, none⟩ ∧ TextsAt w6 b o (L2.map ofL) := by
    rcases HPT.out with h | h
    ·rw [List.length_map] at h; omega
    ·exact h
   have HN : Hid _ := hN
   have k2 := (hN.below REL.out.2.2).cell (i + 1) (ofL y) (by rw [List.getElem?_map, hi, hy]; rfl)
   have HX : Hid _ := hx
   have h1 : (0 : Int) ≤ (i : Int) + 1 := by omega
   have h1n : ¬ ((i : Int) + 1 < 0) := by omega
   have ht1 : ((i : Int) + 1).toNat = i + 1 := by omega
   have HPA : Hid _ := id_Parse (ofL y) wr (by rw [ofL_size]; omega) (HM.out.below (belowTrans (belowTrans (belowTrans HB1.out HJ5.out) HJ6.out) REL.out.2.2))
   have HI : Hid _ := hi
   clear hx hy hN hi
   go_wp2_with fail
   refine Calls.mono HPA.out ?_
   rintro e w4 ⟨rfl, hb4⟩
   obtain ⟨q, hq⟩ : ∃ q, q = idPp (ofL y) := ⟨_, rfl⟩
   obtain ⟨k, hk⟩ : ∃ k, k = idPn (ofL y) := ⟨_, rfl⟩
   obtain ⟨ek, hek⟩ : ∃ ek, ek = idPe (ofL y) := ⟨_, rfl⟩
   obtain ⟨p, hp⟩ : ∃ p, p = ofL x := ⟨_, rfl⟩
   obtain ⟨B, hB⟩ : ∃ B, B = w4.heap.size := ⟨_, rfl⟩
   obtain ⟨W4, hW4⟩ : ∃ W4, W4 = w4.alloc (.cells #[.string q, .int .i64 k] 38) := ⟨_, rfl⟩
   have hA4 : Below w4.heap.size w4 W4 := by rw [hW4]; exact belowAlloc _ _
   have d4 : W4.heap[B]? = some (.cells #[.string q, .int .i64 k] 38 (0, 0)) := by rw [hW4, hB]; exact (MapKept.heap_alloc _ _).1
   have HB4 : Hid (Below wr.heap.size wr W4) := belowTrans hb4 hA4
   have HK : Hid (∀ W, Below W4.heap.size W4 W → W.cell? ⟨b, o + i, none⟩ = some (.string p) ∧ W.cell? ⟨B, 0, none⟩ = some (.string q) ∧ W.cell? ⟨B, 1, none⟩ = some (.int .i64 k)) := fun W hW => by
    have h := HN.out.below (belowTrans (belowTrans REL.out.2.2 HB4.out) hW)
    have d := (hW.block B (Array.getElem?_eq_some_iff.1 d4).1).trans d4
    have hi' := HI.out
    exact ⟨by rw [hp]; exact h.cell i (ofL x) (by rw [List.getElem?_map, hi', HX.out]; rfl), by simp [World.cell?, d], by simp [World.cell?, d]⟩
   have HP : Hid (ofL x = p) := hp.symm
   have HQ : Hid (idPp (ofL y) = q) := hq.symm
   have HKN : Hid (idPn (ofL y) = k) := hk.symm
   obtain ⟨n, hn⟩ : ∃ n, n = L2.length := ⟨_, rfl⟩
   have HNL : Hid _ := hn
   have h0n : ¬ ((i : Int) < 0) := by omega
   have hlt0 : (i : Int) < (n : Int) := by omega
   rw [← hq, ← hk, ← hek, ← hn]
   clear hp hb4 hA4 d4 k2 hn hq hk hek
   go_wp2_with fail
   simp only [← hB, ← hW4]
   clear hB hW4
   refine wp_region_gx 8 8 87 (by kernel_rfl) ?ok ?forced rfl (fun _ => WO fa m fc b o n pc i p q k) (fun W => Below W4.heap.size W4 W) (belowDrew1 _) ?step ?fin
   case ok => kernel_rfl
   case forced => kernel_rfl
   case step =>
    intro i' oq hi' ho L A W hLi hpre hF hJ hV
    have s10 : A.tmps[10]? = some (.slice fa m fc) := hF.at (by kernel_rfl) rfl
    have s8 : A.tmps[8]? = some (.slice (some ⟨b, o, none⟩) n pc) := hF.at (by kernel_rfl) rfl
    have s11 : A.tmps[11]? = some (.int .i64 i) := hF.at (by kernel_rfl) rfl
    have s12 : A.tmps[12]? = some (.pointer (some ⟨B, 0, none⟩)) := hF.at (by kernel_rfl) rfl
    obtain ⟨k0, k1, k2⟩ := HK.out W hJ
    have hWs := hJ.size
    match i', hi' with
   | 0, _ =>
    cases ho
    refine .inl ⟨wanted_none rfl, fun K hK => rg_val (v := .slice fa m fc) ?_ (hK _ _ (fun j u _ => WO.below (Below.refl _ _) j u) rfl hJ)⟩
    simp [execOp, Act.eval, go_sem, s10]
   | 1, _ =>
    cases ho
    refine .inl ⟨wanted_none rfl, fun K hK => rg_val (v := .slice (some ⟨b, o, none⟩) n pc) ?_ (hK _ _ (fun j u _ => WO.below (Below.refl _ _) j u) rfl hJ)⟩
    simp [execOp, Act.eval, go_sem, s8]
   | 2, _ =>
    cases ho
    refine .inl ⟨wanted_none rfl, fun K hK => rg_val (v := .int .i64 i) ?_ (hK _ _ (fun j u _ => WO.below (Below.refl _ _) j u) rfl hJ)⟩
    simp [execOp, Act.eval, go_sem, s11]
   | 3, _ =>
    cases ho
    have sx := hF.slot (i := 1) rfl (by simp) (hV 1 (hpre ⟨1, .data⟩ (by simp) rfl))
    have sy := hF.slot (i := 2) rfl (by simp) (hV 2 (hpre ⟨2, .data⟩ (by simp) rfl))
    refine .inl ⟨wanted_none rfl, fun K hK => rg_val (v := .pointer (some ⟨b, o + i, none⟩)) ?_ (hK _ _ (fun j u _ => WO.below (Below.refl _ _) j u) rfl hJ)⟩
    simp [execOp, Act.eval, go_sem, sx, sy, h0n, hlt0]
   | 4, _ =>
    cases ho
    have sx := hF.slot (i := 3) rfl (by simp) (hV 3 (hpre ⟨3, .data⟩ (by simp) rfl))
    refine .inl ⟨wanted_none rfl, fun K hK => rg_val (v := .string p) ?_ (hK _ _ (fun j u _ => WO.below (Below.refl _ _) j u) rfl hJ)⟩
    simp [execOp, Act.eval, go_sem, sx, k0]
   | 5, _ =>
    cases ho
    refine .inl ⟨wanted_none rfl, fun K hK => rg_val (v := .agg #[.string q, .int .i64 k]) ?_ (hK _ _ (fun j u _ => WO.below (Below.refl _ _) j u) rfl hJ)⟩
    simp [execOp, Act.eval, go_sem, s12, k1, k2]
   | 6, _ =>
    cases ho
    have sx := hF.slot (i := 4) rfl (by simp) (hV 4 (hpre ⟨4, .data⟩ (by simp) rfl))
    have sy := hF.slot (i := 5) rfl (by simp) (hV 5 (hpre ⟨5, .data⟩ (by simp) rfl))
    refine .inl ⟨wanted_none rfl, fun K hK => rg_val (v := .agg #[.string p, .string q, .int .i64 k]) ?_ (hK _ _ (fun j u _ => WO.below (Below.refl _ _) j u) rfl hJ)⟩
    simp [execOp, Act.eval, go_sem, sx, sy]
   | 7, _ =>
    cases ho
    have sx := hF.slot (i := 6) rfl (by simp) (hV 6 (hpre ⟨6, .data⟩ (by simp) rfl))
    refine .inl ⟨wanted_none rfl, fun K hK => rg_val (w' := W.alloc (.cells #[.string p, .string q, .int .i64 k] 40)) (v := .slice (some ⟨W.heap.size, 0, none⟩) 1 1) ?_ (hK _ _ (fun j u _ => WO.below (belowAlloc _ _) j u) ⟨_, _, rfl, (MapKept.heap_alloc _ _).1⟩ (hJ.trans ((belowAlloc _ _).mono hWs)))⟩
    simp [execOp, Act.eval, go_sem, sx]
   case fin =>
    intro A W hF hJ hV
    have e0 : A.tmps.getD 54 undef = .slice fa m fc := hV 0 (by omega)
    obtain ⟨g, gc, e7, h7⟩ := hV 7 (by omega)
    have e7 : A.tmps.getD 61 undef = .slice (some ⟨g, 0, none⟩) 1 gc := e7
    rw [hF.lit [54, 55, 56, 57, 58, 59, 60, 61] (by kernel_rfl)]
    simp only [relaid, List.foldl_cons, List.foldl_nil, e0, e7]
    generalize A.tmps.getD 55 undef = y55
    generalize A.tmps.getD 56 undef = y56
    generalize A.tmps.getD 57 undef = y57
    generalize A.tmps.getD 58 undef = y58
    generalize A.tmps.getD 59 undef = y59
    generalize A.tmps.getD 60 undef = y60
    simp only [List.setIfInBounds_toArray, List.set_cons_succ, List.set_cons_zero, List.drop_succ_cons]
    clear hV hF e0 e7
    obtain ⟨r1, r2, r3⟩ := REL.out
    have hBW : Below wr.heap.size wr W := belowTrans HB4.out hJ
    have hrow := ownsRow_below r2 hBW
    have hml : m ≤ 1000000 := by omega
    have hz9 := (belowTrans r3 hBW).size
    refine wpList_append_src W rfl (.tmp 54) (.tmp 61) 23 rfl w6.heap.size 40 io _ 3 _ Tryz.underlying23 hio hz0 hz1 hz2 rfl (by decide) _ m _ rfl hrow _ 1 [.string p, .string q, .int .i64 k] rfl (.inr ⟨_, _, rfl, rfl, ?src⟩) ?one ?len3 ?bytes3 ?base3 ?_
    case src =>
     intro j u hu
     rw [Addr.add_lit, Nat.zero_add]
     have h8 : W.cell? ⟨g, j, none⟩ = (#[.string p, .string q, .int .i64 k] : Array Value)[j]? := by simp [World.cell?, h7]
     rw [h8]
     simpa using hu
    case one =>
     intro u hu
     simp only [List.mem_cons, List.not_mem_nil, or_false] at hu
     rcases hu with rfl | rfl | rfl <;> rfl
    case len3 => unfold maxLen; omega
    case bytes3 => omega
    case base3 => exact hz9
    intro v' w' hown' hg _
    obtain ⟨ta', tc', rfl⟩ := ownShape hown'
    have HN : Hid (i + 2 = 2 * (m + 1) ∧ w'.ownsRow w6.heap.size 40 3 (.slice ta' (m + 1) tc') (m + 1) (((tracksK L2).take (m + 1)).flatMap TrackV.cells) ∧ Below w6.heap.size w6 w') := by
     refine ⟨by omega, ?_, ?_⟩
     ·rw [List.take_add_one, HKA.out, Option.toList_some, List.flatMap_append]
      have e : [(⟨ofL x, idPp (ofL y), idPn (ofL y)⟩ : TrackV)].flatMap TrackV.cells = [.string p, .string q, .int .i64 k] := by
       rw [HP.out, HQ.out, HKN.out]
       rfl
      rw [e]
      exact hown'
     ·have h6 : Below w6.heap.size w6 W := belowTrans r3 hBW
      exact h6.grown hg h6.size (fun k hk => (hrow.lt k hk).1)
    have HI3 : Hid (i + 2 ≤ L2.length) := by have := HNL.out; show _ ≤ _; omega
    have hn2 := HNL.out
    clear hown' hg hrow r1 r2 r3 hBW h7 hJ hz9
    go_wp2
    go_roundg (L2.length - (i + 2))
    case measure => omega
    case rel => exact ⟨m + 1, i + 2, _, _, rfl, by go_num, HI3.out, Nat.le_refl _, HN.out⟩
  ·obtain ⟨r1, r2, r3⟩ := REL.out
   have hmz : m = (tracksK L2).length := by rw [tracksK_len]; omega
   obtain ⟨ts, hts⟩ : ∃ ts, ts = tracksK L2 := ⟨_, rfl⟩
   rw [← hts] at hmz r2 HTS
   rw [hmz, List.take_length] at r2
   subst hmz
   have HTSL : Hid (ts = tracksK (listE p1).1) := by show _ = _; rw [hts, HL2.out.1]
   have htl : ts.length ≤ 1000000 := by omega
   have hcap : ts.length ≤ fc := by
    rcases r2.2 with ⟨h0, h1⟩ | ⟨g, cap, cur, h0, _, _, h1, _⟩
    ·omega
    ·simp only [Value.slice.injEq] at h0
     omega
   have HTH : Hid (TracksH wr fa ts) := tracksH_row r2
   have HJ7 : Hid (Below W5.heap.size W5 wr) := belowTrans HJ6.out r3
   have HB7 : Hid (Below w.heap.size w wr) := belowTrans (belowTrans HB1.out HJ5.out) HJ7.out
   have HB0' : Hid (wr.heap[w.heap.size]? = some (.cells #[.slice none 0 0, .slice none 0 0] 42 (0, 0))) := ((belowTrans HJ5.out HJ7.out).block _ (Array.getElem?_eq_some_iff.1 H1.out).1).trans H1.out
   have hc7 := (HJ7.out.block b7 (Array.getElem?_eq_some_iff.1 H7.out).1).trans H7.out
   have x7 : wr.cell? ⟨b7, 0, none⟩ = some (.slice a7 fs.length c7) := by simp [World.cell?, hc7]
   have HMK : Hid _ := work_Make a7 fa c7 fc fs ts wr (HF.out.below HJ7.out) HOK.out HTH.out (fun t ht => by have := (HTS.out t ht).1; omega) htl hcap (HM.out.below HB7.out)
   have hm0 : ¬ (i : Int) + 1 < (L2.length : Int) := hlt
   clear r1 r2 r3 REL hts hc7 hcap
   go_wp2_with fail
   refine Calls.mono HMK.out ?_
   rintro e w9 ⟨hret, hb9⟩
   generalize hE : makeE (hasP (pathsOf fs)) [] ts = E at hret
   have hun : ∃ (x0 : Option Addr) (n0 m0 : Nat) (x1 : Option Addr) (n1 m1 : Nat), e = .returned (.tuple #[.agg #[.slice x0 n0 m0, .slice x1 n1 m1], .int .i64 E]) ∧ (E ≠ 0 ∨ (E = 0 ∧ x0 = a7 ∧ n0 = fs.length ∧ m0 = c7 ∧ ∃ gs : List TrackV, n1 = gs.length ∧ gs.Perm ts ∧ gs.Pairwise (fun x y => pathLess y.path x.path = false) ∧ TracksH w9 x1 gs)) := by
    rcases hret with ⟨h1, h2⟩ | ⟨h1, ra, rc, gs, g1, g2, g3, g4⟩
    ·rw [hE] at h1 h2
     exact ⟨_, _, _, _, _, _, h2, .inl h1⟩
    ·rw [hE] at h1
     exact ⟨_, _, _, _, _, _, by rw [g3, h1], .inr ⟨h1, rfl, rfl, rfl, gs, g1.length_eq.symm, g1, g2, g4⟩⟩
   obtain ⟨x0, n0, m0, x1, n1, m1, rfl, hun⟩ := hun
   have HE : Hid (makeE (hasP (pathsOf fs)) [] ts = E) := hE
   have HUN : Hid _ := hun
   clear hret hun hE HMK x7
   obtain ⟨W9, hW9⟩ : ∃ W9, W9 = w9.alloc (.cells #[.slice x0 n0 m0, .slice x1 n1 m1] 42) := ⟨_, rfl⟩
   have hA9 : Below w9.heap.size w9 W9 := by rw [hW9]; exact belowAlloc _ _
   have HR9 : Hid (Below wr.heap.size wr W9) := belowTrans hb9 hA9
   have HB9 : Hid (Below w.heap.size w W9) := belowTrans HB7.out HR9.out
   have H9 : Hid (W9.heap[w.heap.size]? = some (.cells #[.slice none 0 0, .slice none 0 0] 42 (0, 0))) := (HR9.out.block _ (Array.getElem?_eq_some_iff.1 HB0'.out).1).trans HB0'.out
   have HX9 : Hid (W9.heap[w9.heap.size]? = some (.cells #[.slice x0 n0 m0, .slice x1 n1 m1] 42 (0, 0))) := by show _ = _; rw [hW9]; exact (MapKept.heap_alloc _ _).1
   have HT9 : Hid (∀ gs, TracksH w9 x1 gs → TracksH W9 x1 gs) := fun gs h => h.below hA9
   clear hb9 hA9
   rcases HE5.out with ⟨h5, hng⟩ | ⟨h5, hgood, hp0⟩
   ·have HNG : Hid (∀ fs ts, GoodW fs ts → dl s ≠ workT fs ts) := fun fs' ts' hG e => hng fs' hG.tree (HRD.out fs' ts' hG e).2.1
    rw [hW9] at H9 HB9
    clear hng hW9
    obtain ⟨z0, z1, z2, z3⟩ := zeroWork H9.out
    go_wp2
    have hf0 := setCell_block (.slice none 0 0) H9.out (i := 0)
    have hfin := setCell_block (.slice none 0 0) hf0 (i := 1)
    refine bodyPost_ret_by (results_cell_row_tmp (p := 2) (u := 3) rfl _ _ w.heap.size _ _ _ _ ?hp hfin Tryz.underlying42 rfl (by kernel_rfl)) rfl ⟨?_, (HB9.out.setCell (Nat.le_refl _) _).setCell (Nat.le_refl _) _⟩
    case hp => rfl
    rw [HGOAL.out]
    exact Or.inl ⟨6, by decide, rfl, HNG.out⟩
   ·have HP0 : Hid (p0 = treeT fs) := hp0
    have HGD : Hid (Good fs) := hgood
    clear hp0 hgood
    subst h5
    by_cases h2 : en2 = 0
    case neg =>
     have HNG : Hid (∀ fs ts, GoodW fs ts → dl s ≠ workT fs ts) := fun fs' ts' hG e => h2 (by
      obtain ⟨_, _, q1, q2, _⟩ := HRD.out fs' ts' hG e
      rw [HL2.out.2, q1]
      exact q2)
     rw [hW9] at H9 HB9
     clear hW9
     obtain ⟨z0, z1, z2, z3⟩ := zeroWork H9.out
     go_wp2
     have hf0 := setCell_block (.slice none 0 0) H9.out (i := 0)
     have hfin := setCell_block (.slice none 0 0) hf0 (i := 1)
     refine bodyPost_ret_by (results_cell_row_tmp (p := 2) (u := 3) rfl _ _ w.heap.size _ _ _ _ ?hp hfin Tryz.underlying42 rfl (by kernel_rfl)) rfl ⟨?_, (HB9.out.setCell (Nat.le_refl _) _).setCell (Nat.le_refl _) _⟩
     case hp => rfl
     rw [HGOAL.out]
     exact Or.inl ⟨6, by decide, rfl, HNG.out⟩
    subst h2
    have HKS : Hid (∀ fs' ts', GoodW fs' ts' → dl s = workT fs' ts' → fs.map FileV.key = fs'.map FileV.key ∧ ts = ts') := fun fs' ts' hG e => by
     obtain ⟨_, q0, q1, _, q2⟩ := HRD.out fs' ts' hG e
     refine ⟨treeT_inj (by rw [← HP0.out]; exact hl0) (by rw [← HP0.out, q0]), ?_⟩
     rw [HTSL.out, q1]
     exact q2
    by_cases hE0 : E = 0
    case neg =>
     have HNG : Hid (∀ fs ts, GoodW fs ts → dl s ≠ workT fs ts) := fun fs' ts' hG e => by
      obtain ⟨k1, k2⟩ := HKS.out fs' ts' hG e
      apply hE0
      rw [← HE.out, pathsOf_keys k1, k2]
      exact hG.make
     rw [hW9] at H9 HB9
     clear hW9
     obtain ⟨z0, z1, z2, z3⟩ := zeroWork H9.out
     go_wp2
     have hf0 := setCell_block (.slice none 0 0) H9.out (i := 0)
     have hfin := setCell_block (.slice none 0 0) hf0 (i := 1)
     refine bodyPost_ret_by (results_cell_row_tmp (p := 2) (u := 3) rfl _ _ w.heap.size _ _ _ _ ?hp hfin Tryz.underlying42 rfl (by kernel_rfl)) rfl ⟨?_, (HB9.out.setCell (Nat.le_refl _) _).setCell (Nat.le_refl _) _⟩
     case hp => rfl
     rw [HGOAL.out]
     exact Or.inl ⟨6, by decide, rfl, HNG.out⟩
    have HMZ : Hid (makeE (hasP (pathsOf fs)) [] ts = 0) := by show _ = _; rw [HE.out, hE0]
    obtain ⟨_, rfl, rfl, rfl, gs, rfl, g1, g2, g3⟩ := HUN.out.resolve_left (fun h => h hE0)
    subst hE0
    have HG1 : Hid (gs.Perm ts) := g1
    have HG2 : Hid (gs.Pairwise (fun x y => pathLess y.path x.path = false)) := g2
    have HG3 : Hid (TracksH W9 x1 gs) := HT9.out gs g3
    have hgl : gs.length ≤ 1000000 := by rw [g1.length_eq]; exact htl
    have HGS : Hid (∀ t, t ∈ gs → t.path.size ≤ 1000000 ∧ t.patch.size ≤ 1000000) := fun t ht => HTS.out t (g1.mem_iff.1 ht)
    clear g1 g2 g3 HUN
    have hbig : (workT fs gs).length ≤ 70368744177664 := by
     have k1 : (treeT fs).length ≤ 3000000000000 := by rw [← HP0.out]; omega
     have k2 := trackL_le (M := 1000000) hgl ⟨by decide, by decide⟩ (fun t ht => (HGS.out t ht).1)
     have k3 : (listT (trackL gs)).length ≤ 3000000000000 := by omega
     have := workT_le (by decide) k1 k3
     omega
    have HWT : Hid _ := save_WorkText x0 x1 m0 m1 fs gs W9 (HF.out.below (belowTrans HJ7.out HR9.out)) HOK.out.lines HOK.out.len HG3.out hgl (fun t ht => by have := (HGS.out t ht).2; omega) hbig
    have x14 : W9.cell? ⟨w9.heap.size, 0, none⟩ = some (.slice x0 fs.length m0) ∧ W9.cell? ⟨w9.heap.size, 1, none⟩ = some (.slice x1 gs.length m1) := by have := HX9.out; exact ⟨by simp [World.cell?, this], by simp [World.cell?, this]⟩
    obtain ⟨x14a, x14b⟩ := x14
    have HQ := toList_eq_iff (ofL (workT fs gs)) s
    clear hbig
    cases h1 : decide (ofL (workT fs gs) = s) with
    | true =>
     rw [h1] at HQ
     have HEQ : Hid (dl s = workT fs gs) := by
      have h2 := congrArg dl (of_decide_eq_true h1)
      rw [dl_ofL] at h2
      exact h2.symm
     clear h1
     generalize ofL (workT fs gs) = tg at *
     go_wp2_with fail
     simp only [← hW9]
     clear hW9
     refine Calls.mono HWT.out ?_
     rintro e wb ⟨rfl, hbb⟩
     have HBb : Hid _ := belowTrans HB9.out hbb
     have Hb : Hid _ := (hbb.block _ (Array.getElem?_eq_some_iff.1 H9.out).1).trans H9.out
     have hxb := (hbb.block _ (Array.getElem?_eq_some_iff.1 HX9.out).1).trans HX9.out
     have hs0 := setCell_block (.slice x0 fs.length m0) Hb.out (i := 0)
     have HF8 : Hid (FilesH ((wb.setCell ⟨w.heap.size, 0, none⟩ (.slice x0 fs.length m0)).setCell ⟨w.heap.size, 1, none⟩ (.slice x1 gs.length m1)) x0 fs) := filesH_ns (filesH_ns (HF.out.below (belowTrans (belowTrans HJ7.out HR9.out) hbb)) Hb.out noText_two _) hs0 noText_two _
     have HT8 : Hid (TracksH ((wb.setCell ⟨w.heap.size, 0, none⟩ (.slice x0 fs.length m0)).setCell ⟨w.heap.size, 1, none⟩ (.slice x1 gs.length m1)) x1 gs) := tracksH_ns (tracksH_ns (HG3.out.below hbb) Hb.out noText_two _) hs0 noText_two _
     clear x14a x14b hbb hs0
     have x14a : wb.cell? ⟨w9.heap.size, 0, none⟩ = some (.slice x0 fs.length m0) := by simp [World.cell?, hxb]
     have x14b : wb.cell? ⟨w9.heap.size, 1, none⟩ = some (.slice x1 gs.length m1) := by simp [World.cell?, hxb]
     obtain ⟨z0, z1, z2, z3⟩ := zeroWork Hb.out
     clear hxb
     go_wp2
     have hf0 := setCell_block (.slice x0 fs.length m0) Hb.out (i := 0)
     have hfin := setCell_block (.slice x1 gs.length m1) hf0 (i := 1)
     refine bodyPost_ret_by (results_cell_row_tmp (p := 2) (u := 3) rfl _ _ w.heap.size _ _ _ _ ?hp hfin Tryz.underlying42 rfl (by kernel_rfl)) rfl ⟨?_, (HBb.out.setCell (Nat.le_refl _) _).setCell (Nat.le_refl _) _⟩
     case hp => rfl
     rw [HGOAL.out]
     exact Or.inr ⟨x0, m0, fs, x1, m1, gs, HOK.out, HGD.out, HEQ.out, by rw [← HTSL.out]; exact HG1.out, HG2.out, hgl, rfl, HF8.out, HT8.out⟩
    | false =>
     rw [h1] at HQ
     have HNG : Hid (∀ fs ts, GoodW fs ts → dl s ≠ workT fs ts) := fun fs' ts' hG e => by
      obtain ⟨k1, k2⟩ := HKS.out fs' ts' hG e
      have k3 := sorted_same HMZ.out (by rw [k2]; exact hG.sorted) HG1.out HG2.out
      apply of_decide_eq_false h1
      rw [workT_keys k1, k3, k2, ← e]
      exact ofL_dl s
     clear h1
     generalize ofL (workT fs gs) = tg at *
     go_wp2_with fail
     simp only [← hW9]
     clear hW9
     refine Calls.mono HWT.out ?_
     rintro e wb ⟨rfl, hbb⟩
     have HBb : Hid _ := belowTrans HB9.out hbb
     have Hb : Hid _ := (hbb.block _ (Array.getElem?_eq_some_iff.1 H9.out).1).trans H9.out
     clear x14a x14b hbb
     obtain ⟨z0, z1, z2, z3⟩ := zeroWork Hb.out
     go_wp2
     have hf0 := setCell_block (.slice none 0 0) Hb.out (i := 0)
     have hfin := setCell_block (.slice none 0 0) hf0 (i := 1)
     refine bodyPost_ret_by (results_cell_row_tmp (p := 2) (u := 3) rfl _ _ w.heap.size _ _ _ _ ?hp hfin Tryz.underlying42 rfl (by kernel_rfl)) rfl ⟨?_, (HBb.out.setCell (Nat.le_refl _) _).setCell (Nat.le_refl _) _⟩
     case hp => rfl
     rw [HGOAL.out]
     exact Or.inl ⟨6, by decide, rfl, HNG.out⟩
end Go.Proofs.W
