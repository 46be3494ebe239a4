/- A PART OF THE PROOF THAT SAVETEXTS HOLDS FOR EVERY INPUT OF BULK AT MOST 1048576. No condition beyond the given statement. This part: WSameT. -/
import Derived.Test.YtciahohaonhdgaaGreatDoorWHead
import Derived.Deep.LoopGhost
namespace Go.Proofs.W
open Go Go.Proofs Go.RowKit Go.Op
set_option maxRecDepth 1000000
set_option maxHeartbeats 8000000 in
theorem strs_Equal (a a2 : Option Addr) (c c2 : Nat) (xs : List ByteArray) (w : World) (h : TextsH w a xs) (h2 : TextsH w a2 xs) (hlen : xs.length < 9223372036854775808) :
  Calls Tryz.prog 84 #[.slice a xs.length c, .slice a2 xs.length c2] w fun e w' => e = .returned (.bool true) ∧ Below w.heap.size w w' := by
 have mixed : Tryz.prog.follows .mixedOrders = true := by kernel_rfl
 go_enter Tryz.func84, Tryz.ntmps84
 go_wp2
 go_loopg [13] xs.length (fun kx s13 wr => ∃ i : Nat, s13 = .int .i64 i ∧ i ≤ xs.length ∧ xs.length - i ≤ kx ∧ Hid (Below w.heap.size w wr))
 case atStart => exact ⟨0, rfl, Nat.zero_le _, Nat.le_refl _, Below.refl _ w⟩
 case round =>
  obtain ⟨i, rfl, hi, hkx, HB⟩ := hrel
  by_cases hlt : i < xs.length
  ·obtain ⟨b, o, rfl, hN⟩ : ∃ b o, a = some ⟨b, o, none⟩ ∧ TextsAt w b o xs := h.resolve_left (by omega)
   obtain ⟨b2, o2, rfl, hN2⟩ : ∃ b o, a2 = some ⟨b, o, none⟩ ∧ TextsAt w b o xs := h2.resolve_left (by omega)
   obtain ⟨x, hx⟩ : ∃ x, xs[i]? = some x := ⟨_, List.getElem?_eq_getElem hlt⟩
   have e0 := (hN.below HB.out).cell i x hx
   have e1 := (hN2.below HB.out).cell i x hx
   have hiz : (i : Int) < (xs.length : Int) := by omega
   have hnn : ¬ (i : Int) < 0 := by omega
   have hnn0 : (0 : Int) ≤ (i : Int) := by omega
   have HBq : Hid _ := fun k => belowTrans HB.out (belowDrew wr k)
   clear hN hN2 hx
   go_wp2_with fail
   go_quiet (fail)
   clear e0 e1
   go_wp2
   go_roundg (xs.length - (i + 1))
   case measure => omega
   case rel => exact ⟨i + 1, by go_num, by omega, Nat.le_refl _, HBq.out _⟩
  ·have hiz : ¬ (i : Int) < (xs.length : Int) := by omega
   go_wp2
   go_ret
   exact ⟨rfl, HB.out⟩
set_option maxHeartbeats 8000000 in
theorem lines_SameT (a a2 : Option Addr) (c c2 : Nat) (xs : List ByteArray) (w : World) (h : TextsH w a xs) (h2 : TextsH w a2 xs) (hlen : xs.length < 9223372036854775808) :
  Calls Tryz.prog 37 #[.slice a xs.length c, .slice a2 xs.length c2] w fun e w' => e = .returned (.bool true) ∧ Below w.heap.size w w' := by
 have hc := strs_Equal a a2 c c2 xs w h h2 hlen
 go_enter Tryz.func37, Tryz.ntmps37
 go_wp2_with fail
 refine Calls.mono hc ?_
 rintro e w' ⟨rfl, hb⟩
 go_wp2
 go_ret
 exact ⟨rfl, hb⟩
set_option maxHeartbeats 8000000 in
theorem tracks_Equal (a a2 : Option Addr) (c c2 : Nat) (xs : List TrackV) (w : World) (h : TracksH w a xs) (h2 : TracksH w a2 xs) (hlen : xs.length < 9223372036854775808) :
  Calls Tryz.prog 48 #[.slice a xs.length c, .slice a2 xs.length c2] w fun e w' => e = .returned (.bool true) ∧ Below w.heap.size w w' := by
 have mixed : Tryz.prog.follows .mixedOrders = true := by kernel_rfl
 go_enter Tryz.func48, Tryz.ntmps48
 go_wp2
 go_loopg [13] xs.length (fun kx s13 wr => ∃ i : Nat, s13 = .int .i64 i ∧ i ≤ xs.length ∧ xs.length - i ≤ kx ∧ Hid (Below w.heap.size w wr))
 case atStart => exact ⟨0, rfl, Nat.zero_le _, Nat.le_refl _, Below.refl _ w⟩
 case round =>
  obtain ⟨i, rfl, hi, hkx, HB⟩ := hrel
  by_cases hlt : i < xs.length
  ·obtain ⟨b, o, rfl, hN⟩ : ∃ b o, a = some ⟨b, o, none⟩ ∧ TracksAt w b o xs := h.resolve_left (by omega)
   obtain ⟨b2, o2, rfl, hN2⟩ : ∃ b o, a2 = some ⟨b, o, none⟩ ∧ TracksAt w b o xs := h2.resolve_left (by omega)
   obtain ⟨x, hx⟩ : ∃ x, xs[i]? = some x := ⟨_, List.getElem?_eq_getElem hlt⟩
   obtain ⟨c0, c1, c2'⟩ := (hN.below HB.out).cell i x hx
   obtain ⟨d0, d1, d2⟩ := (hN2.below HB.out).cell i x hx
   have hiz : (i : Int) < (xs.length : Int) := by omega
   have hnn : ¬ (i : Int) < 0 := by omega
   have hnn0 : (0 : Int) ≤ (i : Int) := by omega
   have HBq : Hid _ := fun k => belowTrans HB.out (belowDrew wr k)
   clear hN hN2 hx
   go_wp2_with fail
   go_quiet (fail)
   clear c0 c1 c2' d0 d1 d2
   go_wp2
   go_roundg (xs.length - (i + 1))
   case measure => omega
   case rel => exact ⟨i + 1, by go_num, by omega, Nat.le_refl _, HBq.out _⟩
  ·have hiz : ¬ (i : Int) < (xs.length : Int) := by omega
   go_wp2
   go_ret
   exact ⟨rfl, HB.out⟩
set_option maxHeartbeats 8000000 in
theorem tree_Same1 (f g : FileV) (w : World) (hk : FileV.key f = FileV.key g) (h : TextsH w f.la f.lines) (h2 : TextsH w g.la g.lines) (hlen : f.lines.length < 9223372036854775808) :
  Calls Tryz.prog 36 #[f.val, g.val] w fun e w' => e = .returned (.bool true) ∧ Below w.heap.size w w' := by
 unfold FileV.key at hk
 simp only [Prod.mk.injEq] at hk
 obtain ⟨k1, k2, k3⟩ := hk
 unfold FileV.val
 rw [← k1, ← k2, ← k3]
 rw [← k3] at h2
 clear k1 k2 k3
 obtain ⟨W, hW⟩ : ∃ W, W = (w.alloc (.cells #[.string f.path, .bool f.dir, .slice f.la f.lines.length f.lc] 56)).alloc (.cells #[.string f.path, .bool f.dir, .slice g.la f.lines.length g.lc] 56) := ⟨_, rfl⟩
 have hA : Below w.heap.size w W := by rw [hW]; exact belowTrans (belowAlloc _ _) (belowAlloc _ _)
 have b1 : W.heap[w.heap.size]? = some (.cells #[.string f.path, .bool f.dir, .slice f.la f.lines.length f.lc] 56 (0, 0)) := by
  rw [hW, Below.heap_alloc _ _ _ (by simp)]
  exact (MapKept.heap_alloc w _).1
 have b2 : W.heap[w.heap.size + 1]? = some (.cells #[.string f.path, .bool f.dir, .slice g.la f.lines.length g.lc] 56 (0, 0)) := by
  rw [hW, show w.heap.size + 1 = (w.alloc (.cells #[.string f.path, .bool f.dir, .slice f.la f.lines.length f.lc] 56)).heap.size by simp]
  exact (MapKept.heap_alloc _ _).1
 have p0 : W.cell? ⟨w.heap.size, 0, none⟩ = some (.string f.path) := by simp [World.cell?, b1]
 have p1 : W.cell? ⟨w.heap.size, 1, none⟩ = some (.bool f.dir) := by simp [World.cell?, b1]
 have p2 : W.cell? ⟨w.heap.size, 2, none⟩ = some (.slice f.la f.lines.length f.lc) := by simp [World.cell?, b1]
 have q0 : W.cell? ⟨w.heap.size + 1, 0, none⟩ = some (.string f.path) := by simp [World.cell?, b2]
 have q1 : W.cell? ⟨w.heap.size + 1, 1, none⟩ = some (.bool f.dir) := by simp [World.cell?, b2]
 have q2 : W.cell? ⟨w.heap.size + 1, 2, none⟩ = some (.slice g.la f.lines.length g.lc) := by simp [World.cell?, b2]
 have HC : Hid _ := lines_SameT f.la g.la f.lc g.lc f.lines W (h.below hA) (h2.below hA) hlen
 have HA : Hid _ := hA
 have hp : (f.path.toList == f.path.toList) = true := by simp
 clear hA b1 b2
 go_enter Tryz.func36, Tryz.ntmps36
 go_wp2_with fail
 simp only [← hW]
 refine Calls.mono HC.out ?_
 rintro e w' ⟨rfl, hb⟩
 have HB : Hid _ := belowTrans HA.out hb
 clear hb p0 p1 p2 q0 q1 q2
 go_wp2
 go_ret
 exact ⟨rfl, HB.out⟩
end Go.Proofs.W
namespace Go.Proofs.W
open Go Go.Proofs Go.RowKit Go.Op
set_option maxRecDepth 1000000
set_option maxHeartbeats 800000 in
theorem files_Equal (a a2 : Option Addr) (c c2 : Nat) (xs ys : List FileV) (w : World) (h : FilesH w a xs) (h2 : FilesH w a2 ys) (hk : xs.map FileV.key = ys.map FileV.key) (hlen : xs.length < 9223372036854775808) :
  Calls Tryz.prog 35 #[.slice a xs.length c, .slice a2 ys.length c2, .func (.func 36) #[] #[]] w fun e w' => e = .returned (.bool true) ∧ Below w.heap.size w w' := by
 have hl : ys.length = xs.length := by simpa using (congrArg List.length hk).symm
 have HL : Hid (ys.length = xs.length) := hl
 rw [hl]
 clear hl
 have HK : Hid _ := hk
 clear hk
 go_enter Tryz.func35, Tryz.ntmps35
 go_wp2
 go_loopg [17] xs.length (fun kx s17 wr => ∃ i : Nat, s17 = .int .i64 i ∧ i ≤ xs.length ∧ xs.length - i ≤ kx ∧ Hid (Below w.heap.size w wr))
 case atStart => exact ⟨0, rfl, Nat.zero_le _, Nat.le_refl _, Below.refl _ w⟩
 case round =>
  obtain ⟨i, rfl, hi, hkx, HB⟩ := hrel
  by_cases hlt : i < xs.length
  ·have hly := HL.out
   obtain ⟨b, o, rfl, hN⟩ : ∃ b o, a = some ⟨b, o, none⟩ ∧ FilesAt w b o xs := h.resolve_left (by omega)
   obtain ⟨b2, o2, rfl, hN2⟩ : ∃ b o, a2 = some ⟨b, o, none⟩ ∧ FilesAt w b o ys := h2.resolve_left (by omega)
   obtain ⟨X, hd⟩ : ∃ x, xs[i]? = some x := ⟨_, List.getElem?_eq_getElem hlt⟩
   obtain ⟨Y, hd2⟩ : ∃ y, ys[i]? = some y := ⟨_, List.getElem?_eq_getElem (by omega)⟩
   have hkk : FileV.key X = FileV.key Y := by
    have h := congrArg (·[i]?) HK.out
    simpa only [List.getElem?_map, hd, hd2, Option.map_some, Option.some.injEq] using h
   obtain ⟨c0, c1, c2'⟩ := (hN.below HB.out).cell i X hd
   obtain ⟨W1, hW1⟩ : ∃ W1, W1 = wr.alloc (.cells #[.string X.path, .bool X.dir, .slice X.la X.lines.length X.lc] 56) := ⟨_, rfl⟩
   have hB1 : Below wr.heap.size wr W1 := by rw [hW1]; exact belowAlloc _ _
   obtain ⟨d0, d1, d2⟩ := ((hN2.below HB.out).below hB1).cell i Y hd2
   obtain ⟨W2, hW2⟩ : ∃ W2, W2 = W1.alloc (.cells #[.string Y.path, .bool Y.dir, .slice Y.la Y.lines.length Y.lc] 56) := ⟨_, rfl⟩
   have hB2 : Below wr.heap.size wr W2 := belowTrans hB1 (by rw [hW2]; exact belowAlloc _ _)
   have hz1 : W1.heap.size = wr.heap.size + 1 := by rw [hW1, allocSize]
   have x1 : W1.heap[wr.heap.size]? = some (.cells #[.string X.path, .bool X.dir, .slice X.la X.lines.length X.lc] 56 (0, 0)) := by rw [hW1]; exact (MapKept.heap_alloc _ _).1
   have x2 : W2.heap[wr.heap.size]? = some (.cells #[.string X.path, .bool X.dir, .slice X.la X.lines.length X.lc] 56 (0, 0)) := by rw [hW2, Below.heap_alloc _ _ _ (by omega)]; exact x1
   have y2 : W2.heap[wr.heap.size + 1]? = some (.cells #[.string Y.path, .bool Y.dir, .slice Y.la Y.lines.length Y.lc] 56 (0, 0)) := by rw [hW2, ← hz1]; exact (MapKept.heap_alloc _ _).1
   have p0 : W2.cell? ⟨wr.heap.size, 0, none⟩ = some (.string X.path) := by simp [World.cell?, x2]
   have p1 : W2.cell? ⟨wr.heap.size, 1, none⟩ = some (.bool X.dir) := by simp [World.cell?, x2]
   have p2 : W2.cell? ⟨wr.heap.size, 2, none⟩ = some (.slice X.la X.lines.length X.lc) := by simp [World.cell?, x2]
   have q0 : W2.cell? ⟨wr.heap.size + 1, 0, none⟩ = some (.string Y.path) := by simp [World.cell?, y2]
   have q1 : W2.cell? ⟨wr.heap.size + 1, 1, none⟩ = some (.bool Y.dir) := by simp [World.cell?, y2]
   have q2 : W2.cell? ⟨wr.heap.size + 1, 2, none⟩ = some (.slice Y.la Y.lines.length Y.lc) := by simp [World.cell?, y2]
   have hT := hN.sub i X hd
   have hT2 := hN2.sub i Y hd2
   have HC : Hid _ := tree_Same1 X Y W2 hkk ((hT.1.below HB.out).below hB2) ((hT2.1.below HB.out).below hB2) hT.2
   have HB2 : Hid _ := belowTrans HB.out hB2
   have hiz : (i : Int) < (xs.length : Int) := by omega
   have hnn : ¬ (i : Int) < 0 := by omega
   have hnn0 : (0 : Int) ≤ (i : Int) := by omega
   clear hN hN2 hd hd2 hT hT2 hB1 hB2 hkk x1 x2 y2 hly
   rw [hW1] at d0 d1 d2
   rw [hW2, hW1] at p0 p1 p2 q0 q1 q2
   go_wp2_with fail
   simp only [← hW1, ← hW2]
   refine Calls.mono HC.out ?_
   rintro e w' ⟨rfl, hb⟩
   have HB3 : Hid _ := belowTrans HB2.out hb
   clear hb HB2 HC p0 p1 p2 q0 q1 q2 d0 d1 d2 c0 c1 c2' hW1 hW2
   go_wp2
   go_roundg (xs.length - (i + 1))
   case measure => omega
   case rel => exact ⟨i + 1, by go_num, by omega, Nat.le_refl _, HB3.out⟩
  ·have hiz : ¬ (i : Int) < (xs.length : Int) := by omega
   go_wp2
   go_ret
   exact ⟨rfl, HB.out⟩
set_option maxHeartbeats 800000 in
theorem tree_Same (a a2 : Option Addr) (c c2 : Nat) (xs ys : List FileV) (w : World) (h : FilesH w a xs) (h2 : FilesH w a2 ys) (hk : xs.map FileV.key = ys.map FileV.key) (hlen : xs.length < 9223372036854775808) :
  Calls Tryz.prog 11 #[.agg #[.slice a xs.length c], .agg #[.slice a2 ys.length c2]] w fun e w' => e = .returned (.bool true) ∧ Below w.heap.size w w' := by
 obtain ⟨W, hW⟩ : ∃ W, W = (w.alloc (.cells #[.slice a xs.length c] 27)).alloc (.cells #[.slice a2 ys.length c2] 27) := ⟨_, rfl⟩
 have hA : Below w.heap.size w W := by rw [hW]; exact belowTrans (belowAlloc _ _) (belowAlloc _ _)
 have b1 : W.heap[w.heap.size]? = some (.cells #[.slice a xs.length c] 27 (0, 0)) := by
  rw [hW, Below.heap_alloc _ _ _ (by simp)]
  exact (MapKept.heap_alloc w _).1
 have b2 : W.heap[w.heap.size + 1]? = some (.cells #[.slice a2 ys.length c2] 27 (0, 0)) := by
  rw [hW, show w.heap.size + 1 = (w.alloc (.cells #[.slice a xs.length c] 27)).heap.size by simp]
  exact (MapKept.heap_alloc _ _).1
 have p0 : W.cell? ⟨w.heap.size, 0, none⟩ = some (.slice a xs.length c) := by simp [World.cell?, b1]
 have q0 : W.cell? ⟨w.heap.size + 1, 0, none⟩ = some (.slice a2 ys.length c2) := by simp [World.cell?, b2]
 have HC : Hid _ := files_Equal a a2 c c2 xs ys W (h.below hA) (h2.below hA) hk hlen
 have HA : Hid _ := hA
 clear hA b1 b2
 go_enter Tryz.func11, Tryz.ntmps11
 go_wp2_with fail
 simp only [← hW]
 refine Calls.mono HC.out ?_
 rintro e w' ⟨rfl, hb⟩
 have HB : Hid _ := belowTrans HA.out hb
 clear hb p0 q0
 go_wp2
 go_ret
 exact ⟨rfl, HB.out⟩
set_option maxHeartbeats 800000 in
theorem work_Same (a a2 ta ta2 : Option Addr) (c c2 tc tc2 : Nat) (xs ys : List FileV) (ts : List TrackV) (w : World) (h : FilesH w a xs) (h2 : FilesH w a2 ys) (hk : xs.map FileV.key = ys.map FileV.key) (hlen : xs.length < 9223372036854775808) (h3 : TracksH w ta ts) (h4 : TracksH w ta2 ts) (hlen2 : ts.length < 9223372036854775808) :
  Calls Tryz.prog 18 #[.agg #[.slice a xs.length c, .slice ta ts.length tc], .agg #[.slice a2 ys.length c2, .slice ta2 ts.length tc2]] w fun e w' => e = .returned (.bool true) ∧ Below w.heap.size w w' := by
 obtain ⟨W, hW⟩ : ∃ W, W = (w.alloc (.cells #[.slice a xs.length c, .slice ta ts.length tc] 42)).alloc (.cells #[.slice a2 ys.length c2, .slice ta2 ts.length tc2] 42) := ⟨_, rfl⟩
 have hA : Below w.heap.size w W := by rw [hW]; exact belowTrans (belowAlloc _ _) (belowAlloc _ _)
 have b1 : W.heap[w.heap.size]? = some (.cells #[.slice a xs.length c, .slice ta ts.length tc] 42 (0, 0)) := by
  rw [hW, Below.heap_alloc _ _ _ (by simp)]
  exact (MapKept.heap_alloc w _).1
 have b2 : W.heap[w.heap.size + 1]? = some (.cells #[.slice a2 ys.length c2, .slice ta2 ts.length tc2] 42 (0, 0)) := by
  rw [hW, show w.heap.size + 1 = (w.alloc (.cells #[.slice a xs.length c, .slice ta ts.length tc] 42)).heap.size by simp]
  exact (MapKept.heap_alloc _ _).1
 have hz : W.heap.size = w.heap.size + 2 := by rw [hW]; simp
 have BOX : Hid (∀ w', Below W.heap.size W w' → w'.cell? ⟨w.heap.size, 0, none⟩ = some (.slice a xs.length c) ∧ w'.cell? ⟨w.heap.size, 1, none⟩ = some (.slice ta ts.length tc) ∧ w'.cell? ⟨w.heap.size + 1, 0, none⟩ = some (.slice a2 ys.length c2) ∧ w'.cell? ⟨w.heap.size + 1, 1, none⟩ = some (.slice ta2 ts.length tc2)) := fun w' hb => by
  have e1 := (hb.block w.heap.size (by omega)).trans b1
  have e2 := (hb.block (w.heap.size + 1) (by omega)).trans b2
  refine ⟨?_, ?_, ?_, ?_⟩ <;> simp [World.cell?, e1, e2]
 obtain ⟨p0, p1, q0, q1⟩ := BOX.out W (Below.refl _ _)
 have HC : Hid _ := tree_Same a a2 c c2 xs ys W (h.below hA) (h2.below hA) hk hlen
 have HA : Hid _ := hA
 clear hA b1 b2 hz
 go_enter Tryz.func18, Tryz.ntmps18
 go_wp2_with fail
 simp only [← hW]
 refine Calls.mono HC.out ?_
 rintro e w2 ⟨rfl, hb⟩
 clear p0 p1 q0 q1
 obtain ⟨p0, p1, q0, q1⟩ := BOX.out w2 hb
 have HB : Hid _ := belowTrans HA.out hb
 clear hb hW
 go_wp2_with fail
 refine Calls.mono (tracks_Equal ta ta2 tc tc2 ts w2 (h3.below HB.out) (h4.below HB.out) hlen2) ?_
 rintro e w3 ⟨rfl, hb⟩
 have HB3 : Hid _ := belowTrans HB.out hb
 clear hb p0 p1 q0 q1
 go_wp2
 go_ret
 exact ⟨rfl, HB3.out⟩
end Go.Proofs.W
