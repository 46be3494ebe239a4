/- A PART OF THE PROOF THAT WORKMAKES HOLDS FOR EVERY INPUT OF BULK AT MOST 1048576. No condition beyond the given statement. This part: WSame. -/
import Derived.Test.YthodcfgoeffbdaaGreatDoorWHead
import Derived.Deep.LoopGhost
import Derived.Test.YthodcfgoeffbdaaGreatDoorWFile
namespace Go.Proofs.W
open Go Go.Proofs Go.RowKit
set_option maxRecDepth 1000000

set_option maxHeartbeats 4000000 in
theorem R01_Same (a a2 : Option Addr) (c c2 : Nat) (xs ys : List ByteArray) (w : World) (h : TextsH w a xs) (h2 : TextsH w a2 ys) (hlen : xs.length < 9223372036854775808) :
    Calls Tryz.prog 123 #[.slice a xs.length c, .slice a2 ys.length c2] w fun e w' => e = .returned (.bool (decide (xs = ys))) ∧ Below w.heap.size w w' := by
  by_cases hl : xs.length = ys.length
  · have hH : Hid (xs.length = ys.length) := hl
    rw [hl] at hlen ⊢
    clear hl
    go_enter Tryz.func123, Tryz.ntmps123
    go_wp2
    go_loopw [5] (fun x w' => Below w.heap.size w w' ∧ ∃ i : Nat, i ≤ ys.length ∧ x = .int .i64 i ∧ ∀ j, j < i → xs[j]? = ys[j]?) (fun x _ => ys.length - (intOf x).toNat)
    case atStart => exact ⟨Below.refl _ w, 0, Nat.zero_le _, rfl, fun j hj => absurd hj (Nat.not_lt_zero _)⟩
    case round =>
      obtain ⟨hB, i, hi, rfl, hno⟩ := hrel
      by_cases hlt : i < ys.length
      · obtain ⟨b2, o2, rfl, hN2⟩ : ∃ b o, a2 = some ⟨b, o, none⟩ ∧ TextsAt w b o ys := h2.resolve_left (by omega)
        obtain ⟨b, o, rfl, hN⟩ : ∃ b o, a = some ⟨b, o, none⟩ ∧ TextsAt w b o xs := h.resolve_left (by have : xs.length = ys.length := hH; omega)
        obtain ⟨x, hd⟩ : ∃ x, xs[i]? = some x := ⟨_, List.getElem?_eq_getElem (by have : xs.length = ys.length := hH; omega)⟩
        obtain ⟨y, hd2⟩ : ∃ y, ys[i]? = some y := ⟨_, List.getElem?_eq_getElem hlt⟩
        have c0 := (hN.below hB).cell i _ hd
        have c1 := (hN2.below hB).cell i _ hd2
        have hlt' : (i : Int) < (ys.length : Int) := by omega
        have hnn : ¬ (i : Int) < 0 := by omega
        have hnn0 : (0 : Int) ≤ (i : Int) := by omega
        have hBq : ∀ k, Below w.heap.size w (wr.drewN k) := fun k => belowTrans hB (belowDrew _ _)
        cases hq : (x.toList == y.toList)
        all_goals
          go_wp2_with fail
          go_quiet (fail)
          go_wp2
        all_goals first
          | (go_ret
             refine ⟨?_, hBq _⟩
             have hne : decide (xs = ys) = false := decide_eq_false fun e => by
               subst e
               rw [hd] at hd2
               obtain rfl := Option.some.inj hd2
               simp at hq
             rw [hne]
             rfl)
          | (go_roundw
             case rel => exact ⟨hBq _, i + 1, by omega, by push_cast; rfl, fun j hj => by
               by_cases e : j = i
               · subst e
                 rw [hd, hd2]
                 rw [toList_eq_iff] at hq
                 exact congrArg some (of_decide_eq_true hq)
               · exact hno j (by omega)⟩
             case measure => simp [intOf]; omega)
      · have hlt' : ¬ (i : Int) < (ys.length : Int) := by omega
        go_wp2
        go_ret
        refine ⟨?_, hB⟩
        have he : decide (xs = ys) = true := decide_eq_true <| List.ext_getElem? fun j => by
          have hx : xs.length = ys.length := hH
          by_cases hj : j < i
          · exact hno j hj
          · rw [List.getElem?_eq_none (by omega), List.getElem?_eq_none (by omega)]
        rw [he]
        rfl
  · have hl1 : ¬ (xs.length : Int) = (ys.length : Int) := by omega
    have hl2 : ((xs.length : Int) != (ys.length : Int)) = true := by simp; omega
    go_enter Tryz.func123, Tryz.ntmps123
    go_wp2
    go_ret
    refine ⟨?_, Below.refl _ _⟩
    have hne : decide (xs = ys) = false := decide_eq_false fun e => hl (congrArg List.length e)
    rw [hne]
    rfl
end Go.Proofs.W
namespace Go.Proofs.W
open Go Go.Proofs Go.RowKit
set_option maxRecDepth 1000000

/-- R06.Same at files that are the same by contents -/
theorem keys_at {xs ys : List FileV} (hk : xs.map FileV.key = ys.map FileV.key) {i : Nat} {x y : FileV} (hx : xs[i]? = some x) (hy : ys[i]? = some y) : x.path = y.path ∧ x.dir = y.dir ∧ x.lines = y.lines := by
  have h := congrArg (·[i]?) hk
  simp only [List.getElem?_map, hx, hy, Option.map_some, Option.some.injEq] at h
  unfold FileV.key at h
  simp only [Prod.mk.injEq] at h
  exact h

theorem same01_enters : ∀ args w, (callFunc 123 args).run Tryz.prog w = .ok (.enter 123 args) w := enters_of Tryz.func123 (by kernel_rfl) rfl

set_option maxHeartbeats 16000000 in
theorem R06_Same (a a2 : Option Addr) (c c2 : Nat) (xs ys : List FileV) (w : World) (h : FilesH w a xs) (h2 : FilesH w a2 ys) (hk : xs.map FileV.key = ys.map FileV.key) (hlen : xs.length < 9223372036854775808) :
    Calls Tryz.prog 70 #[.slice a xs.length c, .slice a2 ys.length c2] w fun e w' => e = .returned (.bool true) ∧ Below w.heap.size w w' := by
  have hl : ys.length = xs.length := by simpa using (congrArg List.length hk).symm
  have HL : Hid (ys.length = xs.length) := hl
  have mixed : Tryz.prog.follows .mixedOrders = true := by kernel_rfl
  rw [hl]
  clear hl
  have HK : Hid _ := hk
  clear hk
  go_enter Tryz.func70, Tryz.ntmps70
  go_wp2
  go_loopg [5] xs.length (fun kx s5 wr => ∃ i : Nat, s5 = .int .i64 i ∧ i ≤ xs.length ∧ xs.length - i ≤ kx ∧ Hid (Below w.heap.size w wr))
  case atStart => exact ⟨0, rfl, Nat.zero_le _, Nat.le_refl _, Below.refl _ w⟩
  case round =>
    obtain ⟨i, rfl, hi, hkx, HB⟩ := hrel
    by_cases hlt : i < xs.length
    · have hly := HL.out
      obtain ⟨b, o, rfl, hN⟩ : ∃ b o, a = some ⟨b, o, none⟩ ∧ FilesAt w b o xs := h.resolve_left (by omega)
      obtain ⟨b2, o2, rfl, hN2⟩ : ∃ b o, a2 = some ⟨b, o, none⟩ ∧ FilesAt w b o ys := h2.resolve_left (by omega)
      obtain ⟨X, hd⟩ : ∃ x, xs[i]? = some x := ⟨_, List.getElem?_eq_getElem hlt⟩
      obtain ⟨Y, hd2⟩ : ∃ y, ys[i]? = some y := ⟨_, List.getElem?_eq_getElem (by omega)⟩
      obtain ⟨k1, k2, k3⟩ := keys_at HK.out hd hd2
      have hB := HB.out
      have hB' : ∀ n os, Below w.heap.size w (Sort.grow (wr.drewN n) os) := fun n os => belowTrans hB (belowGrow wr n os)
      have m0 : ∀ n os, (Sort.grow (wr.drewN n) os).cell? ⟨b, o + i * 3, none⟩ = some (.string X.path) := fun n os => ((hN.below (hB' n os)).cell i X hd).1
      have m1 : ∀ n os, (Sort.grow (wr.drewN n) os).cell? ⟨b, o + i * 3 + 1, none⟩ = some (.bool X.dir) := fun n os => ((hN.below (hB' n os)).cell i X hd).2.1
      have m2 : ∀ n os, (Sort.grow (wr.drewN n) os).cell? ⟨b, o + i * 3 + 2, none⟩ = some (.slice X.la X.lines.length X.lc) := fun n os => ((hN.below (hB' n os)).cell i X hd).2.2
      have n0 : ∀ n os, (Sort.grow (wr.drewN n) os).cell? ⟨b2, o2 + i * 3, none⟩ = some (.string X.path) := fun n os => by rw [k1]; exact ((hN2.below (hB' n os)).cell i Y hd2).1
      have n1 : ∀ n os, (Sort.grow (wr.drewN n) os).cell? ⟨b2, o2 + i * 3 + 1, none⟩ = some (.bool X.dir) := fun n os => by rw [k2]; exact ((hN2.below (hB' n os)).cell i Y hd2).2.1
      have n2 : ∀ n os, (Sort.grow (wr.drewN n) os).cell? ⟨b2, o2 + i * 3 + 2, none⟩ = some (.slice Y.la X.lines.length Y.lc) := fun n os => by rw [k3]; exact ((hN2.below (hB' n os)).cell i Y hd2).2.2
      have hc : ∀ n os, Calls Tryz.prog 123 #[.slice X.la X.lines.length X.lc, .slice Y.la X.lines.length Y.lc] (Sort.grow (wr.drewN n) os) fun e w' => e = .returned (.bool true) ∧ ∃ q os', w' = Sort.grow ((Sort.grow (wr.drewN n) os).drewN q) os' := fun n os => by
        have hT := ((hN.below (hB' n os)).sub i X hd)
        have hT2 := ((hN2.below (hB' n os)).sub i Y hd2)
        have := R01_Same X.la Y.la X.lc Y.lc X.lines X.lines _ hT.1 (by rw [k3]; exact hT2.1) hT.2
        rw [decide_eq_true rfl] at this
        exact this.grows
      have hiz : (i : Int) < (xs.length : Int) := by omega
      have hnn : ¬ (i : Int) < 0 := by omega
      have hnn0 : (0 : Int) ≤ (i : Int) := by omega
      have hent := same01_enters
      have hp : (X.path.toList == X.path.toList) = true := by simp
      have HGB : Hid _ := belowGrow wr
      clear hN hN2 hB hB' k1 k2 k3 hd hd2 hly
      go_wp2_with fail
      go_quiet_grown (first | (go_at_fn 123; refine Calls.grown_of (hc _ _)))
      clear m0 m1 m2 n0 n1 n2 hc
      have HB6 : Hid _ := belowTrans HB.out (HGB.out nq osq)
      generalize Sort.grow (wr.drewN nq) osq = w6 at HB6 ⊢
      go_wp2
      go_roundg (xs.length - (i + 1))
      case measure => omega
      case rel => exact ⟨i + 1, by go_num, by omega, Nat.le_refl _, HB6.out⟩
    · have hiz : ¬ (i : Int) < (xs.length : Int) := by omega
      go_wp2
      go_ret
      exact ⟨rfl, HB.out⟩
end Go.Proofs.W
namespace Go.Proofs.W
open Go Go.Proofs Go.RowKit
set_option maxRecDepth 1000000

set_option maxHeartbeats 16000000 in
/-- R22.Same at what is the same -/
theorem R22_Same (a a2 ta ta2 : Option Addr) (c c2 tc tc2 : Nat) (xs ys : List FileV) (ts : List TrackV) (w : World) (h : FilesH w a xs) (h2 : FilesH w a2 ys) (hk : xs.map FileV.key = ys.map FileV.key) (hlen : xs.length < 9223372036854775808) (h3 : TracksH w ta ts) (h4 : TracksH w ta2 ts) (hlen2 : ts.length < 9223372036854775808) :
    Calls Tryz.prog 31 #[.agg #[.slice a xs.length c, .slice ta ts.length tc], .agg #[.slice a2 ys.length c2, .slice ta2 ts.length tc2]] w fun e w' => e = .returned (.bool true) ∧ Below w.heap.size w w' := by
  have mixed : Tryz.prog.follows .mixedOrders = true := by kernel_rfl
  obtain ⟨W, hW⟩ : ∃ W, W = (w.alloc (.cells #[.slice a xs.length c, .slice ta ts.length tc] 42)).alloc (.cells #[.slice a2 ys.length c2, .slice ta2 ts.length tc2] 42) := ⟨_, rfl⟩
  have hA : Below w.heap.size w W := by rw [hW]; exact belowTrans (belowAlloc _ _) (belowAlloc _ _)
  have b1 : W.heap[w.heap.size]? = some (.cells #[.slice a xs.length c, .slice ta ts.length tc] 42 (0, 0)) := by
    rw [hW, Below.heap_alloc _ _ _ (by simp)]
    exact (MapKept.heap_alloc w _).1
  have b2 : W.heap[w.heap.size + 1]? = some (.cells #[.slice a2 ys.length c2, .slice ta2 ts.length tc2] 42 (0, 0)) := by
    rw [hW, show w.heap.size + 1 = (w.alloc (.cells #[.slice a xs.length c, .slice ta ts.length tc] 42)).heap.size by simp]
    exact (MapKept.heap_alloc _ _).1
  have hz : W.heap.size = w.heap.size + 2 := by rw [hW]; simp
  have box : ∀ w', Below W.heap.size W w' → w'.cell? ⟨w.heap.size, 0, none⟩ = some (.slice a xs.length c) ∧ w'.cell? ⟨w.heap.size, 1, none⟩ = some (.slice ta ts.length tc) ∧ w'.cell? ⟨w.heap.size + 1, 0, none⟩ = some (.slice a2 ys.length c2) ∧ w'.cell? ⟨w.heap.size + 1, 1, none⟩ = some (.slice ta2 ts.length tc2) := fun w' hb => by
    have e1 := (hb.block w.heap.size (by omega)).trans b1
    have e2 := (hb.block (w.heap.size + 1) (by omega)).trans b2
    refine ⟨?_, ?_, ?_, ?_⟩ <;> simp [World.cell?, e1, e2]
  have BOX : Hid _ := box
  obtain ⟨p1, p2, p3, p4⟩ := box W (Below.refl _ _)
  have hsame := R06_Same a a2 c c2 xs ys W (h.below hA) (h2.below hA) hk hlen
  have HS : Hid _ := hsame
  have HA : Hid _ := hA
  clear hsame box b1 b2 hz h h2 hk
  go_enter Tryz.func31, Tryz.ntmps31
  clear hA
  go_wp2_with fail
  simp only [← hW]
  refine Calls.mono HS.out ?_
  rintro e w2 ⟨rfl, hb2⟩
  clear p1 p2 p3 p4
  obtain ⟨p1, p2, p3, p4⟩ := BOX.out w2 hb2
  have HB2 : Hid (Below W.heap.size W w2) := hb2
  clear hb2
  go_wp2
  clear p1 p2 p3 p4
  go_loopg [5] ts.length (fun kx s5 wr => ∃ i : Nat, s5 = .int .i64 i ∧ i ≤ ts.length ∧ ts.length - i ≤ kx ∧ Hid (Below W.heap.size W wr))
  case atStart => exact ⟨0, rfl, Nat.zero_le _, Nat.le_refl _, HB2.out⟩
  case round =>
    obtain ⟨i, rfl, hi, hkx, HB⟩ := hrel
    by_cases hlt : i < ts.length
    · obtain ⟨b, o, rfl, hN⟩ : ∃ b o, ta = some ⟨b, o, none⟩ ∧ TracksAt w b o ts := h3.resolve_left (by omega)
      obtain ⟨b2, o2, rfl, hN2⟩ : ∃ b o, ta2 = some ⟨b, o, none⟩ ∧ TracksAt w b o ts := h4.resolve_left (by omega)
      obtain ⟨X, hd⟩ : ∃ x, ts[i]? = some x := ⟨_, List.getElem?_eq_getElem hlt⟩
      obtain ⟨p1, p2, p3, p4⟩ := BOX.out wr HB.out
      have hBw := belowTrans HA.out HB.out
      obtain ⟨c0, c1, c2'⟩ := (hN.below hBw).cell i X hd
      obtain ⟨d0, d1, d2⟩ := (hN2.below hBw).cell i X hd
      have hiz : (i : Int) < (ts.length : Int) := by omega
      have hnn : ¬ (i : Int) < 0 := by omega
      have hnn0 : (0 : Int) ≤ (i : Int) := by omega
      have HBq : Hid _ := fun k => belowTrans HB.out (belowDrew wr k)
      clear hN hN2 hBw hd
      go_wp2_with fail
      go_quiet (fail)
      go_wp2
      go_roundg (ts.length - (i + 1))
      case measure => omega
      case rel => exact ⟨i + 1, by go_num, by omega, Nat.le_refl _, HBq.out _⟩
    · have hiz : ¬ (i : Int) < (ts.length : Int) := by omega
      obtain ⟨p1, p2, p3, p4⟩ := BOX.out wr HB.out
      have HBw : Hid _ := belowTrans HA.out HB.out
      go_wp2
      go_ret
      exact ⟨rfl, HBw.out⟩
end Go.Proofs.W
