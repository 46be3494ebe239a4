/- A PART OF THE PROOF THAT WORKMAKES HOLDS FOR EVERY INPUT OF BULK AT MOST 1048576. No condition beyond the given statement. This part: WSort22. -/
import Derived.Test.YthodcfgoeffbdaaGreatDoorWR02
import Derived.Test.YthodcfgoeffbdaaGreatDoorWHead
import Derived.Test.YthodcfgoeffbdaaGreatDoorNodesLaw
namespace Go.Proofs.W
open Go Go.Proofs Go.RowKit Go.Op
set_option maxRecDepth 1000000

def ltT (x y : TrackV) : Bool := pathLess x.path y.path
theorem trackRow_cell {w : World} {base g c n : Nat} {xs : List TrackV} (h : w.ownsRow base 39 3 (.slice (some ⟨g, 0, none⟩) n c) n (xs.flatMap TrackV.cells)) (hn : xs.length = n) {j : Nat} {y : TrackV} (hy : xs[j]? = some y) : w.cell? ⟨g, j * 3, none⟩ = some (.string y.path) := by
  have hj : j < xs.length := (List.getElem?_eq_some_iff.1 hy).1
  rw [h.cellAt (j * 3) (by omega)]
  have := flatMap_at TrackV.cells 3 trackCells_len xs j 0 y hy (by decide)
  rw [Nat.add_zero] at this
  rw [this]
  rfl
theorem trackRow_cap {w : World} {base g c n : Nat} {xs : List Value} (h : w.ownsRow base 39 3 (.slice (some ⟨g, 0, none⟩) n c) n xs) : n ≤ c := by
  rcases h.2 with ⟨e, _⟩ | ⟨g', cap, cur, e, _, _, hc, _⟩
  · cases e
  · cases e
    exact hc
theorem track_src (w : World) (X : TrackV) : ∀ (j : Nat) u, X.cells[j]? = some u → (w.alloc (.cells #[.string X.path, .string X.patch, .int .i64 X.n] 39)).cell? ((⟨w.heap.size, 0, none⟩ : Addr).add j) = some u := by
  intro j u hu
  rw [Addr.add_lit, cell_new2 _ _ rfl]
  simpa [TrackV.cells] using hu
theorem trackRow_drop {w : World} {base g c n : Nat} {xs : List TrackV} (h : w.ownsRow base 39 3 (.slice (some ⟨g, 0, none⟩) n c) n (xs.flatMap TrackV.cells)) (hn : xs.length = n) (k : Nat) : ∀ j u, ((xs.drop k).flatMap TrackV.cells)[j]? = some u → w.cell? ((⟨g, k * 3, none⟩ : Addr).add j) = some u := by
  intro j u hu
  rw [← flatMap_drop TrackV.cells 3 trackCells_len, List.getElem?_drop] at hu
  rw [Addr.add_lit, h.cellAt (k * 3 + j) (by have := (List.getElem?_eq_some_iff.1 hu).1; rw [flatMap_len TrackV.cells 3 trackCells_len] at this; omega)]
  exact hu
theorem trackRow_take {w : World} {base g c n : Nat} {xs : List TrackV} (h : w.ownsRow base 39 3 (.slice (some ⟨g, 0, none⟩) n c) n (xs.flatMap TrackV.cells)) (hn : xs.length = n) (k : Nat) : ∀ j u, ((xs.take k).flatMap TrackV.cells)[j]? = some u → w.cell? ((⟨g, 0, none⟩ : Addr).add j) = some u := by
  intro j u hu
  rw [← flatMap_take TrackV.cells 3 trackCells_len, List.getElem?_take] at hu
  split at hu
  · rw [Addr.add_lit, Nat.zero_add, h.cellAt j (by have := (List.getElem?_eq_some_iff.1 hu).1; rw [flatMap_len TrackV.cells 3 trackCells_len] at this; omega)]
    exact hu
  · cases hu
theorem less5_enters : ∀ args w, (callFunc 33 args).run Tryz.prog w = .ok (.enter 33 args) w := enters_of Tryz.func33 (by kernel_rfl) rfl
theorem insK_step {x : TrackV} {out : List TrackV} {k : Nat} {y : TrackV} (hk : 0 < k) (hy : out[k - 1]? = some y) : insK ltT x out k = if ltT x y then insK ltT x out (k - 1) else k := by
  obtain ⟨j, rfl⟩ : ∃ j, k = j + 1 := ⟨k - 1, by omega⟩
  rw [Nat.add_sub_cancel] at hy ⊢
  rw [insK, hy]
theorem insAll_on (ts : List TrackV) (i : Nat) (x : TrackV) (hx : ts[i]? = some x) : insAll ltT (ts.take (i + 1)) = insAt ltT x (insAll ltT (ts.take i)) := by
  unfold insAll
  rw [List.take_add_one, hx, Option.toList_some, List.foldl_append]
  rfl

set_option maxHeartbeats 32000000 in
/-- R22.Sort at tracks at paths -/
theorem R22_Sort (a : Option Addr) (c : Nat) (ts : List TrackV) (w : World) (h : TracksH w a ts) (hr : ∀ t, t ∈ ts → pathR t.path = true) (hlen : ts.length ≤ 1000000) :
    Calls Tryz.prog 11 #[.slice a ts.length c] w fun e w' => (∃ v, e = .returned v ∧ w'.ownsRow w.heap.size 39 3 v ts.length ((insAll ltT ts).flatMap TrackV.cells)) ∧ Below w.heap.size w w' := by
  obtain ⟨io, hio, hz0, hz1, hz2⟩ := info_track
  have mixed : Tryz.prog.follows .mixedOrders = true := by kernel_rfl
  have hent := less5_enters
  go_enter Tryz.func11, Tryz.ntmps11
  go_wp2
  go_loopg [3, 4] ts.length (fun kx s3 s4 wr => ∃ (i : Nat) (oa : Option Addr) (oc : Nat), s3 = .slice oa i oc ∧ s4 = .int .i64 i ∧ i ≤ ts.length ∧ ts.length - i ≤ kx ∧ Hid (wr.ownsRow w.heap.size 39 3 (.slice oa i oc) i ((insAll ltT (ts.take i)).flatMap TrackV.cells) ∧ Below w.heap.size w wr))
  case atStart => exact ⟨0, none, 0, rfl, rfl, Nat.zero_le _, Nat.le_refl _, World.ownsRow_nil _ _ _ _, Below.refl _ _⟩
  case round =>
    obtain ⟨i, oa, oc, rfl, rfl, hi, hkx, REL⟩ := hrel
    rename World => w1
    by_cases hlt : i < ts.length
    · obtain ⟨b, o, rfl, hN⟩ : ∃ b o, a = some ⟨b, o, none⟩ ∧ TracksAt w b o ts := h.resolve_left (by omega)
      obtain ⟨X, hX⟩ : ∃ X, ts[i]? = some X := ⟨_, List.getElem?_eq_getElem hlt⟩
      have hXr := hr X (List.mem_of_getElem? hX)
      have hiz : (i : Int) < (ts.length : Int) := by omega
      have hnn : ¬ (i : Int) < 0 := by omega
      have hnn0 : (0 : Int) ≤ (i : Int) := by omega
      have hOr : ∀ y, y ∈ insAll ltT (ts.take i) → pathR y.path = true := fun y hy => hr y (List.mem_of_mem_take ((insAll_perm (lt := ltT) (ts.take i)).mem_iff.1 hy))
      have hOl : (insAll ltT (ts.take i)).length = i := by rw [(insAll_perm (lt := ltT) (ts.take i)).length_eq, List.length_take]; omega
      have hOn := insAll_on ts i X hX
      generalize hout : insAll ltT (ts.take i) = out at hOr hOl hOn REL
      obtain ⟨r1, r2⟩ := REL.out
      have HN : Hid (∀ w', Below w1.heap.size w1 w' → w'.cell? ⟨b, o + i * 3, none⟩ = some (.string X.path) ∧ w'.cell? ⟨b, o + i * 3 + 1, none⟩ = some (.string X.patch) ∧ w'.cell? ⟨b, o + i * 3 + 2, none⟩ = some (.int .i64 X.n)) := fun w' hb => (hN.below (belowTrans r2 hb)).cell i X hX
      have HO : Hid (∀ w', Below w1.heap.size w1 w' → w'.ownsRow w.heap.size 39 3 (.slice oa i oc) i (out.flatMap TrackV.cells)) := fun w' hb => ownsRow_below r1 hb
      have HB : Hid (Below w.heap.size w w1) := r2
      have HOL : Hid _ := hOl
      have HON : Hid _ := hOn
      clear r1 r2 hN REL hOn hout hOl hX
      go_wp2
      go_loopg [5] i (fun kx2 s5 wr => ∃ (k : Nat), s5 = .int .i64 k ∧ k ≤ i ∧ k ≤ kx2 ∧ Hid (insK ltT X out k = insK ltT X out out.length ∧ Below w1.heap.size w1 wr))
      case atStart => exact ⟨i, rfl, Nat.le_refl _, Nat.le_refl _, by rw [HOL.out], Below.refl _ _⟩
      case round =>
        obtain ⟨k, rfl, hk, hkx2, REL2⟩ := hrel
        by_cases hk0 : 0 < k
        · obtain ⟨ix, hix⟩ : ∃ ix : Nat, ix = k - 1 := ⟨_, rfl⟩
          obtain ⟨y, hy⟩ : ∃ y, out[ix]? = some y := ⟨_, List.getElem?_eq_getElem (by have := HOL.out; omega)⟩
          obtain ⟨g, cur, rfl, _, _⟩ := row_at (HO.out wr REL2.out.2) (by omega)
          have hkz : (0 : Int) < (k : Int) := by omega
          have hk1 : wrap64 ((k : Int) - 1) = (ix : Int) := by unfold wrap64; omega
          have hk1' : IntKind.i64.wrap ((k : Int) - 1) = (ix : Int) := by unfold IntKind.wrap; simp [IntKind.bits, IntKind.signed]; split <;> omega
          have hk2 : (ix : Int) < (i : Int) := by omega
          have hk3 : ¬ (ix : Int) < 0 := by omega
          have hk4 : (0 : Int) ≤ (ix : Int) := by omega
          have hst := insK_step (x := X) (k := k) (by omega) (by rw [← hix]; exact hy)
          rw [← hix] at hst
          have hBg : ∀ n os, Below w1.heap.size w1 (Sort.grow (wr.drewN n) os) := fun n os => belowTrans REL2.out.2 (belowGrow wr n os)
          have f0 : ∀ n os, (Sort.grow (wr.drewN n) os).cell? ⟨b, o + i * 3, none⟩ = some (.string X.path) := fun n os => (HN.out _ (hBg n os)).1
          have f1 : ∀ n os, (Sort.grow (wr.drewN n) os).cell? ⟨g, ix * 3, none⟩ = some (.string y.path) := fun n os => trackRow_cell (HO.out _ (hBg n os)) HOL.out hy
          have hc : ∀ n os, Calls Tryz.prog 33 #[.string X.path, .string y.path] (Sort.grow (wr.drewN n) os) fun e w' => e = .returned (.bool (ltT X y)) ∧ ∃ q os', w' = Sort.grow ((Sort.grow (wr.drewN n) os).drewN q) os' := fun n os => (R05_Less X.path y.path _ hXr (hOr y (List.mem_of_getElem? hy))).grows
          have HG : Hid _ := hBg
          have HST : Hid _ := hst
          have HIX : Hid _ := hix
          clear hBg hst hy hix
          cases hb : ltT X y
          all_goals
            rw [hb] at hc
            go_wp2_with fail
            go_quiet_grown (first | (go_at_fn 33; refine Calls.grown_of (hc _ _)))
            clear hc f0 f1
            have hB2 := HG.out nq osq
            generalize Sort.grow (wr.drewN nq) osq = w2 at hB2 ⊢
          · have hKk : insK ltT X out out.length = k := by rw [← REL2.out.1, HST.out, hb]; rfl
            have HK : Hid _ := hKk
            have HB2 : Hid _ := hB2
            have hcap := trackRow_cap (HO.out _ (Below.refl _ _))
            have hks1 : (k : Int) ≤ (i : Int) := by omega
            have hks2 : (0 : Int) ≤ (k : Int) := by omega
            have hks3 : ¬ (k : Int) < 0 := by omega
            have hks4 : (k : Int) ≤ (oc : Int) := by omega
            have hks5 : (i : Int) ≤ (oc : Int) := by omega
            clear hKk hB2 REL2
            go_wp2_with (at_builtin; refine wpList_append_src _ rfl (.tmp 33) (.tmp 36) 23 rfl w2.heap.size 39 io _ 3 40 Tryz.underlying23 hio hz0 hz1 hz2 rfl (by decide) _ 0 [] rfl (World.ownsRow_lit w2 #[] 0 (Nat.le_refl _) (Nat.zero_le _) rfl) _ k ((out.take k).flatMap TrackV.cells) rfl (.inr ⟨_, _, rfl, (by rw [flatMap_len TrackV.cells 3 trackCells_len, List.length_take, HOL.out, Nat.min_eq_left (by omega)]), trackRow_take (HO.out _ (HB2.out.alloc HB2.out.size _)) HOL.out k⟩) (tracksCells_one _) (by unfold maxLen; omega) (by omega) (by rw [allocSize]; omega) ?_)
            intro v1 w3 hown1 hg1 _
            have HB3 : Hid (Below w2.heap.size w2 w3) := ((belowAlloc w2 (.cells #[] 39))).grown hg1 (by rw [allocSize]; omega) (fun k hk => by simp [Value.ownBlock] at hk; omega)
            replace hown1 : w3.ownsRow w2.heap.size 39 3 v1 k ((out.take k).flatMap TrackV.cells) := by first | exact hown1 | simpa using hown1
            obtain ⟨a1, k1, rfl⟩ := ownShape hown1
            obtain ⟨x0, x1, x2⟩ := HN.out w3 (belowTrans HB2.out HB3.out)
            clear hg1
            have HL1 : Hid (∀ k, _ → w2.heap.size ≤ k) := fun k hk => (World.ownsRow.lt hown1 k hk).1
            have HW1 : Hid _ := hown1
            clear hown1
            go_wp2_with (at_builtin; refine wpList_append_src _ rfl (.tmp 38) (.tmp 43) 23 rfl w2.heap.size 39 io _ 3 40 Tryz.underlying23 hio hz0 hz1 hz2 rfl (by decide) _ k _ rfl (World.ownsRow.alloc HW1.out _) _ 1 X.cells rfl (.inr ⟨_, _, rfl, rfl, track_src _ X⟩) (trackCells_one X) (by unfold maxLen; omega) (by omega) (by have := HB3.out.size; rw [allocSize]; omega) ?_)
            intro v2 w4 hown2 hg2 _
            have HB4 : Hid (Below w2.heap.size w2 w4) := (HB3.out.alloc HB3.out.size _).grown hg2 (by rw [allocSize]; have := HB3.out.size; omega) HL1.out
            obtain ⟨a2, k2, rfl⟩ := ownShape hown2
            have HW2 : Hid _ := hown2
            clear hown2 hg2 x0 x1 x2
            by_cases hkc : k = oc
            · have hdr : out.drop k = [] := List.drop_of_length_le (by rw [HOL.out]; omega)
              have hik : i = k := by omega
              subst hik
              subst hkc
              go_wp2_with (at_builtin; refine wpList_append_src _ rfl (.tmp 45) (.tmp 48) 23 rfl w2.heap.size 39 io _ 3 40 Tryz.underlying23 hio hz0 hz1 hz2 rfl (by decide) _ (i + 1) _ rfl HW2.out _ 0 [] rfl (.inr ⟨_, _, rfl, rfl, fun j u hu => by simp at hu⟩) (fun u hu => by cases hu) (by unfold maxLen; omega) (by omega) HB4.out.size ?_)
              intro v3 w5 hown3 hg3 _
              have HB5 : Hid (Below w2.heap.size w2 w5) := HB4.out.grown hg3 HB4.out.size (fun k hk => (World.ownsRow.lt HW2.out k hk).1)
              replace hown3 : w5.ownsRow w2.heap.size 39 3 v3 (i + 1) (List.flatMap TrackV.cells (out.take i) ++ X.cells) := by first | exact hown3 | simpa using hown3
              obtain ⟨a3, k3, rfl⟩ := ownShape hown3
              have HW3 : Hid (w5.ownsRow w.heap.size 39 3 (.slice a3 (i + 1) k3) (i + 1) ((insAll ltT (ts.take (i + 1))).flatMap TrackV.cells)) := by
                show w5.ownsRow _ _ _ _ _ _
                rw [HON.out]
                have hsz := belowTrans HB.out HB2.out
                have h3 := ownsRow_base (b' := w.heap.size) hown3 hsz.size
                unfold insAt
                rw [HK.out, hdr, List.flatMap_append, List.flatMap_cons, List.flatMap_nil, List.append_nil]
                exact h3
              clear hown3 hg3
              go_wp2
              go_roundg (ts.length - (i + 1))
              case measure => omega
              case rel => exact ⟨i + 1, _, _, rfl, by go_num, by omega, Nat.le_refl _, HW3.out, belowTrans HB.out (belowTrans HB2.out HB5.out)⟩
            · have hkc2 : ¬ oc = k := fun e => hkc e.symm
              go_wp2_with (at_builtin; refine wpList_append_src _ rfl (.tmp 45) (.tmp 48) 23 rfl w2.heap.size 39 io _ 3 40 Tryz.underlying23 hio hz0 hz1 hz2 rfl (by decide) _ (k + 1) _ rfl HW2.out _ (i - k) ((out.drop k).flatMap TrackV.cells) rfl (.inr ⟨_, _, rfl, (by rw [flatMap_len TrackV.cells 3 trackCells_len, List.length_drop, HOL.out]), trackRow_drop (HO.out _ (belowTrans HB2.out HB4.out)) HOL.out k⟩) (tracksCells_one _) (by unfold maxLen; omega) (by omega) HB4.out.size ?_)
              intro v3 w5 hown3 hg3 _
              have HB5 : Hid (Below w2.heap.size w2 w5) := HB4.out.grown hg3 HB4.out.size (fun k hk => (World.ownsRow.lt HW2.out k hk).1)
              replace hown3 := show w5.ownsRow w2.heap.size 39 3 v3 (i + 1) _ from (show k + 1 + (i - k) = i + 1 by omega) ▸ hown3
              obtain ⟨a3, k3, rfl⟩ := ownShape hown3
              have HW3 : Hid (w5.ownsRow w.heap.size 39 3 (.slice a3 (i + 1) k3) (i + 1) ((insAll ltT (ts.take (i + 1))).flatMap TrackV.cells)) := by
                show w5.ownsRow _ _ _ _ _ _
                rw [HON.out]
                have hsz := belowTrans HB.out HB2.out
                have h3 := ownsRow_base (b' := w.heap.size) hown3 hsz.size
                unfold insAt
                rw [HK.out, List.flatMap_append, List.flatMap_cons]
                exact h3
              clear hown3 hg3
              go_wp2
              go_roundg (ts.length - (i + 1))
              case measure => omega
              case rel => exact ⟨i + 1, _, _, rfl, by go_num, by omega, Nat.le_refl _, HW3.out, belowTrans HB.out (belowTrans HB2.out HB5.out)⟩
          · have HB2 : Hid _ := hB2
            clear hB2
            go_wp2
            have hix := HIX.out
            go_roundg ix
            case measure => omega
            case rel => exact ⟨ix, rfl, by omega, Nat.le_refl _, by rw [← REL2.out.1, HST.out, hb]; rfl, HB2.out⟩
        · have hkz : ¬ (0 : Int) < (k : Int) := by omega
          have hk00 : k = 0 := by omega
          have hKk : insK ltT X out out.length = k := by rw [← REL2.out.1, hk00]; rfl
          have HK : Hid _ := hKk
          have HG : Hid (∀ n, Below w1.heap.size w1 (wr.drewN n)) := fun n => belowTrans REL2.out.2 (belowDrew wr n)
          clear hKk REL2
          rcases (HO.out _ (Below.refl _ _)).2 with ⟨e, h0⟩ | ⟨g, cap', cur, e, _⟩
          · cases e
            subst hk00
            have hks2 : (0 : Int) ≤ 0 := Int.le_refl 0
            go_wp2_with fail
            go_quiet (fail)
            have hB2 := HG.out nq
            generalize wr.drewN nq = w2 at hB2 ⊢
            have HB2 : Hid _ := hB2
            clear hB2
            go_wp2_with (at_builtin; refine wpList_append_src _ rfl (.tmp 33) (.tmp 36) 23 rfl w2.heap.size 39 io _ 3 40 Tryz.underlying23 hio hz0 hz1 hz2 rfl (by decide) _ 0 [] rfl (World.ownsRow_lit w2 #[] 0 (Nat.le_refl _) (Nat.zero_le _) rfl) _ 0 [] rfl (.inl ⟨rfl, rfl, rfl⟩) (fun u hu => by cases hu) (by unfold maxLen; omega) (by omega) (by rw [allocSize]; omega) ?_)
            intro v1 w3 hown1 hg1 _
            have HB3 : Hid (Below w2.heap.size w2 w3) := ((belowAlloc w2 (.cells #[] 39))).grown hg1 (by rw [allocSize]; omega) (fun k hk => by simp [Value.ownBlock] at hk; omega)
            replace hown1 : w3.ownsRow w2.heap.size 39 3 v1 0 [] := by first | exact hown1 | simpa using hown1
            obtain ⟨a1, k1, rfl⟩ := ownShape hown1
            obtain ⟨x0, x1, x2⟩ := HN.out w3 (belowTrans HB2.out HB3.out)
            simp only [Nat.zero_mul, Nat.add_zero] at x0 x1 x2
            clear hg1
            have HL1 : Hid (∀ k, _ → w2.heap.size ≤ k) := fun k hk => (World.ownsRow.lt hown1 k hk).1
            have HW1 : Hid _ := hown1
            clear hown1
            go_wp2_with (at_builtin; refine wpList_append_src _ rfl (.tmp 38) (.tmp 43) 23 rfl w2.heap.size 39 io _ 3 40 Tryz.underlying23 hio hz0 hz1 hz2 rfl (by decide) _ 0 _ rfl (World.ownsRow.alloc HW1.out _) _ 1 X.cells rfl (.inr ⟨_, _, rfl, rfl, track_src _ X⟩) (trackCells_one X) (by unfold maxLen; omega) (by omega) (by have := HB3.out.size; rw [allocSize]; omega) ?_)
            intro v2 w4 hown2 hg2 _
            have HB4 : Hid (Below w2.heap.size w2 w4) := (HB3.out.alloc HB3.out.size _).grown hg2 (by rw [allocSize]; have := HB3.out.size; omega) HL1.out
            obtain ⟨a2, k2, rfl⟩ := ownShape hown2
            have HW2 : Hid _ := hown2
            clear hown2 hg2 x0 x1 x2
            go_wp2_with (at_builtin; refine wpList_append_src _ rfl (.tmp 45) (.tmp 48) 23 rfl w2.heap.size 39 io _ 3 40 Tryz.underlying23 hio hz0 hz1 hz2 rfl (by decide) _ (0 + 1) _ rfl HW2.out _ 0 [] rfl (.inl ⟨rfl, rfl, rfl⟩) (fun u hu => by cases hu) (by unfold maxLen; omega) (by omega) HB4.out.size ?_)
            intro v3 w5 hown3 hg3 _
            have HB5 : Hid (Below w2.heap.size w2 w5) := HB4.out.grown hg3 HB4.out.size (fun k hk => (World.ownsRow.lt HW2.out k hk).1)
            obtain ⟨a3, k3, rfl⟩ := ownShape hown3
            have HW3 : Hid (w5.ownsRow w.heap.size 39 3 (.slice a3 (0 + 1) k3) (0 + 1) ((insAll ltT (ts.take (0 + 1))).flatMap TrackV.cells)) := by
              show w5.ownsRow _ _ _ _ _ _
              rw [HON.out]
              have hsz := belowTrans HB.out HB2.out
              have h3 := ownsRow_base (b' := w.heap.size) hown3 hsz.size
              rw [show insAt ltT X out = [X] by have h0 : out = [] := List.eq_nil_of_length_eq_zero HOL.out; subst h0; rfl]
              simpa using h3
            clear hown3 hg3
            go_wp2
            go_roundg (ts.length - (0 + 1))
            case measure => omega
            case rel => exact ⟨0 + 1, _, _, rfl, by go_num, by omega, Nat.le_refl _, HW3.out, belowTrans HB.out (belowTrans HB2.out HB5.out)⟩
          · cases e
            clear hk00
            have hcap := trackRow_cap (HO.out _ (Below.refl _ _))
            have hks1 : (k : Int) ≤ (i : Int) := by omega
            have hks2 : (0 : Int) ≤ (k : Int) := by omega
            have hks3 : ¬ (k : Int) < 0 := by omega
            have hks4 : (k : Int) ≤ (oc : Int) := by omega
            have hks5 : (i : Int) ≤ (oc : Int) := by omega
            go_wp2_with fail
            go_quiet (fail)
            have hB2 := HG.out nq
            generalize wr.drewN nq = w2 at hB2 ⊢
            have HB2 : Hid _ := hB2
            clear hB2
            go_wp2_with (at_builtin; refine wpList_append_src _ rfl (.tmp 33) (.tmp 36) 23 rfl w2.heap.size 39 io _ 3 40 Tryz.underlying23 hio hz0 hz1 hz2 rfl (by decide) _ 0 [] rfl (World.ownsRow_lit w2 #[] 0 (Nat.le_refl _) (Nat.zero_le _) rfl) _ k ((out.take k).flatMap TrackV.cells) rfl (.inr ⟨_, _, rfl, (by rw [flatMap_len TrackV.cells 3 trackCells_len, List.length_take, HOL.out, Nat.min_eq_left (by omega)]), trackRow_take (HO.out _ (HB2.out.alloc HB2.out.size _)) HOL.out k⟩) (tracksCells_one _) (by unfold maxLen; omega) (by omega) (by rw [allocSize]; omega) ?_)
            intro v1 w3 hown1 hg1 _
            have HB3 : Hid (Below w2.heap.size w2 w3) := ((belowAlloc w2 (.cells #[] 39))).grown hg1 (by rw [allocSize]; omega) (fun k hk => by simp [Value.ownBlock] at hk; omega)
            replace hown1 : w3.ownsRow w2.heap.size 39 3 v1 k ((out.take k).flatMap TrackV.cells) := by first | exact hown1 | simpa using hown1
            obtain ⟨a1, k1, rfl⟩ := ownShape hown1
            obtain ⟨x0, x1, x2⟩ := HN.out w3 (belowTrans HB2.out HB3.out)
            clear hg1
            have HL1 : Hid (∀ k, _ → w2.heap.size ≤ k) := fun k hk => (World.ownsRow.lt hown1 k hk).1
            have HW1 : Hid _ := hown1
            clear hown1
            go_wp2_with (at_builtin; refine wpList_append_src _ rfl (.tmp 38) (.tmp 43) 23 rfl w2.heap.size 39 io _ 3 40 Tryz.underlying23 hio hz0 hz1 hz2 rfl (by decide) _ k _ rfl (World.ownsRow.alloc HW1.out _) _ 1 X.cells rfl (.inr ⟨_, _, rfl, rfl, track_src _ X⟩) (trackCells_one X) (by unfold maxLen; omega) (by omega) (by have := HB3.out.size; rw [allocSize]; omega) ?_)
            intro v2 w4 hown2 hg2 _
            have HB4 : Hid (Below w2.heap.size w2 w4) := (HB3.out.alloc HB3.out.size _).grown hg2 (by rw [allocSize]; have := HB3.out.size; omega) HL1.out
            obtain ⟨a2, k2, rfl⟩ := ownShape hown2
            have HW2 : Hid _ := hown2
            clear hown2 hg2 x0 x1 x2
            by_cases hkc : k = oc
            · have hdr : out.drop k = [] := List.drop_of_length_le (by rw [HOL.out]; omega)
              have hik : i = k := by omega
              subst hik
              subst hkc
              go_wp2_with (at_builtin; refine wpList_append_src _ rfl (.tmp 45) (.tmp 48) 23 rfl w2.heap.size 39 io _ 3 40 Tryz.underlying23 hio hz0 hz1 hz2 rfl (by decide) _ (i + 1) _ rfl HW2.out _ 0 [] rfl (.inr ⟨_, _, rfl, rfl, fun j u hu => by simp at hu⟩) (fun u hu => by cases hu) (by unfold maxLen; omega) (by omega) HB4.out.size ?_)
              intro v3 w5 hown3 hg3 _
              have HB5 : Hid (Below w2.heap.size w2 w5) := HB4.out.grown hg3 HB4.out.size (fun k hk => (World.ownsRow.lt HW2.out k hk).1)
              replace hown3 : w5.ownsRow w2.heap.size 39 3 v3 (i + 1) (List.flatMap TrackV.cells (out.take i) ++ X.cells) := by first | exact hown3 | simpa using hown3
              obtain ⟨a3, k3, rfl⟩ := ownShape hown3
              have HW3 : Hid (w5.ownsRow w.heap.size 39 3 (.slice a3 (i + 1) k3) (i + 1) ((insAll ltT (ts.take (i + 1))).flatMap TrackV.cells)) := by
                show w5.ownsRow _ _ _ _ _ _
                rw [HON.out]
                have hsz := belowTrans HB.out HB2.out
                have h3 := ownsRow_base (b' := w.heap.size) hown3 hsz.size
                unfold insAt
                rw [HK.out, hdr, List.flatMap_append, List.flatMap_cons, List.flatMap_nil, List.append_nil]
                exact h3
              clear hown3 hg3
              go_wp2
              go_roundg (ts.length - (i + 1))
              case measure => omega
              case rel => exact ⟨i + 1, _, _, rfl, by go_num, by omega, Nat.le_refl _, HW3.out, belowTrans HB.out (belowTrans HB2.out HB5.out)⟩
            · have hkc2 : ¬ oc = k := fun e => hkc e.symm
              go_wp2_with (at_builtin; refine wpList_append_src _ rfl (.tmp 45) (.tmp 48) 23 rfl w2.heap.size 39 io _ 3 40 Tryz.underlying23 hio hz0 hz1 hz2 rfl (by decide) _ (k + 1) _ rfl HW2.out _ (i - k) ((out.drop k).flatMap TrackV.cells) rfl (.inr ⟨_, _, rfl, (by rw [flatMap_len TrackV.cells 3 trackCells_len, List.length_drop, HOL.out]), trackRow_drop (HO.out _ (belowTrans HB2.out HB4.out)) HOL.out k⟩) (tracksCells_one _) (by unfold maxLen; omega) (by omega) HB4.out.size ?_)
              intro v3 w5 hown3 hg3 _
              have HB5 : Hid (Below w2.heap.size w2 w5) := HB4.out.grown hg3 HB4.out.size (fun k hk => (World.ownsRow.lt HW2.out k hk).1)
              replace hown3 := show w5.ownsRow w2.heap.size 39 3 v3 (i + 1) _ from (show k + 1 + (i - k) = i + 1 by omega) ▸ hown3
              obtain ⟨a3, k3, rfl⟩ := ownShape hown3
              have HW3 : Hid (w5.ownsRow w.heap.size 39 3 (.slice a3 (i + 1) k3) (i + 1) ((insAll ltT (ts.take (i + 1))).flatMap TrackV.cells)) := by
                show w5.ownsRow _ _ _ _ _ _
                rw [HON.out]
                have hsz := belowTrans HB.out HB2.out
                have h3 := ownsRow_base (b' := w.heap.size) hown3 hsz.size
                unfold insAt
                rw [HK.out, List.flatMap_append, List.flatMap_cons]
                exact h3
              clear hown3 hg3
              go_wp2
              go_roundg (ts.length - (i + 1))
              case measure => omega
              case rel => exact ⟨i + 1, _, _, rfl, by go_num, by omega, Nat.le_refl _, HW3.out, belowTrans HB.out (belowTrans HB2.out HB5.out)⟩
    · have hiz : ¬ (i : Int) < (ts.length : Int) := by omega
      obtain rfl : i = ts.length := by omega
      obtain ⟨r1, r2⟩ := REL.out
      rw [List.take_length] at r1
      have HR : Hid _ := r1
      have HB : Hid _ := r2
      clear r1 r2 REL
      go_wp2
      go_ret
      exact ⟨⟨_, rfl, HR.out⟩, HB.out⟩
end Go.Proofs.W
