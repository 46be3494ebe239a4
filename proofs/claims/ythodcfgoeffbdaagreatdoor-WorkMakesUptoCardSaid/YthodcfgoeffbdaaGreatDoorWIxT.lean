/- A PART OF THE PROOF THAT WORKMAKES HOLDS FOR EVERY INPUT OF BULK AT MOST 1048576. No condition beyond the given statement. This part: WIxT. -/
import Derived.Test.YthodcfgoeffbdaaGreatDoorWHead
import Derived.Test.YthodcfgoeffbdaaGreatDoorWName
import Derived.Test.YthodcfgoeffbdaaGreatDoorNodesLaw
import Derived.Deep.LoopGhost
import Derived.Laws.CopyOwn
import Derived.BigQuiet
import Derived.Test.YthodcfgoeffbdaaGreatDoorWWork
import Derived.Test.YthodcfgoeffbdaaGreatDoorRegRG
namespace Go.Proofs.W
open Go Go.Proofs Go.RowKit
open Go.Proofs.Np (idxI)
set_option maxRecDepth 1000000

/-- a closure that says q of each track -/
def SaysT (g : FuncId) (p : Value) (q : TrackV → Bool) (xs : List TrackV) (w : World) : Prop := ∀ (W : World) (X : TrackV), Below w.heap.size w W → X ∈ xs → Calls Tryz.prog g #[.agg #[.string X.path, .string X.patch, .int .i64 X.n], p] W fun e W' => e = .returned (.bool (q X)) ∧ Below W.heap.size W W'

set_option maxHeartbeats 8000000 in
theorem tracks_IndexFunc (g : FuncId) (p : Value) (hent : ∀ args w, (callFunc g args).run Tryz.prog w = .ok (.enter g args) w) (q : TrackV → Bool) (a : Option Addr) (c : Nat) (xs : List TrackV) (w : World) (hsay : SaysT g p q xs w) (h : TracksH w a xs) (hlen : xs.length < 9223372036854775808) :
    Calls Tryz.prog 55 #[.slice a xs.length c, .func (.func g) #[] #[p]] w fun e w' => e = .returned (.int .i64 (idxI q xs)) ∧ Below w.heap.size w w' := by
  go_enter Tryz.func55, Tryz.ntmps55
  go_wp2
  go_loopw [8] (fun x w' => Below w.heap.size w w' ∧ ∃ i : Nat, i ≤ xs.length ∧ x = .int .i64 i ∧ ∀ j d, j < i → xs[j]? = some d → q d = false) (fun x _ => xs.length - (intOf x).toNat)
  case atStart => exact ⟨Below.refl _ w, 0, Nat.zero_le _, rfl, fun j d hj => absurd hj (Nat.not_lt_zero _)⟩
  case round =>
    obtain ⟨hB, i, hi, rfl, hno⟩ := hrel
    by_cases hlt : i < xs.length
    · obtain ⟨b, o, rfl, hN⟩ : ∃ b o, a = some ⟨b, o, none⟩ ∧ TracksAt w b o xs := h.resolve_left (by omega)
      have hd : xs[i]? = some xs[i] := List.getElem?_eq_getElem hlt
      have hmem : xs[i] ∈ xs := List.getElem_mem hlt
      obtain ⟨X, hX⟩ : ∃ X, xs[i] = X := ⟨_, rfl⟩
      rw [hX] at hd hmem
      obtain ⟨c0, c1, c2⟩ := (hN.below hB).cell i _ hd
      have hlt' : (i : Int) < (xs.length : Int) := by omega
      have hnn : ¬ (i : Int) < 0 := by omega
      have hnn0 : (0 : Int) ≤ (i : Int) := by omega
      have hcall := hsay wr X hB hmem
      cases hqi : q X with
      | true =>
        rw [hqi] at hcall
        go_wp2_with (go_at_fn g; refine hcall.mono ?_; rintro e w' ⟨rfl, hb'⟩)
        go_ret
        exact ⟨by rw [idxI_step hd hqi hno]; rfl, belowTrans hB hb'⟩
      | false =>
        rw [hqi] at hcall
        go_wp2_with (go_at_fn g; refine hcall.mono ?_; rintro e w' ⟨rfl, hb'⟩)
        go_roundw
        case rel => exact ⟨belowTrans hB hb', i + 1, by omega, by push_cast; rfl, fun j d hj hd2 => by
          by_cases e : j = i
          · subst e; rw [hd] at hd2; obtain rfl := Option.some.inj hd2; exact hqi
          · exact hno j d (by omega) hd2⟩
        case measure => simp [intOf]; omega
    · have hlt' : ¬ (i : Int) < (xs.length : Int) := by omega
      go_wp2
      go_ret
      exact ⟨by rw [idxI_none fun j d hj => hno j d (by omega)]; rfl, hB⟩

theorem idxI_any {α : Type} (q : α → Bool) (xs : List α) : decide (0 ≤ idxI q xs) = xs.any q := by
  unfold idxI
  cases h : xs.findIdx? q with
  | none =>
    rw [List.findIdx?_eq_none_iff] at h
    have : xs.any q = false := List.any_eq_false.2 fun x hx => by rw [h x hx]; simp
    rw [this]
    rfl
  | some i =>
    rw [List.findIdx?_eq_some_iff_getElem] at h
    obtain ⟨h1, h2, _⟩ := h
    have : xs.any q = true := List.any_eq_true.2 ⟨_, List.getElem_mem h1, h2⟩
    rw [this]
    exact decide_eq_true (Int.natCast_nonneg i)
set_option maxHeartbeats 4000000 in
theorem tracks_ContainsFunc (g : FuncId) (p : Value) (hent : ∀ args w, (callFunc g args).run Tryz.prog w = .ok (.enter g args) w) (q : TrackV → Bool) (a : Option Addr) (c : Nat) (xs : List TrackV) (w : World) (hsay : SaysT g p q xs w) (h : TracksH w a xs) (hlen : xs.length < 9223372036854775808) :
    Calls Tryz.prog 27 #[.slice a xs.length c, .func (.func g) #[] #[p]] w fun e w' => e = .returned (.bool (xs.any q)) ∧ Below w.heap.size w w' := by
  have hcon := tracks_IndexFunc g p hent q a c xs w hsay h hlen
  rw [← idxI_any]
  clear hsay
  generalize idxI q xs = r at hcon ⊢
  go_enter Tryz.func27, Tryz.ntmps27
  go_wp2_with (go_at_call 55; refine hcon.mono ?_; rintro e w' ⟨rfl, hb'⟩)
  go_ret
  exact ⟨rfl, hb'⟩
end Go.Proofs.W
namespace Go.Proofs.W
open Go Go.Proofs Go.RowKit
open Go.Proofs.Np (idxI)
set_option maxRecDepth 1000000

theorem tracksAt_row {w : World} {base g c : Nat} {xs : List TrackV} (h : w.ownsRow base 39 3 (.slice (some ⟨g, 0, none⟩) xs.length c) xs.length (xs.flatMap TrackV.cells)) (hlt : g < w.heap.size) : TracksAt w g 0 xs := by
  refine ⟨hlt, fun j d hd => ?_⟩
  have hj : j < xs.length := (List.getElem?_eq_some_iff.1 hd).1
  have hc : ∀ i, i < xs.length * 3 → w.cell? ⟨g, i, none⟩ = (xs.flatMap TrackV.cells)[i]? := fun i hi => h.cellAt i (by omega)
  have hv : ∀ r, r < 3 → (xs.flatMap TrackV.cells)[j * 3 + r]? = (TrackV.cells d)[r]? := fun r hr => flatMap_at TrackV.cells 3 trackCells_len xs j r d hd hr
  simp only [Nat.zero_add]
  refine ⟨?_, ?_, ?_⟩
  · have := hv 0 (by decide)
    rw [hc (j * 3) (by omega), show j * 3 = j * 3 + 0 from rfl, this]
    rfl
  · have := hv 1 (by decide)
    rw [hc (j * 3 + 1) (by omega), this]
    rfl
  · have := hv 2 (by decide)
    rw [hc (j * 3 + 2) (by omega), this]
    rfl
theorem tracksH_row {w : World} {base : Nat} {a : Option Addr} {c : Nat} {xs : List TrackV} (h : w.ownsRow base 39 3 (.slice a xs.length c) xs.length (xs.flatMap TrackV.cells)) : TracksH w a xs := by
  rcases h.2 with ⟨_, h0⟩ | ⟨g, cap, cur, e, _, hh, _⟩
  · exact .inl h0
  · cases e
    exact .inr ⟨g, 0, rfl, tracksAt_row h (Array.getElem?_eq_some_iff.1 hh).1⟩

theorem run_clear_rowK {P : Program} (k : Nat) (w : World) (t e te : TypeId) (z : Value) (ht : P.underlying t = some (.slice e)) (hv : ∀ w, (zeroValue e).run P w = .ok z w) (hz : z.cells.size = k) (g n c : Nat) (cur : Array Value) (hg : w.heap[g]? = some (.cells cur te (0, 0)))
    (hfit : n * k ≤ cur.size) (hn : 0 < n) (hone : ∀ n, ∀ v ∈ (Builtin.zeroCells z.cells n).toList, v.oneCell' = true) :
    ∃ ROW, ∀ ty, (Builtin.clear_ #[t] ty #[.slice (some ⟨g, 0, none⟩) n c]).run P w = .ok (.tuple #[]) (w.setRow g ROW) := by
  have hl : (Builtin.zeroCells z.cells n).toList.length = n * k := by simp [Builtin.zeroCells, hz]
  have hst := run_storeCells_at (P := P) g 0 te (Builtin.zeroCells z.cells n).toList 0 cur w hg (by rw [hl]; omega) (hone n)
  obtain ⟨m, rfl⟩ : ∃ m, n = m + 1 := ⟨n - 1, by omega⟩
  exact ⟨_, fun ty => by simp [Builtin.clear_, run_underlying ht, hv, hst]; rfl⟩

theorem idxI_all {α : Type} (xs : List α) (h : 0 < xs.length) : idxI (fun _ => true) xs = 0 := by
  cases xs with
  | nil => simp at h
  | cons x r => simp [idxI, List.findIdx?_cons]

set_option maxHeartbeats 8000000 in
/-- slices.DeleteFunc at tracks, where each goes -/
theorem tracks_DeleteAll (g0 : FuncId) (p : Value) (hent : ∀ args w, (callFunc g0 args).run Tryz.prog w = .ok (.enter g0 args) w) (base B : Nat) (a : Option Addr) (c : Nat) (xs : List TrackV) (w : World) (hsay : SaysT g0 p (fun _ => true) xs w) (h : w.ownsRow base 39 3 (.slice a xs.length c) xs.length (xs.flatMap TrackV.cells)) (hB : B ≤ base) (hBw : B ≤ w.heap.size) (hlen : xs.length < 9223372036854775807) :
    Calls Tryz.prog 34 #[.slice a xs.length c, .func (.func g0) #[] #[p]] w fun e w' => (∃ a' c', e = .returned (.slice a' 0 c')) ∧ Below B w w' := by
  have hix := tracks_IndexFunc g0 p hent (fun _ => true) a c xs w hsay (tracksH_row h) (by omega)
  rcases h.2 with ⟨e, h0⟩ | ⟨g, cap, cur, e, hbg, hh, hcap, _, hcs, _⟩
  · have hx : xs = [] := List.eq_nil_of_length_eq_zero h0
    subst hx
    cases e
    rw [show idxI (fun _ => true) ([] : List TrackV) = -1 from rfl] at hix
    have HI : Hid _ := hix
    clear hix hsay
    go_enter Tryz.func34, Tryz.ntmps34
    go_wp2_with fail
    refine Calls.mono HI.out ?_
    rintro e w2 ⟨rfl, hb2⟩
    go_wp2
    go_ret
    exact ⟨⟨_, _, rfl⟩, hb2.mono hBw⟩
  · cases e
    by_cases hx0 : xs.length = 0
    · have hx : xs = [] := List.eq_nil_of_length_eq_zero hx0
      subst hx
      rw [show idxI (fun _ => true) ([] : List TrackV) = -1 from rfl] at hix
      have HI : Hid _ := hix
      clear hix hsay
      go_enter Tryz.func34, Tryz.ntmps34
      go_wp2_with fail
      refine Calls.mono HI.out ?_
      rintro e w2 ⟨rfl, hb2⟩
      go_wp2
      go_ret
      exact ⟨⟨_, _, rfl⟩, hb2.mono hBw⟩
    · rw [idxI_all xs (by omega)] at hix
      have HI : Hid _ := hix
      have HS : Hid (SaysT g0 p (fun _ => true) xs w) := hsay
      have HT : Hid (∀ w', Below w.heap.size w w' → TracksAt w' g 0 xs) := fun w' hb => (tracksAt_row h (Array.getElem?_eq_some_iff.1 hh).1).below hb
      have HH : Hid (∀ w', Below w.heap.size w w' → w'.heap[g]? = some (.cells cur 39 (0, 0))) := fun w' hb => (hb.block g (Array.getElem?_eq_some_iff.1 hh).1).trans hh
      have HC : Hid (xs.length * 3 ≤ cur.size) := by show _ ≤ _; rw [hcs]; exact Nat.mul_le_mul_right 3 hcap
      have hc0 : ¬ c = 0 := by omega
      have hc1 : (xs.length : Int) ≤ (c : Int) := by omega
      clear hix hsay h hh hcs
      go_enter Tryz.func34, Tryz.ntmps34
      go_wp2_with fail
      refine Calls.mono HI.out ?_
      rintro e w2 ⟨rfl, hb2⟩
      have HB2 : Hid _ := hb2
      clear hb2
      go_wp2
      go_loopg [5, 6] xs.length (fun gg s5 s6 wr => ∃ (j : Nat), s5 = .int .i64 0 ∧ s6 = .int .i64 j ∧ j ≤ xs.length ∧ xs.length - j ≤ gg ∧ Hid (Below w.heap.size w wr))
      case atStart => exact ⟨1, rfl, by go_num, by omega, by omega, HB2.out⟩
      case round =>
        obtain ⟨j, rfl, rfl, hj, hgg, HB⟩ := hrel
        by_cases hlt : j < xs.length
        · obtain ⟨X, hX⟩ : ∃ X, xs[j]? = some X := ⟨_, List.getElem?_eq_getElem hlt⟩
          obtain ⟨c0, c1, c2⟩ := (HT.out wr HB.out).cell j X hX
          simp only [Nat.zero_add] at c0 c1 c2
          have hjz : (j : Int) < (xs.length : Int) := by omega
          have hnn : ¬ (j : Int) < 0 := by omega
          have hnn0 : (0 : Int) ≤ (j : Int) := by omega
          have HCALL : Hid _ := fun (W : World) (hb : Below w.heap.size w W) => HS.out W X hb (List.mem_of_getElem? hX)
          have HA : Hid (Below w.heap.size w (wr.alloc (.cells #[.string X.path, .string X.patch, .int .i64 X.n] 39))) := belowTrans HB.out (belowAlloc _ _)
          clear hX
          go_wp2_with (go_at_fn g0; refine (HCALL.out _ HA.out).mono ?_; rintro e w' ⟨rfl, hb'⟩)
          go_roundg (xs.length - (j + 1))
          case measure => omega
          case rel => exact ⟨j + 1, rfl, by go_num, by omega, Nat.le_refl _, belowTrans HA.out hb'⟩
        · have hjz : ¬ (j : Int) < (xs.length : Int) := by omega
          obtain ⟨ROW, hcl⟩ := run_clear_rowK (P := Tryz.prog) 3 wr 23 39 39 (.agg #[.string ⟨#[]⟩, .string ⟨#[]⟩, .int .i64 0]) Tryz.underlying23 (fun w => by kernel_rfl) rfl g xs.length c cur (HH.out wr HB.out) HC.out (by omega) (fun n v hv => by
            simp only [Builtin.zeroCells, Array.toList_map, List.mem_map] at hv
            obtain ⟨i, _, rfl⟩ := hv
            have : i % (Value.agg #[.string ⟨#[]⟩, .string ⟨#[]⟩, .int .i64 0]).cells.size < 3 := Nat.mod_lt _ (by decide)
            generalize i % (Value.agg #[.string ⟨#[]⟩, .string ⟨#[]⟩, .int .i64 0]).cells.size = r at this ⊢
            match r, this with
            | 0, _ => rfl
            | 1, _ => rfl
            | 2, _ => rfl)
          have hz0 : ¬ xs.length = 0 := hx0
          have HB9 : Hid (Below B w (wr.setRow g ROW)) := below_setRow (HB.out.mono hBw) (Nat.le_trans hB hbg) ROW
          go_wp2
          go_ret
          exact ⟨⟨_, _, rfl⟩, HB9.out⟩
end Go.Proofs.W
namespace Go.Proofs.W
open Go Go.Proofs Go.RowKit
set_option maxRecDepth 1000000

set_option maxHeartbeats 4000000 in
theorem nodesIx_none (f : Value) (w : World) : Calls Tryz.prog 144 #[.slice none 0 0, f] w fun e w' => e = .returned (.int .i64 (-1)) ∧ Below w.heap.size w w' := by
  go_enter Tryz.func144, Tryz.ntmps144
  go_wp2
  go_loop [8] (fun x => x = .int .i64 0) (fun x => 0)
  case atStart => rfl
  case round =>
    obtain rfl := hrel
    go_wp2
    go_ret
    exact ⟨rfl, Below.refl _ _⟩

set_option maxHeartbeats 4000000 in
theorem nodes_Find_none (p : ByteArray) (n : Int) (w : World) : Calls Tryz.prog 87 #[.slice none 0 0, .agg #[.string p, .int .i64 n]] w fun e w' => e = .returned (.int .i64 (-1)) ∧ Below w.heap.size w w' := by
  have hA := belowAlloc w (.cells #[.string p, .int .i64 n] 37)
  have hi := fun f w => nodesIx_none f w
  go_enter Tryz.func87, Tryz.ntmps87
  go_wp2_with fail
  refine Calls.mono (hi _ _) ?_
  rintro e w2 ⟨rfl, hb2⟩
  go_wp2
  go_ret
  exact ⟨rfl, belowTrans hA hb2⟩

set_option maxHeartbeats 4000000 in
theorem world_node_none (p : ByteArray) (n : Int) (w : World) : Calls Tryz.prog 73 #[.agg #[.slice none 0 0, .slice none 0 0], .agg #[.string p, .int .i64 n]] w fun e w' => e = .returned (.tuple #[.int .i64 (-1), .bool false]) ∧ Below w.heap.size w w' := by
  have mixed : Tryz.prog.follows .mixedOrders = true := by kernel_rfl
  obtain ⟨W, hW⟩ : ∃ W, W = (w.alloc (.cells #[.slice none 0 0, .slice none 0 0] 49)).alloc (.cells #[.string p, .int .i64 n] 37) := ⟨_, rfl⟩
  have hA : Below w.heap.size w W := by rw [hW]; exact belowTrans (belowAlloc _ _) (belowAlloc _ _)
  have hi := nodes_Find_none p n W
  have HI : Hid _ := hi
  have HA : Hid _ := hA
  clear hi hA
  go_enter Tryz.func73, Tryz.ntmps73
  go_wp2_with fail
  simp only [← hW]
  refine Calls.mono HI.out ?_
  rintro e w2 ⟨rfl, hb2⟩
  have HB : Hid _ := belowTrans HA.out hb2
  clear hb2
  go_wp2_with fail
  go_quiet (fail)
  go_wp2
  go_ret2
  exact ⟨rfl, belowTrans HB.out (belowDrew _ _)⟩

set_option maxHeartbeats 4000000 in
theorem world_Has_none (p : ByteArray) (n : Int) (w : World) : Calls Tryz.prog 36 #[.agg #[.slice none 0 0, .slice none 0 0], .agg #[.string p, .int .i64 n]] w fun e w' => e = .returned (.bool false) ∧ Below w.heap.size w w' := by
  obtain ⟨W, hW⟩ : ∃ W, W = (w.alloc (.cells #[.slice none 0 0, .slice none 0 0] 49)).alloc (.cells #[.string p, .int .i64 n] 37) := ⟨_, rfl⟩
  have hA : Below w.heap.size w W := by rw [hW]; exact belowTrans (belowAlloc _ _) (belowAlloc _ _)
  have hi := world_node_none p n W
  have HI : Hid _ := hi
  have HA : Hid _ := hA
  clear hi hA
  go_enter Tryz.func36, Tryz.ntmps36
  go_wp2_with fail
  simp only [← hW]
  refine Calls.mono HI.out ?_
  rintro e w2 ⟨rfl, hb2⟩
  have HB : Hid _ := belowTrans HA.out hb2
  clear hb2
  go_wp2
  go_ret
  exact ⟨rfl, HB.out⟩

set_option maxHeartbeats 4000000 in
theorem keep_1 (B : Nat) (X : TrackV) (w : World) (h : w.heap[B]? = some (.cells #[.slice none 0 0, .slice none 0 0] 49 (0, 0))) : Calls Tryz.prog 35 #[.agg #[.string X.path, .string X.patch, .int .i64 X.n], .pointer (some ⟨B, 0, none⟩)] w fun e w' => e = .returned (.bool true) ∧ Below w.heap.size w w' := by
  have hA := belowAlloc w (.cells #[.string X.path, .string X.patch, .int .i64 X.n] 39)
  have h2 := (hA.block B (Array.getElem?_eq_some_iff.1 h).1).trans h
  have p0 : (w.alloc (.cells #[.string X.path, .string X.patch, .int .i64 X.n] 39)).cell? ⟨B, 0, none⟩ = some (.slice none 0 0) := by simp [World.cell?, h2]
  have p1 : (w.alloc (.cells #[.string X.path, .string X.patch, .int .i64 X.n] 39)).cell? ⟨B, 1, none⟩ = some (.slice none 0 0) := by simp [World.cell?, h2]
  have hi := world_Has_none X.patch X.n (w.alloc (.cells #[.string X.path, .string X.patch, .int .i64 X.n] 39))
  have HI : Hid _ := hi
  have HA : Hid _ := hA
  clear hi hA h2 h
  go_enter Tryz.func35, Tryz.ntmps35
  go_wp2_with fail
  refine Calls.mono HI.out ?_
  rintro e w2 ⟨rfl, hb2⟩
  go_wp2
  go_ret
  exact ⟨rfl, belowTrans HA.out hb2⟩
theorem keep_enters : ∀ args w, (callFunc 35 args).run Tryz.prog w = .ok (.enter 35 args) w := enters_of Tryz.func35 (by kernel_rfl) rfl
end Go.Proofs.W
namespace Go.Proofs.W
open Go Go.Proofs Go.RowKit
set_option maxRecDepth 1000000

/-- what the operations of Keep's return are worth -/
def KV (B0 n c tc : Nat) (a ta : Option Addr) (ts : List TrackV) (L : Nat → Bool) (i : Nat) (v : Value) (W : World) : Prop := match i with
  | 0 => v = .pointer (some ⟨B0, 0, none⟩)
  | 1 => v = .agg #[.slice a n c]
  | 2 => v = .agg #[.slice a n c, .slice ta ts.length tc]
  | 3 => L 5 = false → ∃ ra rc, v = .slice ra ts.length rc ∧ W.ownsRow (B0 + 3) 39 3 (.slice ra ts.length rc) ts.length (ts.flatMap TrackV.cells)
  | 4 => v = .func (.func 35) #[] #[.pointer (some ⟨B0 + 1, 0, none⟩)]
  | 5 => ∃ a' c', v = .slice a' 0 c'
  | _ => True
theorem KV.below {B0 n c tc : Nat} {a ta : Option Addr} {ts : List TrackV} {L : Nat → Bool} {i : Nat} (hi : i ≠ 5) {W W' : World} (hb : Below W.heap.size W W') (j : Nat) (u : Value) (h : KV B0 n c tc a ta ts L j u W) : KV B0 n c tc a ta ts (upd L i) j u W' := by
  unfold KV at h ⊢
  split at h
  any_goals exact h
  intro hL
  have hL' : L 5 = false := by unfold upd at hL; rwa [if_neg (fun e => hi e.symm)] at hL
  obtain ⟨ra, rc, e, ho⟩ := h hL'
  exact ⟨ra, rc, e, ownsRow_below ho hb⟩
theorem KV.fin {B0 n c tc : Nat} {a ta : Option Addr} {ts : List TrackV} {L : Nat → Bool} {W W' : World} (j : Nat) (u : Value) (h : KV B0 n c tc a ta ts L j u W) : KV B0 n c tc a ta ts (upd L 5) j u W' := by
  unfold KV at h ⊢
  split at h
  any_goals exact h
  intro hL
  simp [upd] at hL

set_option maxHeartbeats 8000000 in
theorem work_Keep (a ta : Option Addr) (c tc n : Nat) (ts : List TrackV) (w : World) (h : TracksH w ta ts) (hlen : ts.length ≤ 1000000) :
    Calls Tryz.prog 12 #[.agg #[.slice a n c, .slice ta ts.length tc], .agg #[.slice none 0 0, .slice none 0 0]] w fun e w' => (∃ a' c', e = .returned (.agg #[.slice a n c, .slice a' 0 c'])) ∧ Below w.heap.size w w' := by
  obtain ⟨W0, hW0⟩ : ∃ W0, W0 = ((w.alloc (.cells #[.slice a n c, .slice ta ts.length tc] 32)).alloc (.cells #[.slice none 0 0, .slice none 0 0] 49)).alloc (.cells #[.slice none 0 0, .slice none 0 0] 32) := ⟨_, rfl⟩
  have hA : Below w.heap.size w W0 := by rw [hW0]; exact belowTrans (belowTrans (belowAlloc _ _) (belowAlloc _ _)) (belowAlloc _ _)
  have b1 : W0.heap[w.heap.size]? = some (.cells #[.slice a n c, .slice ta ts.length tc] 32 (0, 0)) := by
    rw [hW0, Below.heap_alloc _ _ _ (by simp only [allocSize]; omega), Below.heap_alloc _ _ _ (by simp only [allocSize]; omega)]
    exact (MapKept.heap_alloc w _).1
  have b2 : W0.heap[w.heap.size + 1]? = some (.cells #[.slice none 0 0, .slice none 0 0] 49 (0, 0)) := by
    rw [hW0, Below.heap_alloc _ _ _ (by simp only [allocSize]; omega), show w.heap.size + 1 = (w.alloc (.cells #[.slice a n c, .slice ta ts.length tc] 32)).heap.size by simp]
    exact (MapKept.heap_alloc _ _).1
  have b3 : W0.heap[w.heap.size + 2]? = some (.cells #[.slice none 0 0, .slice none 0 0] 32 (0, 0)) := by
    rw [hW0, show w.heap.size + 2 = ((w.alloc (.cells #[.slice a n c, .slice ta ts.length tc] 32)).alloc (.cells #[.slice none 0 0, .slice none 0 0] 49)).heap.size by simp]
    exact (MapKept.heap_alloc _ _).1
  have hz : W0.heap.size = w.heap.size + 3 := by rw [hW0]; simp
  have H1 : Hid _ := b1
  have H2 : Hid _ := b2
  have H3 : Hid _ := b3
  have HA : Hid _ := hA
  have HZ : Hid _ := hz
  clear b1 b2 b3 hA hz
  go_enter Tryz.func12, Tryz.ntmps12
  go_wp2_with fail
  simp only [← hW0]
  clear hW0
  refine wp_region_gd 6 4 12 (by kernel_rfl) ?ok ?forced rfl (KV w.heap.size n c tc a ta ts) (fun W => Below (w.heap.size + 3) W0 W) (by rw [← HZ.out]; exact belowDrew1 _) ?step ?fin
  case ok => kernel_rfl
  case forced => kernel_rfl
  case step =>
    intro i o hi ho L A W hLi hpre hF hJ hV
    have s2 : A.tmps[2]? = some (.pointer (some ⟨w.heap.size, 0, none⟩)) := hF.at (by kernel_rfl) rfl
    have s3 : A.tmps[3]? = some (.pointer (some ⟨w.heap.size + 1, 0, none⟩)) := hF.at (by kernel_rfl) rfl
    have d1 := (hJ.block w.heap.size (by omega)).trans H1.out
    have d2 := (hJ.block (w.heap.size + 1) (by omega)).trans H2.out
    have c0 : W.cell? ⟨w.heap.size, 0, none⟩ = some (.slice a n c) := by simp [World.cell?, d1]
    have c1 : W.cell? ⟨w.heap.size, 1, none⟩ = some (.slice ta ts.length tc) := by simp [World.cell?, d1]
    have hBW : Below w.heap.size w W := HA.out.trans (hJ.mono (by omega))
    have hWs : w.heap.size + 3 ≤ W.heap.size := by have := hJ.size; rw [HZ.out] at this; exact this
    match i, hi with
    | 0, _ =>
      simp only [List.getElem?_toArray, List.getElem?_cons_zero, Option.some.injEq] at ho
      subst ho
      refine ⟨wanted_none rfl, fun K hK => rg_val (v := .pointer (some ⟨w.heap.size, 0, none⟩)) ?_ (hK _ _ (fun j u _ => KV.below (by decide) (Below.refl _ _) j u) rfl hJ)⟩
      simp [execOp, Act.eval, go_sem, s2]
    | 1, _ =>
      simp only [List.getElem?_toArray, List.getElem?_cons_succ, List.getElem?_cons_zero, Option.some.injEq] at ho
      subst ho
      have sx := hF.slot (i := 0) rfl (by simp) (hV 0 (hpre ⟨0, .data⟩ (by simp) rfl))
      refine ⟨wanted_none rfl, fun K hK => rg_val (v := .agg #[.slice a n c]) ?_ (hK _ _ (fun j u _ => KV.below (by decide) (Below.refl _ _) j u) rfl hJ)⟩
      simp [execOp, Act.eval, go_sem, sx, c0]
    | 2, _ =>
      simp only [List.getElem?_toArray, List.getElem?_cons_succ, List.getElem?_cons_zero, Option.some.injEq] at ho
      subst ho
      refine ⟨wanted_none rfl, fun K hK => rg_val (v := .agg #[.slice a n c, .slice ta ts.length tc]) ?_ (hK _ _ (fun j u _ => KV.below (by decide) (Below.refl _ _) j u) rfl hJ)⟩
      simp [execOp, Act.eval, go_sem, s2, c0, c1]
    | 3, _ =>
      simp only [List.getElem?_toArray, List.getElem?_cons_succ, List.getElem?_cons_zero, Option.some.injEq] at ho
      subst ho
      have sx := hF.slot (i := 2) rfl (by simp) (hV 2 (hpre ⟨2, .data⟩ (by simp) rfl))
      refine ⟨wanted_none rfl, fun K hK => rg_enter (f := 19) (args := #[.agg #[.slice a n c, .slice ta ts.length tc]]) (w' := W) ?_ (work_Tracks a ta c tc n ts W (h.below hBW) (by omega)) ?_ ?_ ?_⟩
      · simp [Act.eval, go_sem, sx]
      · rintro v w'' ⟨⟨v', e, ho⟩, hb⟩
        cases e
        obtain ⟨ra, rc, rfl⟩ := ownShape ho
        exact hK _ _ (fun j u _ => KV.below (by decide) hb j u) (fun _ => ⟨ra, rc, rfl, ownsRow_base ho (by omega)⟩) (hJ.trans (hb.mono hWs))
      · rintro chain w'' ⟨⟨_, e, _⟩, _⟩
        cases e
      · rintro w'' ⟨⟨_, e, _⟩, _⟩
        cases e
    | 4, _ =>
      simp only [List.getElem?_toArray, List.getElem?_cons_succ, List.getElem?_cons_zero, Option.some.injEq] at ho
      subst ho
      refine ⟨wanted_none rfl, fun K hK => rg_val (v := .func (.func 35) #[] #[.pointer (some ⟨w.heap.size + 1, 0, none⟩)]) ?_ (hK _ _ (fun j u _ => KV.below (by decide) (Below.refl _ _) j u) rfl hJ)⟩
      simp [execOp, Act.eval, go_sem, s3]
    | 5, _ =>
      simp only [List.getElem?_toArray, List.getElem?_cons_succ, List.getElem?_cons_zero, Option.some.injEq] at ho
      subst ho
      obtain ⟨ra, rc, e3, hown⟩ := hV 3 (hpre ⟨3, .data⟩ (by simp) rfl) hLi
      have sx := hF.slot (i := 3) rfl (by simp) e3
      have sy := hF.slot (i := 4) rfl (by simp) (hV 4 (hpre ⟨4, .data⟩ (by simp) rfl))
      have hsay : SaysT 35 (.pointer (some ⟨w.heap.size + 1, 0, none⟩)) (fun _ => true) ts W := fun W' X hb _ => keep_1 _ X W' ((hb.block _ (by omega)).trans d2)
      refine ⟨wanted_none rfl, fun K hK => rg_enter (f := 34) (args := #[.slice ra ts.length rc, .func (.func 35) #[] #[.pointer (some ⟨w.heap.size + 1, 0, none⟩)]]) (w' := W) ?_ (tracks_DeleteAll _ _ keep_enters (w.heap.size + 3) (w.heap.size + 3) ra rc ts W hsay hown (Nat.le_refl _) hWs (by omega)) ?_ ?_ ?_⟩
      · simp [Act.eval, go_sem, sx, sy]
      · rintro v w'' ⟨⟨a', c', e⟩, hb⟩
        cases e
        exact hK _ _ (fun j u _ => KV.fin j u) ⟨a', c', rfl⟩ (hJ.trans hb)
      · rintro chain w'' ⟨⟨_, _, e⟩, _⟩
        cases e
      · rintro w'' ⟨⟨_, _, e⟩, _⟩
        cases e
  case fin =>
    intro A W hF hJ hV
    have e1 : A.tmps.getD 6 undef = .agg #[.slice a n c] := hV 1 (by omega)
    obtain ⟨a', c', e5⟩ := hV 5 (by omega)
    have e5 : A.tmps.getD 10 undef = .slice a' 0 c' := e5
    rw [hF.lit [5, 6, 7, 8, 9, 10, 11] (by kernel_rfl)]
    simp only [relaid, List.foldl_cons, List.foldl_nil, e1, e5]
    generalize A.tmps.getD 5 undef = y5
    generalize A.tmps.getD 7 undef = y7
    generalize A.tmps.getD 8 undef = y8
    generalize A.tmps.getD 9 undef = y9
    generalize A.tmps.getD 11 undef = y11
    simp only [List.setIfInBounds_toArray, List.set_cons_succ, List.set_cons_zero, List.drop_succ_cons]
    clear hV hF e1 e5
    have d3 := (hJ.block (w.heap.size + 2) (by omega)).trans H3.out
    have f0 : W.cell? ⟨w.heap.size + 2, 0, none⟩ = some (.slice none 0 0) := by simp [World.cell?, d3]
    have f1 : W.cell? ⟨w.heap.size + 2, 1, none⟩ = some (.slice none 0 0) := by simp [World.cell?, d3]
    have fz : ∀ k, W.frozen? ⟨w.heap.size + 2, k, none⟩ = false := fun k => frozen_of_row W _ k _ _ d3
    have HJ : Hid (Below w.heap.size w W) := HA.out.trans (hJ.mono (by omega))
    have hfin := setCell_block (.slice a' 0 c') (setCell_block (.slice a n c) d3 (i := 0)) (i := 1)
    have HF : Hid _ := hfin
    clear hfin d3 hJ
    go_wp2
    refine bodyPost_ret_by (v := .agg #[.slice a n c, .slice a' 0 c']) (results_cell_row rfl _ _ (w.heap.size + 2) 32 _ _ _ rfl HF.out Tryz.underlying32 rfl (by kernel_rfl)) rfl ⟨⟨a', c', rfl⟩, (HJ.out.setCell (by show _ ≤ w.heap.size + 2; omega) _).setCell (by show _ ≤ w.heap.size + 2; omega) _⟩
end Go.Proofs.W
