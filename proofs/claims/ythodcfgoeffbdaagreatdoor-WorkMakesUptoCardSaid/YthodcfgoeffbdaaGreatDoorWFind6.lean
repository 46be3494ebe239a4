/- A PART OF THE PROOF THAT WORKMAKES HOLDS FOR EVERY INPUT OF BULK AT MOST 1048576. No condition beyond the given statement. This part: WFind6. -/
import Derived.Test.YthodcfgoeffbdaaGreatDoorWHead
import Derived.Test.YthodcfgoeffbdaaGreatDoorNodesLaw
import Derived.Test.YthodcfgoeffbdaaGreatDoorWName
import Derived.Test.YthodcfgoeffbdaaGreatDoorMakeLaw
import Derived.Test.YthodcfgoeffbdaaGreatDoorWOf1
import Derived.Test.YthodcfgoeffbdaaGreatDoorWSort22
namespace Go.Proofs.W
open Go Go.Proofs Go.RowKit
open Go.Proofs.Np (idxI)
set_option maxRecDepth 1000000

/-- where a path stands, or -1 -/
def findF (xs : List FileV) (p : ByteArray) : Int := idxI (fun f : FileV => decide (f.path = p)) xs
theorem findF_neg (xs : List FileV) (p : ByteArray) : findF xs p < 0 ↔ ∀ f, f ∈ xs → f.path ≠ p := by
  unfold findF idxI
  cases h : xs.findIdx? (fun f : FileV => decide (f.path = p)) with
  | none =>
    rw [List.findIdx?_eq_none_iff] at h
    refine ⟨fun _ f hf => by simpa using h f hf, fun _ => by decide⟩
  | some i =>
    rw [List.findIdx?_eq_some_iff_getElem] at h
    obtain ⟨h1, h2, _⟩ := h
    refine ⟨fun h => absurd h (by simp), fun h => absurd (by simpa using h2) (h _ (List.getElem_mem h1))⟩

set_option maxHeartbeats 4000000 in
theorem R06_Find (a : Option Addr) (c : Nat) (xs : List FileV) (p : ByteArray) (w : World) (h : FilesH w a xs) (hlen : xs.length < 9223372036854775808) :
    Calls Tryz.prog 8 #[.slice a xs.length c, .string p] w fun e w' => e = .returned (.int .i64 (findF xs p)) ∧ w' = w := by
  go_enter Tryz.func8, Tryz.ntmps8
  go_wp2
  go_loop [5] (fun x => ∃ i : Nat, i ≤ xs.length ∧ x = .int .i64 i ∧ ∀ j d, j < i → xs[j]? = some d → decide (d.path = p) = false) (fun x => xs.length - (intOf x).toNat)
  case atStart => exact ⟨0, Nat.zero_le _, rfl, fun j d hj => absurd hj (Nat.not_lt_zero _)⟩
  case round =>
    obtain ⟨i, hi, rfl, hno⟩ := hrel
    by_cases hlt : i < xs.length
    · obtain ⟨b, o, rfl, hN⟩ : ∃ b o, a = some ⟨b, o, none⟩ ∧ FilesAt w b o xs := h.resolve_left (by omega)
      have hd : xs[i]? = some xs[i] := List.getElem?_eq_getElem hlt
      obtain ⟨c0, c1, c2⟩ := hN.cell i _ hd
      have hlt' : (i : Int) < (xs.length : Int) := by omega
      have hnn : ¬ (i : Int) < 0 := by omega
      have hnn0 : (0 : Int) ≤ (i : Int) := by omega
      generalize xs[i] = X at c0 c1 c2 hd
      clear c1 c2
      have hq2 := toList_eq_iff X.path p
      cases hq : (X.path.toList == p.toList)
      all_goals
        rw [hq] at hq2
        have HQ : Hid _ := hq2.symm
        clear hq2
      · go_wp2
        go_round
        case rel => exact ⟨i + 1, by omega, by push_cast; rfl, fun j d hj hd2 => by
          by_cases e : j = i
          · subst e
            rw [hd] at hd2
            obtain rfl := Option.some.inj hd2
            exact HQ.out
          · exact hno j d (by omega) hd2⟩
        case measure => simp [intOf]; omega
      · go_wp2
        go_ret
        exact ⟨by unfold findF; rw [idxI_step hd HQ.out hno]; rfl, rfl⟩
    · have hlt' : ¬ (i : Int) < (xs.length : Int) := by omega
      go_wp2
      go_ret
      exact ⟨by unfold findF; rw [idxI_none (fun j d hj hd => hno j d (by omega) hd)]; rfl, rfl⟩
end Go.Proofs.W
namespace Go.Proofs.W
open Go Go.Proofs Go.RowKit Go.Op Go.Sort
set_option maxRecDepth 1000000

theorem sameT_symm (x y : TrackV) : sameT x y = sameT y x := by
  unfold sameT
  rw [show decide (x.path = y.path) = decide (y.path = x.path) from decide_eq_decide.2 ⟨Eq.symm, Eq.symm⟩, show decide (x.patch = y.patch) = decide (y.patch = x.patch) from decide_eq_decide.2 ⟨Eq.symm, Eq.symm⟩, show decide (x.n = y.n) = decide (y.n = x.n) from decide_eq_decide.2 ⟨Eq.symm, Eq.symm⟩]
theorem has_find {fs gs : List FileV} (h : OfOk fs gs) (p : ByteArray) : hasP (pathsOf gs) p = decide (0 ≤ findF fs p) := by
  have h1 := findF_neg fs p
  have h2 := hasP_iff h.ok.rising p
  have h3 : p ∈ pathsOf gs ↔ p ∈ pathsOf fs := by
    have hp : (pathsOf gs).Perm (pathsOf fs) := by
      have := h.perm.map (fun k : ByteArray × Bool × List ByteArray => k.1)
      simpa [pathsOf, List.map_map, FileV.key, Function.comp_def] using this
    exact hp.mem_iff
  by_cases hm : p ∈ pathsOf fs
  · rw [h2.2 (h3.2 hm)]
    symm
    apply decide_eq_true
    obtain ⟨f, hf, e⟩ := List.mem_map.1 hm
    have : ¬ findF fs p < 0 := fun hn => h1.1 hn f hf e
    omega
  · have hn : findF fs p < 0 := h1.2 fun f hf e => hm (List.mem_map.2 ⟨f, hf, e⟩)
    rw [decide_eq_false (by omega)]
    cases hq : hasP (pathsOf gs) p with
    | false => rfl
    | true => exact absurd (h3.1 (h2.1 hq)) hm
theorem ltT_ne {x y : TrackV} (h1 : pathLess x.path y.path = false) (h2 : x.path ≠ y.path) : pathLess y.path x.path = true := by
  cases h3 : pathLess y.path x.path with
  | true => rfl
  | false => exact absurd (pathLess_tri h1 h3) h2
theorem perm_ne {ts gs : List TrackV} (hd : ts.Pairwise (fun x y => x.path ≠ y.path)) (hp : gs.Perm ts) : gs.Pairwise (fun x y => x.path ≠ y.path) := (hp.pairwise_iff (fun h e => h e.symm)).2 hd
theorem rise1 {gs : List TrackV} (hdg : gs.Pairwise (fun x y => x.path ≠ y.path)) (hs : gs.Pairwise (fun x y => pathLess y.path x.path = false)) : gs.Pairwise (fun a b => ltT a b = true) := by
  rw [List.pairwise_iff_getElem] at *
  intro i j hi hj hij
  have h1 := hdg i j hi hj hij
  have h2 := hs i j hi hj hij
  generalize gs[i] = x at *
  generalize gs[j] = y at *
  show pathLess x.path y.path = true
  exact ltT_ne (x := y) (y := x) h2 (fun e => h1 e.symm)
theorem rise2 {ts : List TrackV} (hd : ts.Pairwise (fun x y => x.path ≠ y.path)) : ts.Pairwise (fun y x => ltT x y = false → ltT y x = true) := by
  refine List.Pairwise.imp (R := fun x y => x.path ≠ y.path) ?_ hd
  intro y x h h1
  exact ltT_ne h1 (fun e => h e.symm)
theorem ltT_tr (x y z : TrackV) (h1 : ltT x y = true) (h2 : ltT y z = true) : ltT x z = true := pathLess_tr h1 h2
theorem ltT_as (x y : TrackV) (h1 : ltT x y = true) (h2 : ltT y x = true) : False := by
  have h3 : pathLess y.path x.path = false := pathLess_asymm h1
  have h4 : pathLess y.path x.path = true := h2
  rw [h3] at h4
  cases h4
theorem sorted_unique {ts gs : List TrackV} (hd : ts.Pairwise (fun x y => x.path ≠ y.path)) (hp : gs.Perm ts) (hs : gs.Pairwise (fun x y => pathLess y.path x.path = false)) : gs = insAll ltT ts :=
  rising_unique ltT_as (rise1 (perm_ne hd hp) hs) (insAll_rising ltT_tr (rise2 hd)) (hp.trans (insAll_perm (lt := ltT) ts).symm)
/-- the inner loop of what is wanted -/
def WantIn (has : ByteArray → Bool) (ts : List TrackV) (X : TrackV) (i j : Nat) (v : Int) : Prop :=
  (v = 9 ∧ has X.path = false) ∨ (v = 0 ∧ has X.path = true ∧ (ts.take j).any (sameT X) = false) ∨ (v = 10 ∧ has X.path = true ∧ (ts.take i).any (sameT X) = true)
/-- .. the outer one -/
def WantOut (has : ByteArray → Bool) (ts : List TrackV) (E : Int) (i : Nat) (v : Int) : Prop := (v = 0 ∧ makeE has (ts.take i) (ts.drop i) = E) ∨ (v ≠ 0 ∧ v = E)
theorem want_on {has : ByteArray → Bool} {ts : List TrackV} {E : Int} {i j : Nat} {X : TrackV} {v : Int} (hX : ts[i]? = some X) (h0 : makeE has (ts.take i) (ts.drop i) = E) (h : WantIn has ts X i j v) (hj : v = 0 → j = i) : WantOut has ts E (i + 1) v := by
  rw [makeE_at has hX] at h0
  rcases h with ⟨rfl, h1⟩ | ⟨rfl, h1, h2⟩ | ⟨rfl, h1, h2⟩
  · rw [h1, if_neg (by simp)] at h0
    exact .inr ⟨by decide, h0⟩
  · rw [hj rfl] at h2
    rw [h1, if_pos rfl, h2, if_neg (by simp)] at h0
    exact .inl ⟨rfl, h0⟩
  · rw [h1, if_pos rfl, h2, if_pos rfl] at h0
    exact .inr ⟨by decide, h0⟩
theorem any_on {q : TrackV → Bool} {ts : List TrackV} {j : Nat} {Y : TrackV} (hY : ts[j]? = some Y) (h : (ts.take j).any q = false) (hq : q Y = false) : (ts.take (j + 1)).any q = false := by
  rw [List.take_add_one, hY, List.any_append, h]
  simp [hq]
theorem any_hit {q : TrackV → Bool} {ts : List TrackV} {i j : Nat} {Y : TrackV} (hY : ts[j]? = some Y) (hj : j < i) (hq : q Y = true) : (ts.take i).any q = true := by
  refine List.any_eq_true.2 ⟨Y, ?_, hq⟩
  refine List.mem_of_getElem? (i := j) ?_
  rw [List.getElem?_take, if_pos hj]
  exact hY
end Go.Proofs.W
