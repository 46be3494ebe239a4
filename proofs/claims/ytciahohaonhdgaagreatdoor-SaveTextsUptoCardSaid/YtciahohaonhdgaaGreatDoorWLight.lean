/- A PART OF THE PROOF THAT SAVETEXTS HOLDS FOR EVERY INPUT OF BULK AT MOST 1048576. No condition beyond the given statement. This part: WLight. -/
import Derived.Test.YtciahohaonhdgaaGreatDoorWHead
import Derived.Test.YtciahohaonhdgaaGreatDoorWSetNS
namespace Go.Proofs.W
open Go Go.Proofs Go.RowKit
set_option maxRecDepth 1000000
def LinesLight (xs : List ByteArray) : Prop := xs.length ≤ 60 ∧ ∀ (j : Nat) d, xs[j]? = some d → d.size ≤ 300
def LinesLightSays (xs : List ByteArray) (e : Ending) : Prop := ∃ t, e = .returned (.bool t) ∧ (t = true → LinesLight xs)
set_option maxHeartbeats 4000000 in
theorem L03_Light (a : Option Addr) (c : Nat) (xs : List ByteArray) (w : World) (h : TextsH w a xs) (hlen : xs.length < 9223372036854775808) :
    Calls Tryz.prog 20 #[.slice a xs.length c] w fun e w' => LinesLightSays xs e ∧ w' = w := by
  go_enter Tryz.func20, Tryz.ntmps20
  go_wp2
  go_loop [3] (fun x => ∃ i : Nat, i ≤ xs.length ∧ x = .int .i64 i ∧ ∀ j d, j < i → xs[j]? = some d → d.size ≤ 300) (fun x => xs.length - (intOf x).toNat)
  case atStart => exact ⟨0, Nat.zero_le _, rfl, fun j d hj => absurd hj (Nat.not_lt_zero _)⟩
  case round =>
    obtain ⟨i, hi, rfl, hno⟩ := hrel
    by_cases hlt : i < xs.length
    · obtain h0 | ⟨b, o, rfl, hN⟩ := h
      · omega
      have hd : xs[i]? = some xs[i] := List.getElem?_eq_getElem hlt
      have c0 := hN.cell i _ hd
      have hlt' : (i : Int) < (xs.length : Int) := by omega
      have hnn : ¬ (i : Int) < 0 := by omega
      have hnn0 : (0 : Int) ≤ (i : Int) := by omega
      go_wp2
      all_goals first
        | (go_ret; exact ⟨⟨false, rfl, fun h => absurd h (by simp)⟩, rfl⟩)
        | (go_round
           case rel => exact ⟨i + 1, by omega, by push_cast; rfl, fun j d hj hd2 => by
             by_cases e : j = i
             · subst e
               rw [hd] at hd2
               obtain rfl := Option.some.inj hd2
               omega
             · exact hno j d (by omega) hd2⟩
           case measure => simp [intOf]; omega)
    · have hlt' : ¬ (i : Int) < (xs.length : Int) := by omega
      go_wp2
      go_ret
      refine ⟨⟨_, rfl, fun ht => ⟨?_, fun j d hj => hno j d (by have := (List.getElem?_eq_some_iff.1 hj).1; omega) hj⟩⟩, rfl⟩
      simp at ht
      omega
end Go.Proofs.W
namespace Go.Proofs.W
open Go Go.Proofs Go.RowKit
set_option maxRecDepth 1000000
def FilesLight (xs : List FileV) : Prop := xs.length ≤ 40 ∧ ∀ (j : Nat) d, xs[j]? = some d → d.path.size ≤ 300 ∧ LinesLight d.lines
def FilesLightSays (xs : List FileV) (e : Ending) : Prop := ∃ t, e = .returned (.bool t) ∧ (t = true → FilesLight xs)
set_option maxHeartbeats 16000000 in
theorem L06_Light (a : Option Addr) (c : Nat) (xs : List FileV) (w : World) (h : FilesH w a xs) (hlen : xs.length < 9223372036854775808) :
  Calls Tryz.prog 4 #[.slice a xs.length c] w fun e w' => FilesLightSays xs e ∧ w' = w := by
 go_enter Tryz.func4, Tryz.ntmps4
 go_wp2
 go_loop [3] (fun x => ∃ i : Nat, i ≤ xs.length ∧ x = .int .i64 i ∧ ∀ j d, j < i → xs[j]? = some d → d.path.size ≤ 300 ∧ LinesLight d.lines) (fun x => xs.length - (intOf x).toNat)
 case atStart => exact ⟨0, Nat.zero_le _, rfl, fun j d hj => absurd hj (Nat.not_lt_zero _)⟩
 case round =>
  obtain ⟨i, hi, rfl, hno⟩ := hrel
  by_cases hlt : i < xs.length
  ·obtain ⟨b, o, rfl, hN⟩ : ∃ b o, a = some ⟨b, o, none⟩ ∧ FilesAt w b o xs := h.resolve_left (by omega)
   have hd : xs[i]? = some xs[i] := List.getElem?_eq_getElem hlt
   obtain ⟨c0, c1, c2⟩ := hN.cell i _ hd
   obtain ⟨s1, s2⟩ := hN.sub i _ hd
   have hlt' : (i : Int) < (xs.length : Int) := by omega
   have hnn : ¬ (i : Int) < 0 := by omega
   have hnn0 : (0 : Int) ≤ (i : Int) := by omega
   generalize xs[i] = X at c0 c1 c2 s1 s2 hd
   have hcall := L03_Light X.la X.lc X.lines w s1 s2
   by_cases hsz : (300 : Int) < (X.path.size : Int)
   ·go_wp2
    go_ret
    exact ⟨⟨false, rfl, fun h => absurd h (by simp)⟩, rfl⟩
   ·go_wp2_with fail
    refine hcall.mono ?_
    rintro e w2 ⟨⟨t, rfl, ht⟩, rfl⟩
    cases t with
    | false =>
     go_wp2
     go_ret
     exact ⟨⟨false, rfl, fun h => absurd h (by simp)⟩, rfl⟩
    | true =>
     go_wp2
     go_round
     case rel => exact ⟨i + 1, by omega, by push_cast; rfl, fun j d hj hd2 => by
      by_cases e : j = i
      ·subst e
       rw [hd] at hd2
       obtain rfl := Option.some.inj hd2
       exact ⟨by omega, by first | exact ht rfl | exact ht trivial⟩
      ·exact hno j d (by omega) hd2⟩
     case measure => simp [intOf]; omega
  ·have hlt' : ¬ (i : Int) < (xs.length : Int) := by omega
   go_wp2
   go_ret
   refine ⟨⟨_, rfl, fun ht => ⟨?_, fun j d hj => hno j d (by have := (List.getElem?_eq_some_iff.1 hj).1; omega) hj⟩⟩, rfl⟩
   simp at ht
   omega
end Go.Proofs.W
namespace Go.Proofs.W
open Go Go.Proofs Go.RowKit Go.Op Go.Sort
set_option maxRecDepth 100000
theorem treeL_sum : ∀ (fs : List FileV), ((treeL fs).map fun s => s.size + 10).sum ≤ (fs.map fun f => f.path.size + (listT f.lines).length + 31).sum
 | [] => Nat.le_refl _
 | f :: fs => by
  have h := treeL_sum fs
  have e : treeL (f :: fs) = [f.path, kindB f.dir, ofL (listT f.lines)] ++ treeL fs := by
   have := treeL_app [f] fs
   rw [treeL_one] at this
   exact this
  have hk : (kindB f.dir).size = 1 := by unfold kindB; split <;> rfl
  rw [e, List.map_append, List.sum_append]
  simp only [List.map_cons, List.map_nil, List.sum_cons, List.sum_nil, hk, ofL_size]
  omega
theorem goodT_light {fs gs : List FileV} (hL : FilesLight fs) (hok : OfOk fs gs) (hg : Good gs) : GoodT gs ∧ (treeT gs).length ≤ 800000 ∧ ∀ g, g ∈ gs → g.path.size ≤ 300 := by
 have hk : ∀ g, g ∈ gs → g.path.size ≤ 300 ∧ g.lines.length ≤ 60 ∧ ∀ s, s ∈ g.lines → s.size ≤ 300 := fun g hgm => by
  obtain ⟨f, hf, e1, e2, e3⟩ := key_mem hok.perm hgm
  obtain ⟨j, hj⟩ := List.getElem?_of_mem hf
  obtain ⟨h1, h2, h3⟩ := hL.2 j f hj
  rw [← e1, ← e3]
  exact ⟨h1, h2, fun s hs => by obtain ⟨k, hk⟩ := List.getElem?_of_mem hs; exact h3 k s hk⟩
 have hlen : gs.length ≤ 40 := by
  have := hok.perm.length_eq
  rw [List.length_map, List.length_map] at this
  rw [this]; exact hL.1
 have hlt : ∀ g, g ∈ gs → (listT g.lines).length ≤ 18610 := fun g hgm => by
  obtain ⟨_, h2, h3⟩ := hk g hgm
  have := listT_le (xs := g.lines) (M := 300) (by omega) (by decide) h3
  omega
 have ht : (treeT gs).length ≤ 800000 := by
  have h1 := listT_sum (xs := treeL gs) (by rw [treeL_len]; omega) (fun s hs => by
   unfold treeL treeK at hs
   obtain ⟨k, hk', hs⟩ := List.mem_flatMap.1 hs
   obtain ⟨f, hf, rfl⟩ := List.mem_map.1 hk'
   have q1 := (hk f hf).1
   have q2 := hlt f hf
   simp only [List.mem_cons, List.not_mem_nil, or_false] at hs
   rcases hs with rfl | rfl | rfl
   ·show f.path.size < _; omega
   ·unfold kindB; split <;> decide
   ·rw [ofL_size]; show (listT f.lines).length < _; omega)
  have h2 := treeL_sum gs
  have h3 := sum_le (fun f : FileV => f.path.size + (listT f.lines).length + 31) 18941 gs (fun f hf => by have := (hk f hf).1; have := hlt f hf; omega)
  unfold treeT
  omega
 exact ⟨⟨hg, fun g hgm => ⟨by have := (hk g hgm).2.1; omega, fun s hs => by have := (hk g hgm).2.2 s hs; omega⟩, fun g hgm => by have := (hk g hgm).1; omega, by omega⟩, ht, fun g hgm => (hk g hgm).1⟩
theorem sameT_comm (x y : TrackV) : sameT x y = sameT y x := by
 unfold sameT
 rw [show decide (x.path = y.path) = decide (y.path = x.path) from decide_eq_decide.2 ⟨Eq.symm, Eq.symm⟩, show decide (x.patch = y.patch) = decide (y.patch = x.patch) from decide_eq_decide.2 ⟨Eq.symm, Eq.symm⟩, show decide (x.n = y.n) = decide (y.n = x.n) from decide_eq_decide.2 ⟨Eq.symm, Eq.symm⟩]
theorem makeE_iff (has : ByteArray → Bool) : ∀ (r pre : List TrackV), makeE has pre r = 0 ↔ (∀ x, x ∈ r → has x.path = true ∧ ∀ y, y ∈ pre → sameT x y = false) ∧ r.Pairwise (fun x y => sameT x y = false)
 | [], pre => ⟨fun _ => ⟨fun _ h => (by cases h), List.Pairwise.nil⟩, fun _ => rfl⟩
 | x :: r, pre => by
  unfold makeE
  by_cases h1 : has x.path = true
  ·rw [if_pos h1]
   by_cases h2 : pre.any (sameT x) = true
   ·rw [if_pos h2]
    refine ⟨fun h => absurd h (by decide), fun h => ?_⟩
    obtain ⟨y, hy, e⟩ := List.any_eq_true.1 h2
    have := (h.1 x (by simp)).2 y hy
    rw [this] at e; cases e
   ·rw [if_neg h2, makeE_iff has r (pre ++ [x])]
    have h3 : ∀ y, y ∈ pre → sameT x y = false := fun y hy => by
     cases hq : sameT x y with
     | false => rfl
     | true => exact absurd (List.any_eq_true.2 ⟨y, hy, hq⟩) h2
    constructor
    ·rintro ⟨k1, k2⟩
     refine ⟨fun z hz => ?_, List.Pairwise.cons (fun z hz => ?_) k2⟩
     ·rcases List.mem_cons.1 hz with rfl | hz
      ·exact ⟨h1, h3⟩
      ·exact ⟨(k1 z hz).1, fun y hy => (k1 z hz).2 y (by simp [hy])⟩
     ·rw [sameT_comm]
      exact (k1 z hz).2 x (by simp)
    ·rintro ⟨k1, k2⟩
     rw [List.pairwise_cons] at k2
     refine ⟨fun z hz => ⟨(k1 z (by simp [hz])).1, fun y hy => ?_⟩, k2.2⟩
     rcases List.mem_append.1 hy with hy | hy
     ·exact (k1 z (by simp [hz])).2 y hy
     ·obtain rfl := List.mem_singleton.1 hy
      rw [sameT_comm]
      exact k2.1 z hz
  ·rw [if_neg h1]
   exact ⟨fun h => absurd h (by decide), fun h => absurd (h.1 x (by simp)).1 h1⟩
theorem makeE_perm {has : ByteArray → Bool} {ts gs : List TrackV} (h : makeE has [] ts = 0) (hp : gs.Perm ts) : makeE has [] gs = 0 := by
 obtain ⟨h1, h2⟩ := (makeE_iff has ts []).1 h
 refine (makeE_iff has gs []).2 ⟨fun x hx => h1 x (hp.mem_iff.1 hx), (hp.pairwise_iff (fun h => by rw [sameT_comm]; exact h)).2 h2⟩
theorem goodW_light {gfs : List FileV} {ts gs : List TrackV} (hG : GoodT gfs) (htl : (treeT gfs).length ≤ 800000) (hps : ∀ g, g ∈ gfs → g.path.size ≤ 300) (hm : makeE (hasP (pathsOf gfs)) [] ts = 0) (hp : gs.Perm ts) (hs : gs.Pairwise (fun x y => pathLess y.path x.path = false)) (hid : ∀ t, t ∈ ts → idR t.patch t.n = true) (hlen : ts.length ≤ 15) : GoodW gfs gs := by
 have hm' := makeE_perm hm hp
 have hsz : ∀ t, t ∈ gs → t.path.size ≤ 300 := fun t ht => by
  have h1 := (((makeE_iff _ gs []).1 hm').1 t ht).1
  obtain ⟨f, hf, e⟩ := List.mem_map.1 ((hasP_iff hG.good.rising _).1 h1)
  rw [← e]
  exact hps f hf
 have hgl : gs.length ≤ 15 := by rw [hp.length_eq]; exact hlen
 have h3 := trackL_le (M := 300) (ts := gs) (by omega) ⟨by decide, by decide⟩ hsz
 refine ⟨hG, hm', hs, fun t ht => hid t (hp.mem_iff.1 ht), fun t ht => by have := hsz t ht; omega, by omega, ?_⟩
 have h4 := listT_sum (xs := workL gfs gs) (by simp [workL]) (fun s hs => by
  simp only [workL, List.mem_cons, List.not_mem_nil, or_false] at hs
  rcases hs with rfl | rfl <;> rw [ofL_size] <;> omega)
 simp only [workL, List.map_cons, List.map_nil, List.sum_cons, List.sum_nil, ofL_size] at h4
 unfold workT workL
 omega
theorem workT_read0 {fs : List FileV} {ts : List TrackV} (h : (workT fs ts).length ≤ 1000000) : partL (listE (workT fs ts)).1 0 = treeT fs ∧ partL (listE (workT fs ts)).1 1 = listT (trackL ts) := by
 obtain ⟨h1, h2⟩ := trackL_sizes h
 have h3 : listE (workT fs ts) = ((workL fs ts).map dl, 0) := by
  refine listE_back (by simp [workL]) fun s hs => ?_
  simp only [workL, List.mem_cons, List.not_mem_nil, or_false] at hs
  rcases hs with rfl | rfl <;> rw [ofL_size] <;> omega
 rw [h3]
 exact ⟨by simp [partL, workL, dl_ofL], by simp [partL, workL, dl_ofL]⟩
theorem work_same {gfs fs : List FileV} {gs ts : List TrackV} (hG : GoodW gfs gs) (e : workT gfs gs = workT fs ts) (hp : ts.Perm (tracksOf (ofL (workT gfs gs)))) (hs : ts.Pairwise (fun x y => pathLess y.path x.path = false)) : gfs.map FileV.key = fs.map FileV.key ∧ ts = gs := by
 obtain ⟨h1, _⟩ := workT_read0 hG.total
 obtain ⟨h2, _⟩ := workT_read0 (fs := fs) (ts := ts) (by rw [← e]; exact hG.total)
 refine ⟨treeT_inj hG.tree.total (by rw [← h1, e, h2]), ?_⟩
 obtain ⟨_, _, q1, _, q2⟩ := work_read hG rfl
 unfold tracksOf at hp
 rw [dl_ofL, q1, q2] at hp
 exact sorted_same hG.make hG.sorted hp hs
end Go.Proofs.W
