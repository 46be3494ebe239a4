/- A PART OF THE PROOF THAT SAVETEXTS HOLDS FOR EVERY INPUT OF BULK AT MOST 1048576. No condition beyond the given statement. This part: WSaveLaw. -/
import Derived.Test.YtciahohaonhdgaaGreatDoorWTText
import Derived.Test.YtciahohaonhdgaaGreatDoorWRead
import Derived.Test.YtciahohaonhdgaaGreatDoorWIdLaw
import Derived.Test.YtciahohaonhdgaaGreatDoorMakeLaw
import Derived.Test.YtciahohaonhdgaaGreatDoorWOf1
namespace Go.Proofs.W
open Go Go.Proofs Go.RowKit Go.Op Go.Sort
set_option maxRecDepth 100000
theorem map_dl_ofL (l : List ByteArray) : (l.map dl).map ofL = l := by
 rw [List.map_map]
 have : (ofL ∘ dl) = id := by funext s; exact ofL_dl s
 rw [this, List.map_id]
theorem listE_back {xs : List ByteArray} (hl : xs.length < 2 ^ 64) (h : ∀ s, s ∈ xs → s.size < 2 ^ 64) : listE (listT xs) = (xs.map dl, 0) := by
 have := listR_back (l := xs.map dl) (by simpa using hl) (fun s hs => by
  obtain ⟨x, hx, rfl⟩ := List.mem_map.1 hs
  rw [dl_len]
  exact h x hx) []
 rw [List.append_nil] at this
 unfold listE listT
 rw [this]
def filesK : List (List UInt8) → List (ByteArray × Bool × List ByteArray)
 | p :: k :: l :: r => (ofL p, decide (k = [100]), (listE l).1.map ofL) :: filesK r
 | _ => []
theorem kindB_is (d : Bool) : decide (dl (kindB d) = [100]) = d := by cases d <;> decide
theorem filesK_back : ∀ (ks : List (ByteArray × Bool × List ByteArray)), (∀ k, k ∈ ks → k.2.2.length < 2 ^ 64 ∧ ∀ s, s ∈ k.2.2 → s.size < 2 ^ 64) → filesK ((treeK ks).map dl) = ks
 | [], _ => rfl
 | (p, d, l) :: ks, h => by
  have e : (treeK ((p, d, l) :: ks)).map dl = dl p :: dl (kindB d) :: dl (ofL (listT l)) :: (treeK ks).map dl := by
   unfold treeK
   rw [List.flatMap_cons]
   rfl
  obtain ⟨h1, h2⟩ := h (p, d, l) (by simp)
  rw [e, filesK, filesK_back ks (fun k hk => h k (by simp [hk])), ofL_dl, kindB_is, dl_ofL, listE_back h1 h2]
  simp only
  rw [map_dl_ofL]
theorem listE_len (s : List UInt8) : (listE s).1.length ≤ s.length ∧ ∀ x, x ∈ (listE s).1 → x.length ≤ s.length := by
 unfold listE listR
 cases h1 : numR 0 0 s with
 | ok n r =>
  have hn := num_bounds h1
  simp only
  by_cases hlt : r.length < n
  ·rw [if_pos hlt]
   exact ⟨Nat.zero_le _, fun x hx => (by cases hx)⟩
  ·rw [if_neg hlt]
   cases h2 : textsR n r with
   | ok l q =>
    obtain ⟨e1, e2⟩ := textsR_len h2
    have key : l.length ≤ s.length ∧ ∀ x, x ∈ l → x.length ≤ s.length := by
     refine ⟨by omega, fun x hx => ?_⟩
     have h3 : x.length + 1 ≤ (l.map fun t => t.length + 1).sum := by
      clear h2 e1 e2 hlt hn h1
      induction l with
      | nil => cases hx
      | cons y l ih =>
       rw [List.map_cons, List.sum_cons]
       rcases List.mem_cons.1 hx with rfl | h
       ·omega
       ·have := ih h
        omega
     omega
    cases q with
    | nil => exact key
    | cons _ _ => exact ⟨Nat.zero_le _, fun x hx => (by cases hx)⟩
   | form => exact ⟨Nat.zero_le _, fun x hx => (by cases hx)⟩
   | short => exact ⟨Nat.zero_le _, fun x hx => (by cases hx)⟩
 | form => exact ⟨Nat.zero_le _, fun x hx => (by cases hx)⟩
 | short => exact ⟨Nat.zero_le _, fun x hx => (by cases hx)⟩
theorem filesK_len : ∀ (L : List (List UInt8)), (filesK L).length = L.length / 3
 | [] => rfl
 | [_] => by simp [filesK]
 | [_, _] => by simp [filesK]
 | _ :: _ :: _ :: r => by rw [filesK, List.length_cons, filesK_len r, List.length_cons, List.length_cons, List.length_cons]; omega
theorem filesK_at : ∀ (L : List (List UInt8)) (j : Nat) {x y z : List UInt8}, L[3 * j]? = some x → L[3 * j + 1]? = some y → L[3 * j + 2]? = some z → (filesK L)[j]? = some (ofL x, decide (y = [100]), (listE z).1.map ofL)
 | [], j, x, y, z, h, _, _ => by simp at h
 | [a], j, x, y, z, _, h, _ => by
  have := (List.getElem?_eq_some_iff.1 h).1
  simp only [List.length_cons, List.length_nil] at this
  omega
 | [a, b], j, x, y, z, _, _, h => by
  have := (List.getElem?_eq_some_iff.1 h).1
  simp only [List.length_cons, List.length_nil] at this
  omega
 | a :: b :: c :: r, 0, x, y, z, h1, h2, h3 => by
  obtain rfl := Option.some.inj (show some a = some x from h1)
  obtain rfl := Option.some.inj (show some b = some y from h2)
  obtain rfl := Option.some.inj (show some c = some z from h3)
  rfl
 | a :: b :: c :: r, j + 1, x, y, z, h1, h2, h3 => by
  rw [filesK, List.getElem?_cons_succ]
  have e : 3 * (j + 1) = 3 * j + 1 + 1 + 1 := by omega
  rw [e] at h1 h2 h3
  rw [show 3 * j + 1 + 1 + 1 + 1 = (3 * j + 1) + 1 + 1 + 1 by omega] at h2
  rw [show 3 * j + 1 + 1 + 1 + 2 = (3 * j + 2) + 1 + 1 + 1 by omega] at h3
  simp only [List.getElem?_cons_succ] at h1 h2 h3
  exact filesK_at r j h1 h2 h3
theorem filesK_sizes {s : List UInt8} {k : ByteArray × Bool × List ByteArray} (h : k ∈ filesK (listE s).1) : k.1.size ≤ s.length ∧ k.2.2.length ≤ s.length ∧ ∀ x, x ∈ k.2.2 → x.size ≤ s.length := by
 obtain ⟨j, hj⟩ := List.getElem?_of_mem h
 have hl := (List.getElem?_eq_some_iff.1 hj).1
 rw [filesK_len] at hl
 have h0 : (listE s).1[3 * j]? = some ((listE s).1[3 * j]'(by omega)) := List.getElem?_eq_getElem _
 have h1 : (listE s).1[3 * j + 1]? = some ((listE s).1[3 * j + 1]'(by omega)) := List.getElem?_eq_getElem _
 have h2 : (listE s).1[3 * j + 2]? = some ((listE s).1[3 * j + 2]'(by omega)) := List.getElem?_eq_getElem _
 have h3 := filesK_at _ j h0 h1 h2
 rw [hj] at h3
 obtain rfl := Option.some.inj h3
 have q0 := (listE_len s).2 _ (List.mem_of_getElem? h0)
 have q2 := (listE_len s).2 _ (List.mem_of_getElem? h2)
 obtain ⟨q3, q4⟩ := listE_len ((listE s).1[3 * j + 2]'(by omega))
 refine ⟨by rw [ofL_size]; exact q0, ?_, fun x hx => ?_⟩
 ·rw [List.length_map]; omega
 ·obtain ⟨y, hy, rfl⟩ := List.mem_map.1 hx
  have := q4 y hy
  rw [ofL_size]; omega
def trackL (ts : List TrackV) : List ByteArray := ts.flatMap fun t => [t.path, idT t.patch t.n]
def tracksK : List (List UInt8) → List TrackV
 | p :: t :: r => ⟨ofL p, idPp (ofL t), idPn (ofL t)⟩ :: tracksK r
 | _ => []
theorem tracksK_back : ∀ (ts : List TrackV), (∀ t, t ∈ ts → idR t.patch t.n = true) → tracksK ((trackL ts).map dl) = ts
 | [], _ => rfl
 | t :: ts, h => by
  have e : (trackL (t :: ts)).map dl = dl t.path :: dl (idT t.patch t.n) :: (trackL ts).map dl := by
   unfold trackL
   rw [List.flatMap_cons]
   rfl
  obtain ⟨h1, h2, _⟩ := idP_back (h t (by simp))
  rw [e, tracksK, tracksK_back ts (fun x hx => h x (by simp [hx])), ofL_dl, ofL_dl, h1, h2]
theorem tracksK_len : ∀ (L : List (List UInt8)), (tracksK L).length = L.length / 2
 | [] => rfl
 | [_] => by simp [tracksK]
 | _ :: _ :: r => by rw [tracksK, List.length_cons, tracksK_len r, List.length_cons, List.length_cons]; omega
theorem tracksK_at : ∀ (L : List (List UInt8)) (j : Nat) {x y : List UInt8}, L[2 * j]? = some x → L[2 * j + 1]? = some y → (tracksK L)[j]? = some ⟨ofL x, idPp (ofL y), idPn (ofL y)⟩
 | [], j, x, y, h, _ => by simp at h
 | [a], j, x, y, _, h => by
  have := (List.getElem?_eq_some_iff.1 h).1
  simp only [List.length_cons, List.length_nil] at this
  omega
 | a :: b :: r, 0, x, y, h1, h2 => by
  obtain rfl := Option.some.inj (show some a = some x from h1)
  obtain rfl := Option.some.inj (show some b = some y from h2)
  rfl
 | a :: b :: r, j + 1, x, y, h1, h2 => by
  rw [tracksK, List.getElem?_cons_succ]
  have e : 2 * (j + 1) = 2 * j + 1 + 1 := by omega
  rw [e] at h1 h2
  rw [show 2 * j + 1 + 1 + 1 = (2 * j + 1) + 1 + 1 by omega] at h2
  simp only [List.getElem?_cons_succ] at h1 h2
  exact tracksK_at r j h1 h2
theorem tracksK_sizes {s : List UInt8} {t : TrackV} (h : t ∈ tracksK (listE s).1) : t.path.size ≤ s.length := by
 obtain ⟨j, hj⟩ := List.getElem?_of_mem h
 have hl := (List.getElem?_eq_some_iff.1 hj).1
 rw [tracksK_len] at hl
 have h0 : (listE s).1[2 * j]? = some ((listE s).1[2 * j]'(by omega)) := List.getElem?_eq_getElem _
 have h1 : (listE s).1[2 * j + 1]? = some ((listE s).1[2 * j + 1]'(by omega)) := List.getElem?_eq_getElem _
 have h3 := tracksK_at _ j h0 h1
 rw [hj] at h3
 obtain rfl := Option.some.inj h3
 have q0 := (listE_len s).2 _ (List.mem_of_getElem? h0)
 rw [ofL_size]
 exact q0
theorem trackL_len : ∀ (ts : List TrackV), (trackL ts).length = 2 * ts.length
 | [] => rfl
 | t :: ts => by
  have := trackL_len ts
  unfold trackL at this ⊢
  rw [List.flatMap_cons, List.length_append, this]
  simp; omega
theorem trackL_take {ts : List TrackV} {i : Nat} {t : TrackV} (h : ts[i]? = some t) : trackL (ts.take (i + 1)) = trackL (ts.take i) ++ [t.path, idT t.patch t.n] := by
 rw [List.take_add_one, h]
 simp [trackL]
def workL (fs : List FileV) (ts : List TrackV) : List ByteArray := [ofL (treeT fs), ofL (listT (trackL ts))]
def workT (fs : List FileV) (ts : List TrackV) : List UInt8 := listT (workL fs ts)
theorem workT_keys {fs gs : List FileV} (h : fs.map FileV.key = gs.map FileV.key) (ts : List TrackV) : workT fs ts = workT gs ts := by unfold workT workL; rw [treeT_keys h]
def partL (l : List (List UInt8)) (i : Nat) : List UInt8 := l.getD i []
structure GoodT (fs : List FileV) : Prop where
 good : Good fs
 lines : ∀ f, f ∈ fs → f.lines.length ≤ 1000000 ∧ ∀ s, s ∈ f.lines → s.size ≤ 1000000
 size : ∀ f, f ∈ fs → f.path.size ≤ 1000000
 total : (treeT fs).length ≤ 1000000
theorem treeL_sizes {fs : List FileV} (h : (treeT fs).length ≤ 1000000) : (treeL fs).length < 2 ^ 64 ∧ ∀ s, s ∈ treeL fs → s.size < 2 ^ 64 := by
 refine ⟨?_, fun s hs => ?_⟩
 ·have := listT_len (treeL fs)
  unfold treeT at h
  omega
 ·have := listT_item hs
  unfold treeT at h
  omega
theorem keys_of_list {fs : List FileV} (h : GoodT fs) : listE (treeT fs) = ((treeL fs).map dl, 0) ∧ filesK ((treeL fs).map dl) = fs.map FileV.key := by
 obtain ⟨h1, h2⟩ := treeL_sizes h.total
 refine ⟨listE_back h1 h2, ?_⟩
 unfold treeL
 refine filesK_back _ fun k hk => ?_
 obtain ⟨f, hf, rfl⟩ := List.mem_map.1 hk
 obtain ⟨h3, h4⟩ := h.lines f hf
 exact ⟨by show f.lines.length < _; omega, fun s hs => by have := h4 s hs; omega⟩
theorem keys_read {s : List UInt8} {fs : List FileV} (h : GoodT fs) (e : s = treeT fs) : (listE s).2 = 0 ∧ filesK (listE s).1 = fs.map FileV.key := by
 subst e
 obtain ⟨h1, h2⟩ := keys_of_list h
 rw [h1]
 exact ⟨rfl, h2⟩
theorem flat_le : ∀ (xs : List ByteArray), (∀ s, s ∈ xs → s.size < 2 ^ 64) → ((xs.map dl).flatMap textB).length ≤ (xs.map fun s => s.size + 10).sum
 | [], _ => Nat.le_refl _
 | s :: xs, h => by
  have h1 := flat_le xs (fun x hx => h x (by simp [hx]))
  have h2 := numB_len64 (n := s.size) (by have := h s (by simp); omega)
  have h3 : (textB (dl s)).length = (numB s.size).length + s.size := by unfold textB; rw [List.length_append, dl_len]
  rw [List.map_cons, List.flatMap_cons, List.length_append, List.map_cons, List.sum_cons, h3]
  omega
theorem listT_sum {xs : List ByteArray} (hl : xs.length < 2 ^ 64) (h : ∀ s, s ∈ xs → s.size < 2 ^ 64) : (listT xs).length ≤ 10 + (xs.map fun s => s.size + 10).sum := by
 unfold listT listB
 have h1 := flat_le xs h
 have h2 := numB_len64 (n := xs.length) (by omega)
 rw [List.length_append, List.length_map]
 omega
theorem sum_le {α : Type} (f : α → Nat) (M : Nat) : ∀ (xs : List α), (∀ s, s ∈ xs → f s ≤ M) → (xs.map f).sum ≤ xs.length * M
 | [], _ => by simp
 | s :: xs, h => by
  have h1 := sum_le f M xs (fun x hx => h x (by simp [hx]))
  have h2 := h s (by simp)
  rw [List.map_cons, List.sum_cons, List.length_cons, Nat.add_mul]
  omega
theorem listT_le {xs : List ByteArray} {M : Nat} (hl : xs.length < 2 ^ 64) (hM : M < 2 ^ 64) (h : ∀ s, s ∈ xs → s.size ≤ M) : (listT xs).length ≤ 10 + xs.length * (M + 10) := by
 have h1 := listT_sum hl (fun s hs => Nat.lt_of_le_of_lt (h s hs) hM)
 have h2 := sum_le (fun s : ByteArray => s.size + 10) (M + 10) xs (fun s hs => by have := h s hs; omega)
 omega
theorem sum10 : ∀ (l : List (List UInt8)), ((l.map ofL).map fun s => s.size + 10).sum ≤ 10 * (l.map fun t => t.length + 1).sum
 | [] => Nat.le_refl _
 | t :: l => by
  have := sum10 l
  simp only [List.map_cons, List.sum_cons, ofL_size]
  omega
theorem listE_sum (s : List UInt8) : ((listE s).1.map fun t => t.length + 1).sum ≤ s.length := by
 unfold listE listR
 cases h1 : numR 0 0 s with
 | ok n r =>
  have hn := num_bounds h1
  simp only
  by_cases hlt : r.length < n
  ·rw [if_pos hlt]
   exact Nat.zero_le _
  ·rw [if_neg hlt]
   cases h2 : textsR n r with
   | ok l q =>
    obtain ⟨e1, e2⟩ := textsR_len h2
    cases q with
    | nil => simp only; omega
    | cons _ _ => exact Nat.zero_le _
   | form => exact Nat.zero_le _
   | short => exact Nat.zero_le _
 | form => exact Nat.zero_le _
 | short => exact Nat.zero_le _
theorem listT_read (z : List UInt8) (hz : z.length ≤ 1000000) : (listT ((listE z).1.map ofL)).length ≤ 10 + 10 * z.length := by
 obtain ⟨h1, h2⟩ := listE_len z
 have h3 := listT_sum (xs := (listE z).1.map ofL) (by rw [List.length_map]; omega) (fun s hs => by
  obtain ⟨y, hy, rfl⟩ := List.mem_map.1 hs
  have := h2 y hy
  rw [ofL_size]; omega)
 have h4 := sum10 (listE z).1
 have h5 := listE_sum z
 omega
theorem treeT_le {fs : List FileV} (hl : fs.length ≤ 1000000) (h : ∀ f, f ∈ fs → f.path.size ≤ 20000000 ∧ (listT f.lines).length ≤ 20000000) : (treeT fs).length ≤ 10 + 3 * fs.length * 20000010 := by
 have := listT_le (xs := treeL fs) (M := 20000000) (by rw [treeL_len]; omega) (by decide) (fun s hs => by
  unfold treeL treeK at hs
  obtain ⟨k, hk, hs⟩ := List.mem_flatMap.1 hs
  obtain ⟨f, hf, rfl⟩ := List.mem_map.1 hk
  obtain ⟨h1, h2⟩ := h f hf
  simp only [List.mem_cons, List.not_mem_nil, or_false] at hs
  rcases hs with rfl | rfl | rfl
  ·exact h1
  ·unfold kindB; split <;> decide
  ·rw [ofL_size]; exact h2)
 rw [treeL_len] at this
 exact this
theorem rising_keys {fs : List FileV} (h : Rising pathLess (pathsOf fs)) : Rising (fun x y : ByteArray × Bool × List ByteArray => pathLess x.1 y.1) (fs.map FileV.key) := by
 unfold Rising pathsOf at *
 rw [List.pairwise_map] at *
 exact h
theorem keys_same {fs gs : List FileV} (hf : Rising pathLess (pathsOf fs)) (hg : Rising pathLess (pathsOf gs)) (hp : (gs.map FileV.key).Perm (fs.map FileV.key)) : gs.map FileV.key = fs.map FileV.key :=
 rising_unique (fun x y h1 h2 => by rw [pathLess_asymm h1] at h2; cases h2) (rising_keys hg) (rising_keys hf) hp
theorem mem_keys {fs gs : List FileV} (h : fs.map FileV.key = gs.map FileV.key) {f : FileV} (hf : f ∈ fs) : ∃ g, g ∈ gs ∧ g.path = f.path ∧ g.dir = f.dir ∧ g.lines = f.lines := by
 have : FileV.key f ∈ gs.map FileV.key := by rw [← h]; exact List.mem_map.2 ⟨f, hf, rfl⟩
 obtain ⟨g, hg, e⟩ := List.mem_map.1 this
 unfold FileV.key at e
 simp only [Prod.mk.injEq] at e
 exact ⟨g, hg, e.1, e.2.1, e.2.2⟩
theorem pathsOf_keys {fs gs : List FileV} (h : fs.map FileV.key = gs.map FileV.key) : pathsOf fs = pathsOf gs := by
 have := congrArg (List.map fun k : ByteArray × Bool × List ByteArray => k.1) h
 simpa [pathsOf, List.map_map, FileV.key, Function.comp_def] using this
theorem good_keys {fs gs : List FileV} (h : fs.map FileV.key = gs.map FileV.key) (hG : Good gs) : Good fs := by
 have hp := pathsOf_keys h
 have hr : Rising pathLess (pathsOf fs) := by rw [hp]; exact hG.rising
 refine ⟨hr, fun f hf => ?_, ?_⟩
 ·obtain ⟨g, hg, h1, h2, h3⟩ := mem_keys h hf
  obtain ⟨q1, q2⟩ := hG.ok g hg
  refine ⟨by rw [← h1]; exact q1, okFile_mono hG.rising hr (fun x hx => ?_) h1.symm h2.symm h3.symm q2⟩
  obtain ⟨y, hy, e1, e2, _⟩ := mem_keys h.symm hx
  exact ⟨y, hy, e1, e2⟩
 ·have := congrArg List.length h
  rw [List.length_map, List.length_map] at this
  rw [this]; exact hG.len
structure GoodW (fs : List FileV) (ts : List TrackV) : Prop where
 tree : GoodT fs
 make : makeE (hasP (pathsOf fs)) [] ts = 0
 sorted : ts.Pairwise (fun x y => pathLess y.path x.path = false)
 ids : ∀ t, t ∈ ts → idR t.patch t.n = true
 size : ∀ t, t ∈ ts → t.path.size ≤ 1000000
 len : ts.length ≤ 1000000
 total : (workT fs ts).length ≤ 1000000
theorem trackL_sizes {fs : List FileV} {ts : List TrackV} (h : (workT fs ts).length ≤ 1000000) : (listT (trackL ts)).length ≤ 1000000 ∧ (treeT fs).length ≤ 1000000 := by
 have h1 := listT_item (xs := workL fs ts) (x := ofL (listT (trackL ts))) (by simp [workL])
 have h2 := listT_item (xs := workL fs ts) (x := ofL (treeT fs)) (by simp [workL])
 rw [ofL_size] at h1 h2
 unfold workT at h
 omega
theorem work_read {s : List UInt8} {fs : List FileV} {ts : List TrackV} (h : GoodW fs ts) (e : s = workT fs ts) : (listE s).2 = 0 ∧ partL (listE s).1 0 = treeT fs ∧ partL (listE s).1 1 = listT (trackL ts) ∧ (listE (listT (trackL ts))).2 = 0 ∧ tracksK (listE (listT (trackL ts))).1 = ts := by
 subst e
 obtain ⟨h1, h2⟩ := trackL_sizes h.total
 have h3 : listE (workT fs ts) = ((workL fs ts).map dl, 0) := by
  refine listE_back (by simp [workL]) fun s hs => ?_
  simp only [workL, List.mem_cons, List.not_mem_nil, or_false] at hs
  rcases hs with rfl | rfl <;> rw [ofL_size] <;> omega
 have h4 : listE (listT (trackL ts)) = ((trackL ts).map dl, 0) := by
  refine listE_back ?_ fun s hs => ?_
  ·have := listT_len (trackL ts)
   omega
  ·have := listT_item hs
   omega
 rw [h3, h4]
 refine ⟨rfl, ?_, ?_, rfl, tracksK_back ts h.ids⟩
 ·simp [partL, workL, dl_ofL]
 ·simp [partL, workL, dl_ofL]
theorem sorted_same {has : ByteArray → Bool} {ts gs : List TrackV} (hm : makeE has [] ts = 0) (hs : ts.Pairwise (fun x y => pathLess y.path x.path = false)) (hp : gs.Perm ts) (hg : gs.Pairwise (fun x y => pathLess y.path x.path = false)) : gs = ts := by
 have hd := (makeE_zero has ts [] hm).2
 exact (sorted_unique hd hp hg).trans (sorted_unique hd (List.Perm.refl ts) hs).symm
end Go.Proofs.W
