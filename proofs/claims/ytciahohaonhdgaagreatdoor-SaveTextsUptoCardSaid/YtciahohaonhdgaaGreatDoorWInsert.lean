/- A PART OF THE PROOF THAT SAVETEXTS HOLDS FOR EVERY INPUT OF BULK AT MOST 1048576. No condition beyond the given statement. This part: WInsert. -/
import Derived.Test.YtciahohaonhdgaaGreatDoorWOwn
import Derived.Test.YtciahohaonhdgaaGreatDoorWHead
import Derived.Shelf.Spec.SlicesInsert
import Derived.Lib.AppendZeros
namespace Go.Proofs.W
open Go Go.Proofs Go.RowKit Go.Op Go.Sort
set_option maxRecDepth 1000000
set_option maxHeartbeats 4000000 in
theorem cloneFiles (a : Option Addr) (c : Nat) (xs : List FileV) (w : World) (h : FilesH w a xs) (hlen : xs.length ≤ 1099511627776) :
  Calls Tryz.prog 27 #[.slice a xs.length c] w fun e w' => (∃ v', e = .returned v' ∧ w'.ownsRow w.heap.size 56 3 v' xs.length (xs.flatMap FileV.cells)) ∧ Below w.heap.size w w' := by
 obtain ⟨i0, hi0, hz0, hz1, hz2⟩ := info_file
 have qn : ∀ (w : World) (a : Option Addr) (n c n' c' : Nat), (binOp .eql 22 (.slice a n c) (.slice none n' c')).run Tryz.prog w = .ok (.bool a.isNone) w := fun w a n c n' c' => Lib.run_eql_slice_nil w _ _ a n c n' c' Tryz.underlying22
 cases a with
 | none =>
  have h0 : xs.length = 0 := h.elim id (fun ⟨_, _, h, _⟩ => by cases h)
  go_enter Tryz.func27, Tryz.ntmps27
  go_wp2
  go_ret
  refine ⟨⟨_, rfl, ?_⟩, Below.refl _ _⟩
  have : xs = [] := List.eq_nil_of_length_eq_zero h0
  subst this
  exact World.ownsRow_nil _ _ _ _
 | some ad =>
  have hsrc : ∀ x, ∃ ad' c', (Value.slice (some ad) xs.length c) = .slice (some ad') xs.length c' ∧ (xs.flatMap FileV.cells).length = xs.length * 3 ∧ ∀ j u, (xs.flatMap FileV.cells)[j]? = some u → (w.alloc x).cell? (ad'.add j) = some u := fun x => by
   refine ⟨ad, c, rfl, flatMap_len FileV.cells 3 fileCells_len xs, fun j u hu => ?_⟩
   rcases h with h0 | ⟨b, o, h1, h2⟩
   ·have : xs = [] := List.eq_nil_of_length_eq_zero h0
    subst this
    simp at hu
   ·cases h1
    exact filesCells_get (h2.below (belowAlloc _ _)) j u hu
  go_enter Tryz.func27, Tryz.ntmps27
  go_wp2_with (at_builtin; refine wpList_append_src _ rfl (.tmp 5) (.tmp 6) 22 rfl w.heap.size 56 i0 (.agg #[.string ⟨#[]⟩, .bool false, .slice none 0 0]) 3 48 Tryz.underlying22 hi0 hz0 hz1 hz2 rfl (by decide) _ 0 [] rfl (World.ownsRow_lit w #[] 0 (Nat.le_refl _) (Nat.zero_le _) rfl) _ xs.length (xs.flatMap FileV.cells) rfl (.inr (hsrc _)) ?one ?c1 ?c2 ?c3 ?_)
  case one => exact filesCells_one xs
  case c1 => unfold maxLen; omega
  case c2 => omega
  case c3 => simp
  intro v' w' hown hg _
  go_wp2
  go_ret
  refine ⟨⟨_, rfl, by simpa using hown⟩, ?_⟩
  have hb := belowAlloc w (.cells #[] 56)
  exact ⟨hg.os.trans hb.os, hg.tape.trans hb.tape, hg.output.trans hb.output, Nat.le_trans hb.size hg.size, fun k hk => (hg.block k (by simp; omega) (by simp [Value.ownBlock]; omega)).trans (hb.block k hk)⟩
theorem setRow_size (w : World) (g : Nat) (cs : Array Value) : (w.setRow g cs).heap.size = w.heap.size := by simp [World.setRow]
theorem setRow_other (w : World) (g k : Nat) (cs : Array Value) (h : k ≠ g) : (w.setRow g cs).heap[k]? = w.heap[k]? := by
 simp only [World.setRow, Array.getElem?_modify]
 rw [if_neg (fun e => h e.symm)]
theorem insert_rows {xs : List FileV} {f : FileV} {i : Nat} {cur : Array Value} (hi : i < xs.length) (htk : cur.toList.take (xs.length * 3) = xs.flatMap FileV.cells) (hsz : (xs.length + 1) * 3 ≤ cur.size) :
  let cs := (xs.drop i).flatMap FileV.cells
  let r1 := (cur.toList.take ((i + 1) * 3) ++ cs ++ cur.toList.drop ((i + 1) * 3 + cs.length)).toArray
  let r2 := (r1.toList.take (i * 3) ++ f.cells ++ r1.toList.drop (i * 3 + f.cells.length)).toArray
  r1.size = cur.size ∧ r2.size = cur.size ∧ r2.toList.take ((xs.length + 1) * 3) = (xs.take i ++ f :: xs.drop i).flatMap FileV.cells := by
 intro cs r1 r2
 have hcs : cs.length = (xs.length - i) * 3 := by
  show ((xs.drop i).flatMap FileV.cells).length = _
  rw [flatMap_len FileV.cells 3 fileCells_len, List.length_drop]
 have hcl : cur.toList.length = cur.size := Array.length_toList
 have h1 : r1.size = cur.size := by
  show ((cur.toList.take ((i + 1) * 3) ++ cs ++ cur.toList.drop ((i + 1) * 3 + cs.length)).toArray).size = _
  simp only [List.size_toArray, List.length_append, List.length_take, List.length_drop, hcs, hcl]
  omega
 have h1l : r1.toList = cur.toList.take ((i + 1) * 3) ++ cs ++ cur.toList.drop ((i + 1) * 3 + cs.length) := by simp [r1]
 have hr1t : r1.toList.take (i * 3) = (xs.take i).flatMap FileV.cells := by
  rw [h1l, List.append_assoc, List.take_append_of_le_length (by simp only [List.length_take, hcl]; omega), List.take_take, show min (i * 3) ((i + 1) * 3) = i * 3 by omega]
  have := congrArg (List.take (i * 3)) htk
  rw [List.take_take, show min (i * 3) (xs.length * 3) = i * 3 by omega, flatMap_take FileV.cells 3 fileCells_len] at this
  exact this
 have hr1d : r1.toList.drop (i * 3 + f.cells.length) = cs ++ cur.toList.drop ((i + 1) * 3 + cs.length) := by
  rw [h1l, List.append_assoc, fileCells_len, show i * 3 + 3 = (cur.toList.take ((i + 1) * 3)).length by simp only [List.length_take, hcl]; omega, List.drop_left]
 refine ⟨h1, ?_, ?_⟩
 ·show ((r1.toList.take (i * 3) ++ f.cells ++ r1.toList.drop (i * 3 + f.cells.length)).toArray).size = _
  simp only [List.size_toArray, List.length_append, List.length_take, List.length_drop, Array.length_toList, h1, fileCells_len]
  omega
 ·show ((r1.toList.take (i * 3) ++ f.cells ++ r1.toList.drop (i * 3 + f.cells.length)).toArray).toList.take _ = _
  rw [List.toList_toArray, hr1t, hr1d, List.flatMap_append, List.flatMap_cons]
  generalize hD : cur.toList.drop ((i + 1) * 3 + cs.length) = D
  show (List.take ((xs.length + 1) * 3) ((xs.take i).flatMap FileV.cells ++ f.cells ++ (cs ++ D))) = (xs.take i).flatMap FileV.cells ++ (f.cells ++ cs)
  have e : (xs.take i).flatMap FileV.cells ++ f.cells ++ (cs ++ D) = ((xs.take i).flatMap FileV.cells ++ (f.cells ++ cs)) ++ D := by simp only [List.append_assoc]
  rw [e]
  refine List.take_left' ?_
  rw [List.length_append, List.length_append, flatMap_len FileV.cells 3 fileCells_len, fileCells_len, hcs, List.length_take]
  omega
end Go.Proofs.W
namespace Go.Proofs.W
open Go Go.Proofs Go.RowKit Go.Op Go.Sort
set_option maxRecDepth 1000000
def InsRet (base : Nat) (w : World) (row : Option Nat) (ys : List FileV) (e : Ending) (w' : World) : Prop := (∃ v', e = .returned v' ∧ w'.ownsRow base 56 3 v' ys.length (ys.flatMap FileV.cells)) ∧ w.grownBy w' row
set_option maxHeartbeats 8000000 in
theorem insert_place (base g cap : Nat) (cur : Array Value) (xs : List FileV) (f : FileV) (i vb : Nat) (w : World) (hrow : w.heap[g]? = some (.cells cur 56 (0, 0))) (hbg : base ≤ g) (hcap : cap ≤ maxLen) (hcs : cur.size = cap * 3) (htk : cur.toList.take (xs.length * 3) = xs.flatMap FileV.cells)
  (hi : i < xs.length) (hroom : xs.length + 1 ≤ cap) (hv : w.heap[vb]? = some (.cells #[.string f.path, .bool f.dir, .slice f.la f.lines.length f.lc] 56 (0, 0))) (hne : vb ≠ g) :
  Calls Tryz.prog 127 #[.slice (some ⟨g, 0, none⟩) xs.length cap, .int .i64 i, .slice (some ⟨vb, 0, none⟩) 1 1] w fun e w' => InsRet base w (some g) (xs.take i ++ f :: xs.drop i) e w' := by
 have mixed : Tryz.prog.follows .mixedOrders = true := by kernel_rfl
 obtain ⟨i0, hi0, hz0, hz1, hz2⟩ := info_file
 have hsz : (Tryz.prog.info? 56).map (·.size) = some 3 := by rw [hi0]; simp [hz1]
 have hsz' : ∀ w, (Go.sizeOf 56).run Tryz.prog w = .ok 3 w := by intro w; simp [Go.sizeOf, typeInfo, hi0, hz1]
 obtain ⟨k1, k2, k3⟩ := insert_rows (f := f) hi htk (by omega)
 generalize hcsd : (xs.drop i).flatMap FileV.cells = cs at k1 k2 k3
 have hcsl : cs.length = (xs.length - i) * 3 := by rw [← hcsd, flatMap_len FileV.cells 3 fileCells_len, List.length_drop]
 generalize hr1 : (cur.toList.take ((i + 1) * 3) ++ cs ++ cur.toList.drop ((i + 1) * 3 + cs.length)).toArray = r1 at k1 k2 k3
 generalize hr2 : (r1.toList.take (i * 3) ++ f.cells ++ r1.toList.drop (i * 3 + f.cells.length)).toArray = r2 at k2 k3
 have hglt := (Array.getElem?_eq_some_iff.1 hrow).1
 have hsrc : ∀ j v, cs[j]? = some v → w.drew.cell? ((⟨g, i * 3, none⟩ : Addr).add j) = some v := fun j v hj => by
  rw [Addr.add_lit]
  have h1 : (xs.flatMap FileV.cells)[i * 3 + j]? = some v := by
   rw [← List.getElem?_drop, flatMap_drop FileV.cells 3 fileCells_len, hcsd]
   exact hj
  have hl := (List.getElem?_eq_some_iff.1 hj).1
  rw [← htk, List.getElem?_take_of_lt (by omega), Array.getElem?_toList] at h1
  show w.cell? _ = _
  simp [World.cell?, hrow, h1]
 have hmin : Nat.min (xs.length + 1 - i) (xs.length - i) = xs.length - i := by simp only [Nat.min_def]; split <;> omega
 have hcp1 : ∀ ty dc sc, (Builtin.copy_ #[22, 22] ty #[.slice (some ⟨g, (i + 1) * 3, none⟩) (xs.length - i) dc, .slice (some ⟨g, i * 3, none⟩) (xs.length + 1 - i) sc]).run Tryz.prog w.drew = .ok (goInt (Nat.min (xs.length + 1 - i) (xs.length - i))) (w.drew.setRow g r1) := fun ty dc sc => by
  have := run_copy_rowK (P := Tryz.prog) 3 w.drew 22 22 ty 56 g ((i + 1) * 3) (xs.length - i) dc ⟨g, i * 3, none⟩ (xs.length + 1 - i) sc cur _ cs Tryz.underlying22 hsz hrow (by rw [hmin, hcsl]) hsrc (by rw [hcsl, hcs]; omega) (by rw [← hcsd]; exact filesCells_one _)
  rw [hr1] at this
  exact this
 have hrow1 : (w.drew.setRow g r1).heap[g]? = some (.cells r1 56 (0, 0)) := setRow_heap w.drew g cur r1 _ _ hrow
 have hv1 : (w.drew.setRow g r1).heap[vb]? = some (.cells #[.string f.path, .bool f.dir, .slice f.la f.lines.length f.lc] 56 (0, 0)) := by rw [setRow_other _ _ _ _ hne]; exact hv
 have hcp2 : ∀ (W : World), W.heap[g]? = some (.cells r1 56 (0, 0)) → W.heap[vb]? = some (.cells #[.string f.path, .bool f.dir, .slice f.la f.lines.length f.lc] 56 (0, 0)) → ∀ ty dc, (Builtin.copy_ #[22, 22] ty #[.slice (some ⟨g, i * 3, none⟩) (xs.length + 1 - i) dc, .slice (some ⟨vb, 0, none⟩) 1 1]).run Tryz.prog W = .ok (goInt (Nat.min 1 (xs.length + 1 - i))) (W.setRow g r2) := fun W hW1 hW2 ty dc => by
  have hm1 : Nat.min 1 (xs.length + 1 - i) = 1 := by simp only [Nat.min_def]; split <;> omega
  have := run_copy_rowK (P := Tryz.prog) 3 W 22 22 ty 56 g (i * 3) (xs.length + 1 - i) dc ⟨vb, 0, none⟩ 1 1 r1 _ f.cells Tryz.underlying22 hsz hW1 (by rw [hm1, fileCells_len]) (fun j v hj => by
   rw [Addr.add_lit, Nat.zero_add]
   have h2 : (#[.string f.path, .bool f.dir, .slice f.la f.lines.length f.lc] : Array Value)[j]? = some v := by rw [← Array.getElem?_toList]; exact hj
   simp only [World.cell?, hW2]
   exact h2) (by rw [fileCells_len, k1, hcs]; omega) (fileCells_one f)
  rw [hr2] at this
  exact this
 have hov : ∀ lb cb, (callFunc 179 #[.slice (some ⟨vb, 0, none⟩) 1 1, .slice (some ⟨g, (i + 1) * 3, none⟩) lb cb]).run Tryz.prog w = .ok (.value (.bool false)) w := fun lb cb => by
  rw [run_callFunc_extern Tryz.func179 (by kernel_rfl) (by kernel_rfl) (by kernel_rfl) (e := Extern.SlicesOverlaps.overlaps #[22, 22] #[4]) (by kernel_rfl),
   Lib.run_overlaps_apart w 22 4 56 Tryz.underlying22 3 hsz' ⟨vb, 0, none⟩ ⟨g, (i + 1) * 3, none⟩ 1 1 lb cb hne 56 56 3 cur.size (by simp [World.shape?, hv]) (by simp [World.shape?, hrow]) (by omega) (frozen_of_row w vb 0 _ _ hv) (frozen_of_row w vb 3 _ _ hv)]
  rfl
 have HROW : Hid (w.heap[g]? = some (.cells cur 56 (0, 0))) := hrow
 have HROW1 : Hid ((w.drew.setRow g r1).heap[g]? = some (.cells r1 56 (0, 0)) ∧ (w.drew.setRow g r1).heap[vb]? = some (.cells #[.string f.path, .bool f.dir, .slice f.la f.lines.length f.lc] 56 (0, 0))) := ⟨hrow1, hv1⟩
 have HC1 : Hid _ := hcp1
 have HC2 : Hid _ := hcp2
 have hk2 : r2.size = cap * 3 := k2.trans hcs
 have HK2 : Hid (r2.size = cap * 3) := hk2
 clear hcsd hsrc hcsl hrow hrow1 hv1 hv hcp1 hcp2 hr1 hr2 k1 k2 hk2 hcs htk hmin hsz' hsz hz0 hz1 hz2 hi0
 have h1 : ¬ ((i : Int) = (xs.length : Int)) := by omega
 have h2 : ¬ ((cap : Int) < (xs.length : Int) + 1) := by omega
 have hw1 : wrap64 ((i : Int) + 1) = (i : Int) + 1 := by unfold wrap64; unfold maxLen at hcap; omega
 have hw2 : wrap64 ((xs.length : Int) + 1) = (xs.length : Int) + 1 := by unfold wrap64; unfold maxLen at hcap; omega
 have hw3 : IntKind.i64.wrap ((i : Int) + 1) = (i : Int) + 1 := by rw [IntKind.wrap_i64]; unfold maxLen at hcap; omega
 have h12 : (i : Int) + 1 ≤ (xs.length : Int) + 1 := by omega
 have h3 : ¬ (cap = i) := by omega
 have h4 : ¬ (cap = i + 1) := by omega
 have h5 : (0 : Int) ≤ (i : Int) + 1 := by omega
 have h6 : (i : Int) ≤ (xs.length : Int) := by omega
 have h7 : (i : Int) ≤ (xs.length : Int) + 1 := by omega
 have h8 : ((i : Int) + 1).toNat = i + 1 := by omega
 have h9 : ((xs.length : Int) + 1).toNat = xs.length + 1 := by omega
 have h10 : (xs.length : Int) + 1 ≤ (cap : Int) := by omega
 have h11 : (0 : Int) ≤ (xs.length : Int) + 1 := by omega
 unfold InsRet
 generalize hys : xs.take i ++ f :: xs.drop i = ys at k3 ⊢
 have hyl : ys.length = xs.length + 1 := by rw [← hys, List.length_append, List.length_cons, List.length_take, List.length_drop]; omega
 clear hys
 have HK3 : Hid _ := k3
 have HYL : Hid _ := hyl
 clear k3 hyl
 go_enter Tryz.func127, Tryz.ntmps127
 go_wp2_with (simp only [hov])
 go_region_law_o (refine step_copy_runI rfl _ _ 22 22 rfl (.slice (some ⟨g, (i + 1) * 3, none⟩) (xs.length - i) (cap - (i + 1))) (.slice (some ⟨g, i * 3, none⟩) (xs.length + 1 - i) (cap - i)) (by simp [Act.eval, Act.put]) (by simp [Act.eval, Act.put]) (HC1.out 3 (cap - (i + 1)) (cap - i)) ?_)
 go_wp2_with fail
 rw [HC2.out (w.drew.setRow g r1) HROW1.out.1 HROW1.out.2 3 (cap - i)]
 go_wp2
 go_ret
 refine ⟨⟨_, rfl, ?_⟩, ?_⟩
 ·refine ⟨by rw [flatMap_len FileV.cells 3 fileCells_len], .inr ⟨g, cap, r2, by rw [HYL.out]; rfl, hbg, setRow_heap _ _ _ _ _ _ HROW1.out.1, by rw [HYL.out]; exact hroom, hcap, HK2.out, by rw [HYL.out]; exact HK3.out⟩⟩
 ·exact ⟨rfl, rfl, rfl, by rw [setRow_size, setRow_size]; exact Nat.le_refl _, fun k hk hkn => by
   have hkg : k ≠ g := fun e => hkn (by rw [e])
   rw [setRow_other _ _ _ _ hkg, setRow_other _ _ _ _ hkg]
   rfl⟩
end Go.Proofs.W
namespace Go.Proofs.W
open Go Go.Proofs Go.RowKit Go.Op Go.Sort
set_option maxRecDepth 1000000
theorem wrap_small (x : Int) (h1 : -9223372036854775808 ≤ x) (h2 : x < 9223372036854775808) : wrap64 x = x := by unfold wrap64; omega
theorem insert_rows2 {xs : List FileV} {f : FileV} {i : Nat} {row : Array Value} (hi : i < xs.length) (htk : row.toList.take (i * 3) = (xs.take i).flatMap FileV.cells) (hsz : (xs.length + 1) * 3 ≤ row.size) :
  let cs := (xs.drop i).flatMap FileV.cells
  let r1 := (row.toList.take (i * 3) ++ f.cells ++ row.toList.drop (i * 3 + f.cells.length)).toArray
  let r2 := (r1.toList.take ((i + 1) * 3) ++ cs ++ r1.toList.drop ((i + 1) * 3 + cs.length)).toArray
  r1.size = row.size ∧ r2.size = row.size ∧ r2.toList.take ((xs.length + 1) * 3) = (xs.take i ++ f :: xs.drop i).flatMap FileV.cells := by
 intro cs r1 r2
 have hcs : cs.length = (xs.length - i) * 3 := by
  show ((xs.drop i).flatMap FileV.cells).length = _
  rw [flatMap_len FileV.cells 3 fileCells_len, List.length_drop]
 have hcl : row.toList.length = row.size := Array.length_toList
 have hA : ((xs.take i).flatMap FileV.cells).length = i * 3 := by rw [flatMap_len FileV.cells 3 fileCells_len, List.length_take]; omega
 have h1l : r1.toList = (xs.take i).flatMap FileV.cells ++ f.cells ++ row.toList.drop (i * 3 + f.cells.length) := by
  show (row.toList.take (i * 3) ++ f.cells ++ row.toList.drop (i * 3 + f.cells.length)).toArray.toList = _
  rw [List.toList_toArray, htk]
 have h1 : r1.size = row.size := by
  rw [← Array.length_toList, h1l]
  simp only [List.length_append, List.length_drop, hA, hcl, fileCells_len]
  omega
 have hr1t : r1.toList.take ((i + 1) * 3) = (xs.take i).flatMap FileV.cells ++ f.cells := by
  rw [h1l]
  exact List.take_left' (by rw [List.length_append, hA, fileCells_len]; omega)
 refine ⟨h1, ?_, ?_⟩
 ·rw [← Array.length_toList]
  show ((r1.toList.take ((i + 1) * 3) ++ cs ++ r1.toList.drop ((i + 1) * 3 + cs.length)).toArray.toList).length = _
  rw [List.toList_toArray, hr1t]
  simp only [List.length_append, List.length_drop, hA, hcs, Array.length_toList, h1, fileCells_len]
  omega
 ·show ((r1.toList.take ((i + 1) * 3) ++ cs ++ r1.toList.drop ((i + 1) * 3 + cs.length)).toArray).toList.take _ = _
  rw [List.toList_toArray, hr1t, List.flatMap_append, List.flatMap_cons]
  show _ = (xs.take i).flatMap FileV.cells ++ (f.cells ++ cs)
  rw [List.append_assoc _ f.cells cs]
  exact List.take_left' (by rw [List.length_append, List.length_append, hA, fileCells_len, hcs]; omega)
set_option maxHeartbeats 8000000 in
theorem insert_grow_walk (g n i vb G : Nat) (w W1 : World) (r1 r2 : Array Value) (hi : i < n) (hlen : n ≤ 1000000) (hG : n + 1 ≤ G)
  (HRZ : Hid (∀ ty, (Builtin.append_ #[22, 3] ty #[.slice (some ⟨g, 0, none⟩) i n, .int .i64 ((n : Int) + 1 - (i : Int))]).run Tryz.prog w = .ok (.slice (some ⟨w.heap.size, 0, none⟩) (n + 1) G) W1))
  (HC1 : Hid (∀ ty dc, (Builtin.copy_ #[22, 22] ty #[.slice (some ⟨w.heap.size, i * 3, none⟩) (n + 1 - i) dc, .slice (some ⟨vb, 0, none⟩) 1 1]).run Tryz.prog W1 = .ok (goInt (Nat.min 1 (n + 1 - i))) (W1.setRow w.heap.size r1)))
  (HC2 : Hid (∀ ty dc sc, (Builtin.copy_ #[22, 22] ty #[.slice (some ⟨w.heap.size, (i + 1) * 3, none⟩) (n - i) dc, .slice (some ⟨g, i * 3, none⟩) (n - i) sc]).run Tryz.prog (W1.setRow w.heap.size r1).drew = .ok (goInt (Nat.min (n - i) (n - i))) ((W1.setRow w.heap.size r1).drew.setRow w.heap.size r2))) :
  Calls Tryz.prog 127 #[.slice (some ⟨g, 0, none⟩) n n, .int .i64 i, .slice (some ⟨vb, 0, none⟩) 1 1] w fun e w' => e = .returned (.slice (some ⟨w.heap.size, 0, none⟩) (n + 1) G) ∧ Hid (w' = (W1.setRow w.heap.size r1).drew.setRow w.heap.size r2) := by
 have mixed : Tryz.prog.follows .mixedOrders = true := by kernel_rfl
 have h1 : ¬ ((i : Int) = (n : Int)) := by omega
 have hw2 : wrap64 ((n : Int) + 1) = (n : Int) + 1 := wrap_small _ (by omega) (by omega)
 have hw4 : wrap64 ((n : Int) + 1 - (i : Int)) = (n : Int) + 1 - (i : Int) := wrap_small _ (by omega) (by omega)
 have hw3 : IntKind.i64.wrap ((i : Int) + 1) = (i : Int) + 1 := by rw [IntKind.wrap_i64]; omega
 have h3 : ¬ (n = i) := by omega
 have h4 : ¬ (G = i) := by omega
 have h4b : ¬ (G = i + 1) := by omega
 have h5 : (0 : Int) ≤ (i : Int) + 1 := by omega
 have h6 : (i : Int) ≤ (n : Int) := by omega
 have h7 : (i : Int) ≤ (n : Int) + 1 := by omega
 have h8 : ((i : Int) + 1).toNat = i + 1 := by omega
 have h12 : (i : Int) + 1 ≤ (n : Int) + 1 := by omega
 clear hi hlen hG
 go_enter Tryz.func127, Tryz.ntmps127
 go_wp2_with (at_builtin; refine Lib.wpList_append_run _ rfl _ _ 22 3 rfl (.slice (some ⟨g, 0, none⟩) i n) (.int .i64 (wrap64 ((n : Int) + 1 - (i : Int)))) rfl rfl (.slice (some ⟨w.heap.size, 0, none⟩) (n + 1) G) W1 (by rw [hw4]; exact HRZ.out _) ?_)
 rw [HC1.out 3 (G - i)]
 go_wp2_with fail
 go_region_law_o (refine step_copy_runI rfl _ _ 22 22 rfl (.slice (some ⟨w.heap.size, (i + 1) * 3, none⟩) (n - i) (G - (i + 1))) (.slice (some ⟨g, i * 3, none⟩) (n - i) (n - i)) (by simp [Act.eval, Act.put]) (by simp [Act.eval, Act.put]) (HC2.out 3 (G - (i + 1)) (n - i)) ?_)
 go_wp2
 go_ret
 exact ⟨rfl, rfl⟩
set_option maxHeartbeats 8000000 in
theorem insert_grow (base g cap : Nat) (cur : Array Value) (xs : List FileV) (f : FileV) (i vb : Nat) (w : World) (hrow : w.heap[g]? = some (.cells cur 56 (0, 0))) (hbw : base ≤ w.heap.size) (hcs : cur.size = cap * 3) (htk : cur.toList.take (xs.length * 3) = xs.flatMap FileV.cells)
  (hi : i < xs.length) (hlen : xs.length ≤ 1000000) (hcap : cap = xs.length) (hv : w.heap[vb]? = some (.cells #[.string f.path, .bool f.dir, .slice f.la f.lines.length f.lc] 56 (0, 0))) :
  Calls Tryz.prog 127 #[.slice (some ⟨g, 0, none⟩) xs.length cap, .int .i64 i, .slice (some ⟨vb, 0, none⟩) 1 1] w fun e w' => InsRet base w (some g) (xs.take i ++ f :: xs.drop i) e w' := by
 obtain ⟨i0, hi0, hz0, hz1, hz2⟩ := info_file
 have hsz : (Tryz.prog.info? 56).map (·.size) = some 3 := by rw [hi0]; simp [hz1]
 obtain ⟨n, hn⟩ : ∃ n, xs.length = n := ⟨_, rfl⟩
 rw [hn] at hcap
 replace hcap := hcap.symm
 subst hcap
 have hglt := (Array.getElem?_eq_some_iff.1 hrow).1
 have hvlt := (Array.getElem?_eq_some_iff.1 hv).1
 have hcell : ∀ j v, (xs.flatMap FileV.cells)[j]? = some v → w.cell? ⟨g, j, none⟩ = some v := fun j v hj => by
  have hl := (List.getElem?_eq_some_iff.1 hj).1
  rw [flatMap_len FileV.cells 3 fileCells_len] at hl
  rw [← htk, List.getElem?_take_of_lt (by omega), Array.getElem?_toList] at hj
  simp [World.cell?, hrow, hj]
 have hik : i + (n + 1 - i) = n + 1 := by omega
 have hold : (Builtin.firstCells i0.size i (.slice (some ⟨g, 0, none⟩) i n)).run Tryz.prog w.drew = .ok ((xs.take i).flatMap FileV.cells).toArray w.drew := by
  rw [hz1]
  refine run_firstCells_some w.drew 3 i ⟨g, 0, none⟩ i n _ (by rw [flatMap_len FileV.cells 3 fileCells_len, List.length_take]; omega) fun j v hj => ?_
  rw [Addr.add_lit, Nat.zero_add]
  rw [← flatMap_take FileV.cells 3 fileCells_len, List.getElem?_take] at hj
  split at hj
  ·exact hcell j v hj
  ·cases hj
 have hrz : ∀ ty, (Builtin.append_ #[22, 3] ty #[.slice (some ⟨g, 0, none⟩) i n, .int .i64 ((n : Int) + 1 - (i : Int))]).run Tryz.prog w =
   .ok (.slice (some ⟨w.heap.size, 0, none⟩) (n + 1) (grownCap w (n + 1) n 56)) (w.drew.alloc (.cells (((xs.take i).flatMap FileV.cells).toArray ++ Builtin.zeroCells (Value.agg #[.string ⟨#[]⟩, .bool false, .slice none 0 0]).cells (n + 1 - i) ++ Builtin.zeroCells (Value.agg #[.string ⟨#[]⟩, .bool false, .slice none 0 0]).cells (grownCap w (n + 1) n 56 - (n + 1))) 56)) := fun ty => by
  have h := Lib.run_append_grow_zeros (P := Tryz.prog) w 22 3 ty 56 i0 _ .i64 .i64 Tryz.underlying22 Tryz.underlying3 hi0 hz0 (some ⟨g, 0, none⟩) i n _ hold (n + 1 - i) (by omega) (by omega) (by omega) (by omega) (by rw [hz2]; omega) (by rw [hz2, hik]; exact growslice_fits (by omega) (by omega))
  rw [hik] at h
  rw [show (n : Int) + 1 - (i : Int) = ((n + 1 - i : Nat) : Int) by omega]
  exact h
 obtain ⟨G, hG⟩ : ∃ G, G = grownCap w (n + 1) n 56 := ⟨_, rfl⟩
 have hGn : n + 1 ≤ G := by rw [hG]; exact grownCap_ge w _ _ _
 have hGm : G ≤ maxLen := by rw [hG]; exact grownCap_le_maxLen w _ _ _ (by unfold maxLen; omega)
 obtain ⟨ROW, hROW⟩ : ∃ ROW : Array Value, ROW = ((xs.take i).flatMap FileV.cells).toArray ++ Builtin.zeroCells (Value.agg #[.string ⟨#[]⟩, .bool false, .slice none 0 0]).cells (n + 1 - i) ++ Builtin.zeroCells (Value.agg #[.string ⟨#[]⟩, .bool false, .slice none 0 0]).cells (G - (n + 1)) := ⟨_, rfl⟩
 have hzc : ∀ k, (Builtin.zeroCells (Value.agg #[.string ⟨#[]⟩, .bool false, .slice none 0 0]).cells k).size = k * 3 := fun k => by simp [Builtin.zeroCells, Value.cells]
 rw [← hG] at hrz
 rw [← hROW] at hrz
 have hRs : ROW.size = G * 3 := by
  rw [hROW, Array.size_append, Array.size_append, hzc, hzc, List.size_toArray, flatMap_len FileV.cells 3 fileCells_len, List.length_take]
  omega
 have hRt : ROW.toList.take (i * 3) = (xs.take i).flatMap FileV.cells := by
  rw [hROW, Array.toList_append, Array.toList_append, List.append_assoc, List.toList_toArray]
  exact List.take_left' (by rw [flatMap_len FileV.cells 3 fileCells_len, List.length_take]; omega)
 clear hROW
 obtain ⟨k1, k2, k3⟩ := insert_rows2 (f := f) hi hRt (by omega)
 generalize hcsd : (xs.drop i).flatMap FileV.cells = cs at k1 k2 k3
 have hcsl : cs.length = (n - i) * 3 := by rw [← hcsd, flatMap_len FileV.cells 3 fileCells_len, List.length_drop]; omega
 generalize hr1 : (ROW.toList.take (i * 3) ++ f.cells ++ ROW.toList.drop (i * 3 + f.cells.length)).toArray = r1 at k1 k2 k3
 generalize hr2 : (r1.toList.take ((i + 1) * 3) ++ cs ++ r1.toList.drop ((i + 1) * 3 + cs.length)).toArray = r2 at k2 k3
 obtain ⟨W1, hW1⟩ : ∃ W1, W1 = w.drew.alloc (.cells ROW 56) := ⟨_, rfl⟩
 rw [← hW1] at hrz
 have hW1n : W1.heap[w.heap.size]? = some (.cells ROW 56 (0, 0)) := by rw [hW1]; exact (MapKept.heap_alloc w.drew _).1
 have hW1o : ∀ k, k < w.heap.size → W1.heap[k]? = w.heap[k]? := fun k hk => by rw [hW1, Below.heap_alloc _ _ _ (show k < w.drew.heap.size from hk)]; rfl
 have hmA : Nat.min 1 (n + 1 - i) = 1 := by simp only [Nat.min_def]; split <;> omega
 have hcpA : ∀ ty dc, (Builtin.copy_ #[22, 22] ty #[.slice (some ⟨w.heap.size, i * 3, none⟩) (n + 1 - i) dc, .slice (some ⟨vb, 0, none⟩) 1 1]).run Tryz.prog W1 = .ok (goInt (Nat.min 1 (n + 1 - i))) (W1.setRow w.heap.size r1) := fun ty dc => by
  have := run_copy_rowK (P := Tryz.prog) 3 W1 22 22 ty 56 w.heap.size (i * 3) (n + 1 - i) dc ⟨vb, 0, none⟩ 1 1 ROW _ f.cells Tryz.underlying22 hsz hW1n (by rw [hmA, fileCells_len]) (fun j v hj => by
   rw [Addr.add_lit, Nat.zero_add]
   have h2 : (#[.string f.path, .bool f.dir, .slice f.la f.lines.length f.lc] : Array Value)[j]? = some v := by rw [← Array.getElem?_toList]; exact hj
   simp only [World.cell?, hW1o vb hvlt, hv]
   exact h2) (by rw [fileCells_len, hRs]; omega) (fileCells_one f)
  rw [hr1] at this
  exact this
 have hrow1 : (W1.setRow w.heap.size r1).heap[w.heap.size]? = some (.cells r1 56 (0, 0)) := setRow_heap W1 w.heap.size ROW r1 _ _ hW1n
 have hold1 : (W1.setRow w.heap.size r1).heap[g]? = some (.cells cur 56 (0, 0)) := by rw [setRow_other _ _ _ _ (by omega), hW1o g hglt]; exact hrow
 have hmB : Nat.min (n - i) (n - i) = n - i := by simp
 have hcpB : ∀ ty dc sc, (Builtin.copy_ #[22, 22] ty #[.slice (some ⟨w.heap.size, (i + 1) * 3, none⟩) (n - i) dc, .slice (some ⟨g, i * 3, none⟩) (n - i) sc]).run Tryz.prog (W1.setRow w.heap.size r1).drew = .ok (goInt (Nat.min (n - i) (n - i))) ((W1.setRow w.heap.size r1).drew.setRow w.heap.size r2) := fun ty dc sc => by
  have := run_copy_rowK (P := Tryz.prog) 3 (W1.setRow w.heap.size r1).drew 22 22 ty 56 w.heap.size ((i + 1) * 3) (n - i) dc ⟨g, i * 3, none⟩ (n - i) sc r1 _ cs Tryz.underlying22 hsz hrow1 (by rw [hmB, hcsl]) (fun j v hj => by
   rw [Addr.add_lit]
   have h1 : (xs.flatMap FileV.cells)[i * 3 + j]? = some v := by
    rw [← List.getElem?_drop, flatMap_drop FileV.cells 3 fileCells_len, hcsd]
    exact hj
   have hc := hcell _ _ h1
   show (W1.setRow w.heap.size r1).cell? _ = _
   rw [World.cell?_of_block (w := w) (by rw [hold1, hrow])]
   exact hc) (by rw [hcsl, k1, hRs]; omega) (by rw [← hcsd]; exact filesCells_one _)
  rw [hr2] at this
  exact this
 have hyl : (xs.take i ++ f :: xs.drop i).length = n + 1 := by rw [List.length_append, List.length_cons, List.length_take, List.length_drop]; omega
 rw [hn] at k3 ⊢
 have hk2 : r2.size = G * 3 := k2.trans hRs
 refine (insert_grow_walk g n i vb G w W1 r1 r2 (by omega) (by omega) hGn hrz hcpA hcpB).mono fun e w' ⟨he, hw⟩ => ?_
 have hw' : w' = (W1.setRow w.heap.size r1).drew.setRow w.heap.size r2 := hw
 subst hw'
 refine ⟨⟨_, he, ?_⟩, ?_⟩
 ·refine ⟨by rw [flatMap_len FileV.cells 3 fileCells_len], .inr ⟨w.heap.size, G, r2, by rw [hyl], hbw, setRow_heap _ _ _ _ _ _ hrow1, by rw [hyl]; exact hGn, hGm, hk2, by rw [hyl]; exact k3⟩⟩
 ·refine ⟨?_, ?_, ?_, ?_, fun k hk hkn => ?_⟩
  ·show W1.os = w.os
   rw [hW1]; rfl
  ·show W1.tape = w.tape
   rw [hW1]; rfl
  ·show W1.output = w.output
   rw [hW1]; rfl
  ·rw [setRow_size]
   show _ ≤ (W1.setRow w.heap.size r1).heap.size
   rw [setRow_size, hW1]
   show w.heap.size ≤ (w.drew.alloc _).heap.size
   have := allocSize w.drew (.cells ROW 56)
   rw [this]
   exact Nat.le_succ _
  ·rw [setRow_other _ _ _ _ (by omega)]
   show (W1.setRow w.heap.size r1).heap[k]? = _
   rw [setRow_other _ _ _ _ (by omega)]
   exact hW1o k hk
set_option maxHeartbeats 4000000 in
theorem insert_end (base : Nat) (a : Option Addr) (cap : Nat) (xs : List FileV) (f : FileV) (vb : Nat) (w : World) (hown : w.ownsRow base 56 3 (.slice a xs.length cap) xs.length (xs.flatMap FileV.cells)) (hlen : xs.length ≤ 1000000) (hbw : base ≤ w.heap.size)
  (hv : w.heap[vb]? = some (.cells #[.string f.path, .bool f.dir, .slice f.la f.lines.length f.lc] 56 (0, 0))) :
  Calls Tryz.prog 127 #[.slice a xs.length cap, .int .i64 xs.length, .slice (some ⟨vb, 0, none⟩) 1 1] w fun e w' => (∃ v', e = .returned v' ∧ w'.ownsRow base 56 3 v' (xs.length + 1) (xs.flatMap FileV.cells ++ f.cells)) ∧ w.grownBy w' (Value.slice a xs.length cap).ownBlock := by
 obtain ⟨i0, hi0, hz0, hz1, hz2⟩ := info_file
 have hsrc : ∃ ad c, (Value.slice (some ⟨vb, 0, none⟩) 1 1) = .slice (some ad) 1 c ∧ f.cells.length = 1 * 3 ∧ ∀ j u, f.cells[j]? = some u → w.cell? (ad.add j) = some u := ⟨_, _, rfl, rfl, fun j u hu => by
  rw [Addr.add_lit, Nat.zero_add]
  have h2 : (#[.string f.path, .bool f.dir, .slice f.la f.lines.length f.lc] : Array Value)[j]? = some u := by rw [← Array.getElem?_toList]; exact hu
  simp only [World.cell?, hv]
  exact h2⟩
 have HS : Hid _ := hsrc
 have HO : Hid _ := hown
 have hshape : (a = none ∧ cap = 0 ∧ xs.length = 0) ∨ ∃ g, a = some ⟨g, 0, none⟩ ∧ xs.length ≤ cap := by
  rcases hown.2 with ⟨h0, h1⟩ | ⟨g, c2, cur, h0, _, _, hc, _⟩
  ·injection h0 with h2 h3 h4
   exact .inl ⟨h2, h4, h1⟩
  ·injection h0 with h2 h3 h4
   exact .inr ⟨g, h2, by omega⟩
 clear hsrc hown hv
 rcases hshape with ⟨rfl, rfl, h0⟩ | ⟨g, rfl, hc⟩
 ·rw [h0] at HO ⊢
  go_enter Tryz.func127, Tryz.ntmps127
  go_wp2_with (at_builtin; refine wpList_append_src _ rfl (.tmp 23) (.tmp 24) 22 rfl base 56 i0 (.agg #[.string ⟨#[]⟩, .bool false, .slice none 0 0]) 3 48 Tryz.underlying22 hi0 hz0 hz1 hz2 rfl (by decide) (.slice none 0 0) 0 _ rfl HO.out (.slice (some ⟨vb, 0, none⟩) 1 1) 1 f.cells rfl (.inr HS.out) (fileCells_one f) (by unfold maxLen; omega) (by omega) hbw ?_)
  intro v' w' hown' hg _
  go_wp2
  go_ret
  exact ⟨⟨_, rfl, hown'⟩, hg⟩
 ·have h1 : ¬ ((xs.length : Int) < 0) := by omega
  by_cases hcc : cap = xs.length
  ·subst hcc
   go_enter Tryz.func127, Tryz.ntmps127
   go_wp2_with (at_builtin; refine wpList_append_src _ rfl (.tmp 23) (.tmp 24) 22 rfl base 56 i0 (.agg #[.string ⟨#[]⟩, .bool false, .slice none 0 0]) 3 48 Tryz.underlying22 hi0 hz0 hz1 hz2 rfl (by decide) (.slice (some ⟨g, 0, none⟩) xs.length xs.length) xs.length _ rfl HO.out (.slice (some ⟨vb, 0, none⟩) 1 1) 1 f.cells rfl (.inr HS.out) (fileCells_one f) (by unfold maxLen; omega) (by omega) hbw ?_)
   intro v' w' hown' hg _
   go_wp2
   go_ret
   exact ⟨⟨_, rfl, hown'⟩, hg⟩
  ·go_enter Tryz.func127, Tryz.ntmps127
   go_wp2_with (at_builtin; refine wpList_append_src _ rfl (.tmp 23) (.tmp 24) 22 rfl base 56 i0 (.agg #[.string ⟨#[]⟩, .bool false, .slice none 0 0]) 3 48 Tryz.underlying22 hi0 hz0 hz1 hz2 rfl (by decide) (.slice (some ⟨g, 0, none⟩) xs.length cap) xs.length _ rfl HO.out (.slice (some ⟨vb, 0, none⟩) 1 1) 1 f.cells rfl (.inr HS.out) (fileCells_one f) (by unfold maxLen; omega) (by omega) hbw ?_)
   intro v' w' hown' hg _
   go_wp2
   go_ret
   exact ⟨⟨_, rfl, hown'⟩, hg⟩
theorem files_Insert (base : Nat) (v : Value) (xs : List FileV) (f : FileV) (i vb : Nat) (w : World) (hown : w.ownsRow base 56 3 v xs.length (xs.flatMap FileV.cells)) (hi : i ≤ xs.length) (hlen : xs.length ≤ 1000000) (hbw : base ≤ w.heap.size)
  (hv : w.heap[vb]? = some (.cells #[.string f.path, .bool f.dir, .slice f.la f.lines.length f.lc] 56 (0, 0))) (hne : v.ownBlock ≠ some vb) :
  Calls Tryz.prog 127 #[v, .int .i64 i, .slice (some ⟨vb, 0, none⟩) 1 1] w fun e w' => InsRet base w v.ownBlock (xs.take i ++ f :: xs.drop i) e w' := by
 by_cases he : i = xs.length
 ·subst he
  obtain ⟨a, c, rfl⟩ := ownShape hown
  refine (insert_end base a c xs f vb w hown hlen hbw hv).mono fun e w' ⟨⟨v', h1, h2⟩, h3⟩ => ⟨⟨v', h1, ?_⟩, h3⟩
  rw [List.take_length, List.drop_length, List.flatMap_append, List.length_append]
  simpa using h2
 ·have hlt : i < xs.length := by omega
  obtain ⟨hl, ⟨_, h0⟩ | ⟨g, cap, cur, rfl, hg, hrow, hc, hcm, hcs, htk⟩⟩ := hown
  ·omega
  ·by_cases hroom : xs.length + 1 ≤ cap
   ·exact insert_place base g cap cur xs f i vb w hrow hg hcm hcs htk hlt hroom hv (fun e => hne (by rw [e]; rfl))
   ·exact insert_grow base g cap cur xs f i vb w hrow hbw hcs htk hlt hlen (by omega) hv
end Go.Proofs.W
