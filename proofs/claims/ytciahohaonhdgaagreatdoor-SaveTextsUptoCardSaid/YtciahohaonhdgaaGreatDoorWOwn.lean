/- A PART OF THE PROOF THAT SAVETEXTS HOLDS FOR EVERY INPUT OF BULK AT MOST 1048576. No condition beyond the given statement. This part: WOwn. -/
import Derived.Test.YtciahohaonhdgaaGreatDoorWHead
import Derived.Test.YtciahohaonhdgaaGreatDoorWFile
namespace Go.Proofs.W
open Go Go.Proofs Go.RowKit Go.Op
set_option maxRecDepth 1000000
set_option maxHeartbeats 4000000 in
theorem tree_own (f : FileV) (w : World) (h : TextsH w f.la f.lines) (hl : f.lines.length ≤ 1000000) :
  Calls Tryz.prog 34 #[f.val] w fun e w' => (∃ la lc, e = .returned (FileV.val ⟨f.path, f.dir, f.lines, la, lc⟩) ∧ w'.ownsRow w.heap.size 9 1 (.slice la f.lines.length lc) f.lines.length (f.lines.map Value.string)) ∧ Below w.heap.size w w' := by
 unfold FileV.val
 obtain ⟨W, hW⟩ : ∃ W, W = (w.alloc (.cells #[.string f.path, .bool f.dir, .slice f.la f.lines.length f.lc] 56)).alloc (.cells #[.string ⟨#[]⟩, .bool false, .slice none 0 0] 56) := ⟨_, rfl⟩
 have hA : Below w.heap.size w W := by rw [hW]; exact belowTrans (belowAlloc _ _) (belowAlloc _ _)
 have b1 : W.heap[w.heap.size]? = some (.cells #[.string f.path, .bool f.dir, .slice f.la f.lines.length f.lc] 56 (0, 0)) := by
  rw [hW, Below.heap_alloc _ _ _ (by simp)]
  exact (MapKept.heap_alloc w _).1
 have b2 : W.heap[w.heap.size + 1]? = some (.cells #[.string ⟨#[]⟩, .bool false, .slice none 0 0] 56 (0, 0)) := by
  rw [hW, show w.heap.size + 1 = (w.alloc (.cells #[.string f.path, .bool f.dir, .slice f.la f.lines.length f.lc] 56)).heap.size by simp]
  exact (MapKept.heap_alloc _ _).1
 have hz : W.heap.size = w.heap.size + 2 := by rw [hW]; simp
 have q2 : W.cell? ⟨w.heap.size, 2, none⟩ = some (.slice f.la f.lines.length f.lc) := by simp [World.cell?, b1]
 have hcl := cloneTexts f.la f.lc f.lines W (h.below hA) (by omega)
 go_enter Tryz.func34, Tryz.ntmps34
 go_wp2_with fail
 simp only [← hW]
 refine hcl.mono ?_
 rintro e w2 ⟨⟨v', rfl, hown⟩, hb2⟩
 obtain ⟨la, lc, rfl⟩ := ownShape hown
 have c1 := (hb2.block w.heap.size (by omega)).trans b1
 have c2 := (hb2.block (w.heap.size + 1) (by omega)).trans b2
 have hs2 := hb2.size
 have e0 : w2.cell? ⟨w.heap.size, 0, none⟩ = some (.string f.path) := by simp [World.cell?, c1]
 have e1 : w2.cell? ⟨w.heap.size, 1, none⟩ = some (.bool f.dir) := by simp [World.cell?, c1]
 have e2 : w2.cell? ⟨w.heap.size, 2, none⟩ = some (.slice f.la f.lines.length f.lc) := by simp [World.cell?, c1]
 have f1 : ∀ k, w2.frozen? ⟨w.heap.size, k, none⟩ = false := fun k => frozen_of_row w2 _ k _ _ c1
 have g0 : w2.cell? ⟨w.heap.size + 1, 0, none⟩ = some (.string ⟨#[]⟩) := by simp [World.cell?, c2]
 have g1 : w2.cell? ⟨w.heap.size + 1, 1, none⟩ = some (.bool false) := by simp [World.cell?, c2]
 have g2 : w2.cell? ⟨w.heap.size + 1, 2, none⟩ = some (.slice none 0 0) := by simp [World.cell?, c2]
 have f2 : ∀ k, w2.frozen? ⟨w.heap.size + 1, k, none⟩ = false := fun k => frozen_of_row w2 _ k _ _ c2
 have hB2 := belowTrans hA hb2
 clear hcl q2
 go_wp2
 have d1 := setCell_block (.slice la f.lines.length lc) c1 (i := 2)
 have d2 : (w2.setCell ⟨w.heap.size, 2, none⟩ (.slice la f.lines.length lc)).heap[w.heap.size + 1]? = _ := (Below.heap_setCell _ _ _ _ (by show _ ≠ w.heap.size; omega)).trans c2
 have hfin := setCell_block (.slice la f.lines.length lc) (setCell_block (i := 1) (.bool f.dir) (setCell_block (i := 0) (.string f.path) d2)) (i := 2)
 refine bodyPost_ret_by (v := .agg #[.string f.path, .bool f.dir, .slice la f.lines.length lc]) ?_ rfl ?_
 ·exact results_cell_row rfl _ _ (w.heap.size + 1) 56 _ _ _ rfl hfin Tryz.underlying56 rfl (by kernel_rfl)
 ·have hall : Below w.heap.size w ((((w2.setCell ⟨w.heap.size, 2, none⟩ (.slice la f.lines.length lc)).setCell ⟨w.heap.size + 1, 0, none⟩ (.string f.path)).setCell ⟨w.heap.size + 1, 1, none⟩ (.bool f.dir)).setCell ⟨w.heap.size + 1, 2, none⟩ (.slice la f.lines.length lc)) :=
   (((hB2.setCell (by show _ ≤ w.heap.size; omega) _).setCell (by show _ ≤ w.heap.size + 1; omega) _).setCell (by show _ ≤ w.heap.size + 1; omega) _).setCell (by show _ ≤ w.heap.size + 1; omega) _
  have hne1 := row_other hown c1 (by decide)
  have hne2 := row_other hown c2 (by decide)
  have hk := ownsRow_setCell_other (ownsRow_setCell_other (ownsRow_setCell_other (ownsRow_setCell_other hown (a := ⟨w.heap.size, 2, none⟩) hne1 (.slice la f.lines.length lc)) (a := ⟨w.heap.size + 1, 0, none⟩) hne2 (.string f.path)) (a := ⟨w.heap.size + 1, 1, none⟩) hne2 (.bool f.dir)) (a := ⟨w.heap.size + 1, 2, none⟩) hne2 (.slice la f.lines.length lc)
  exact ⟨⟨la, lc, rfl, ownsRow_base hk (by omega)⟩, hall⟩
end Go.Proofs.W
namespace Go.Proofs.W
open Go Go.Proofs Go.RowKit Go.Op Go.Sort
set_option maxRecDepth 1000000
structure FsOk (fs : List FileV) : Prop where
 rising : Rising pathLess (pathsOf fs)
 size : ∀ f, f ∈ fs → f.path.size < 4294967281
 len : fs.length ≤ 1000000
 lines : ∀ f, f ∈ fs → f.lines.length ≤ 1000000
set_option maxHeartbeats 4000000 in
theorem tree_place (a : Option Addr) (c : Nat) (fs : List FileV) (p : ByteArray) (w : World) (h : FilesH w a fs) (hf : FsOk fs) (hp : p.size < 4294967281) (hm : HasM w) :
  Calls Tryz.prog 86 #[.agg #[.slice a fs.length c], .string p] w fun e w' => e = .returned (.tuple #[.int .i64 (rankP (pathsOf fs) p), .bool (hasP (pathsOf fs) p)]) ∧ Below w.heap.size w w' := by
 have hA := belowAlloc w (.cells #[.slice a fs.length c] 27)
 have q0 : (w.alloc (.cells #[.slice a fs.length c] 27)).cell? ⟨w.heap.size, 0, none⟩ = some (.slice a fs.length c) := by rw [cell_newBlock]; rfl
 have hs := file_search a c fs ⟨p, false, [], none, 0⟩ (w.alloc (.cells #[.slice a fs.length c] 27)) (h.below hA) hf.rising hf.size hp (hm.below hA) (by have := hf.len; omega)
 simp only [FileV.val, List.length_nil] at hs
 generalize rankP (pathsOf fs) p = rk at hs ⊢
 generalize hasP (pathsOf fs) p = is at hs ⊢
 go_enter Tryz.func86, Tryz.ntmps86
 go_wp2_with fail
 refine hs.mono ?_
 rintro e w2 ⟨rfl, hb2⟩
 go_wp2
 go_ret2
 exact ⟨rfl, belowTrans hA hb2⟩
end Go.Proofs.W
namespace Go.Proofs.W
open Go Go.Proofs Go.RowKit Go.Op Go.Sort
set_option maxRecDepth 1000000
theorem results_cell_row_tmp {P : Program} {fn : Func} {p u : Tmp} {ty : TypeId} (h : fn.results = #[.cell p ty, .tmp u]) (tmps : Array Value) (w : World) (g : Nat) (t : TypeId) (cs : Array Value) (fr : Nat × Nat) (d : TypeDesc)
  (hp : tmps.getD p undef = .pointer (some ⟨g, 0, none⟩)) (hg : w.heap[g]? = some (.cells cs t fr))
  (hu : P.underlying ty = some d) (hd : (match d with | .struct _ | .array _ _ => true | _ => false) = true) (hi : (P.info? ty).map (·.size) = some cs.size) :
  (results fn tmps).run P w = .ok (.tuple #[.agg cs, tmps.getD u undef]) w := by
 have hp' : tmps[p]?.getD undef = .pointer (some ⟨g, 0, none⟩) := by simpa using hp
 simp [results, h, hp', asAddr, run_loadVar_row w g t ty cs fr d hg hu hd hi]
def noFile : FileV := ⟨⟨#[]⟩, false, [], none, 0⟩
def GetSays (fs : List FileV) (p : ByteArray) (g : FileV) : Prop := if hasP (pathsOf fs) p = true then ∃ f, fs[rankP (pathsOf fs) p]? = some f ∧ f.path = p ∧ g.path = p ∧ g.dir = f.dir ∧ g.lines = f.lines else g = noFile
def GetRet (fs : List FileV) (p : ByteArray) (e : Ending) (w' : World) : Prop := ∃ g : FileV, e = .returned (.tuple #[g.val, .bool (hasP (pathsOf fs) p)]) ∧ GetSays fs p g ∧ TextsH w' g.la g.lines
theorem hasP_at {fs : List FileV} {p : ByteArray} (h : hasP (pathsOf fs) p = true) : ∃ f, fs[rankP (pathsOf fs) p]? = some f ∧ f.path = p := by
 unfold hasP at h
 rw [decide_eq_true_eq] at h
 generalize rankP (pathsOf fs) p = k at h ⊢
 unfold pathsOf at h
 rw [List.getElem?_map] at h
 obtain ⟨f, h1, h2⟩ := Option.map_eq_some_iff.1 h
 exact ⟨f, h1, h2⟩
set_option maxHeartbeats 8000000 in
theorem tree_Get (a : Option Addr) (c : Nat) (fs : List FileV) (p : ByteArray) (w : World) (h : FilesH w a fs) (hf : FsOk fs) (hp : p.size < 4294967281) (hm : HasM w) :
  Calls Tryz.prog 39 #[.agg #[.slice a fs.length c], .string p] w fun e w' => GetRet fs p e w' ∧ Below w.heap.size w w' := by
 obtain ⟨W, hW⟩ : ∃ W, W = (w.alloc (.cells #[.slice a fs.length c] 27)).alloc (.cells #[.string ⟨#[]⟩, .bool false, .slice none 0 0] 56) := ⟨_, rfl⟩
 have hA : Below w.heap.size w W := by rw [hW]; exact belowTrans (belowAlloc _ _) (belowAlloc _ _)
 have b1 : W.heap[w.heap.size]? = some (.cells #[.slice a fs.length c] 27 (0, 0)) := by
  rw [hW, Below.heap_alloc _ _ _ (by simp)]
  exact (MapKept.heap_alloc w _).1
 have b2 : W.heap[w.heap.size + 1]? = some (.cells #[.string ⟨#[]⟩, .bool false, .slice none 0 0] 56 (0, 0)) := by
  rw [hW, show w.heap.size + 1 = (w.alloc (.cells #[.slice a fs.length c] 27)).heap.size by simp]
  exact (MapKept.heap_alloc _ _).1
 have hz : W.heap.size = w.heap.size + 2 := by rw [hW]; simp
 have q0 : W.cell? ⟨w.heap.size, 0, none⟩ = some (.slice a fs.length c) := by simp [World.cell?, b1]
 have hpl := tree_place a c fs p W (h.below hA) hf hp (hm.below hA)
 have hat := @hasP_at fs p
 unfold GetRet GetSays
 generalize rankP (pathsOf fs) p = rk at hpl hat ⊢
 generalize hasP (pathsOf fs) p = is at hpl hat ⊢
 cases is with
 | false =>
  have hpost : ∀ e w', (e = Ending.returned (.tuple #[noFile.val, .bool false]) ∧ Below w.heap.size w w') → ((∃ g : FileV, e = .returned (.tuple #[g.val, .bool false]) ∧ (if false = true then ∃ f, fs[rk]? = some f ∧ f.path = p ∧ g.path = p ∧ g.dir = f.dir ∧ g.lines = f.lines else g = noFile) ∧ TextsH w' g.la g.lines) ∧ Below w.heap.size w w') := fun e w' ⟨h1, h2⟩ => ⟨⟨noFile, h1, by rw [if_neg (by simp)], .inl rfl⟩, h2⟩
  refine Calls.mono ?_ hpost
  clear hpost hat
  go_enter Tryz.func39, Tryz.ntmps39
  go_wp2_with fail
  simp only [← hW]
  refine hpl.mono ?_
  rintro e w2 ⟨rfl, hb2⟩
  have c2 := (hb2.block (w.heap.size + 1) (by omega)).trans b2
  have g0 : w2.cell? ⟨w.heap.size + 1, 0, none⟩ = some (.string ⟨#[]⟩) := by simp [World.cell?, c2]
  have g1 : w2.cell? ⟨w.heap.size + 1, 1, none⟩ = some (.bool false) := by simp [World.cell?, c2]
  have g2 : w2.cell? ⟨w.heap.size + 1, 2, none⟩ = some (.slice none 0 0) := by simp [World.cell?, c2]
  have f2 : ∀ k, w2.frozen? ⟨w.heap.size + 1, k, none⟩ = false := fun k => frozen_of_row w2 _ k _ _ c2
  have hB2 := belowTrans hA hb2
  clear hpl q0
  go_wp2
  have hfin := setCell_block (.slice none 0 0) (setCell_block (i := 1) (.bool false) (setCell_block (i := 0) (.string ⟨#[]⟩) c2)) (i := 2)
  have hall : Below w.heap.size w (((w2.setCell ⟨w.heap.size + 1, 0, none⟩ (.string ⟨#[]⟩)).setCell ⟨w.heap.size + 1, 1, none⟩ (.bool false)).setCell ⟨w.heap.size + 1, 2, none⟩ (.slice none 0 0)) :=
   ((hB2.setCell (by show _ ≤ w.heap.size + 1; omega) _).setCell (by show _ ≤ w.heap.size + 1; omega) _).setCell (by show _ ≤ w.heap.size + 1; omega) _
  generalize ((w2.setCell ⟨w.heap.size + 1, 0, none⟩ (.string ⟨#[]⟩)).setCell ⟨w.heap.size + 1, 1, none⟩ (.bool false)).setCell ⟨w.heap.size + 1, 2, none⟩ (.slice none 0 0) = wf at hfin hall ⊢
  refine bodyPost_ret_by (results_cell_row_tmp (p := 4) (u := 5) rfl _ _ (w.heap.size + 1) _ _ _ _ ?hp hfin Tryz.underlying56 rfl (by kernel_rfl)) rfl ⟨rfl, hall⟩
  case hp => rfl
 | true =>
  obtain ⟨f, hrk, rfl⟩ := hat rfl
  have hlt : rk < fs.length := (List.getElem?_eq_some_iff.1 hrk).1
  obtain ⟨b, o, rfl, hN⟩ : ∃ b o, a = some ⟨b, o, none⟩ ∧ FilesAt w b o fs := h.resolve_left (by omega)
  have hpost : ∀ e w', ((∃ la lc, e = Ending.returned (.tuple #[FileV.val ⟨f.path, f.dir, f.lines, la, lc⟩, .bool true]) ∧ TextsH w' la f.lines) ∧ Below w.heap.size w w') → ((∃ g : FileV, e = .returned (.tuple #[g.val, .bool true]) ∧ (if true = true then ∃ f', fs[rk]? = some f' ∧ f'.path = f.path ∧ g.path = f.path ∧ g.dir = f'.dir ∧ g.lines = f'.lines else g = noFile) ∧ TextsH w' g.la g.lines) ∧ Below w.heap.size w w') := fun e w' ⟨⟨la, lc, h1, h2⟩, h3⟩ => ⟨⟨_, h1, by rw [if_pos rfl]; exact ⟨f, hrk, rfl, rfl, rfl, rfl⟩, h2⟩, h3⟩
  refine Calls.mono ?_ hpost
  have HP : Hid (fs[rk]? = some f) := hrk
  clear hpost hat hrk
  have hr1 : (rk : Int) < (fs.length : Int) := by omega
  have hr2 : ¬ (rk : Int) < 0 := by omega
  have hr3 : (0 : Int) ≤ (rk : Int) := by omega
  go_enter Tryz.func39, Tryz.ntmps39
  go_wp2_with fail
  simp only [← hW]
  refine hpl.mono ?_
  rintro e w2 ⟨rfl, hb2⟩
  have hB2 := belowTrans hA hb2
  have c1 := (hb2.block w.heap.size (by omega)).trans b1
  have c2 := (hb2.block (w.heap.size + 1) (by omega)).trans b2
  have hs2 := hb2.size
  have e0 : w2.cell? ⟨w.heap.size, 0, none⟩ = some (.slice (some ⟨b, o, none⟩) fs.length c) := by simp [World.cell?, c1]
  have hN2 := hN.below hB2
  obtain ⟨p0, p1, p2⟩ := hN2.cell rk f HP.out
  have hsub := hN2.sub rk f HP.out
  have hown := tree_own f w2 hsub.1 (hf.lines f (List.mem_of_getElem? HP.out))
  unfold FileV.val at hown
  clear hpl q0
  go_wp2_with fail
  refine hown.mono ?_
  rintro e w3 ⟨⟨la, lc, rfl, hla⟩, hb3⟩
  have c3 := (hb3.block (w.heap.size + 1) (by omega)).trans c2
  have hB3 := belowTrans hB2 hb3
  have g0 : w3.cell? ⟨w.heap.size + 1, 0, none⟩ = some (.string ⟨#[]⟩) := by simp [World.cell?, c3]
  have g1 : w3.cell? ⟨w.heap.size + 1, 1, none⟩ = some (.bool false) := by simp [World.cell?, c3]
  have g2 : w3.cell? ⟨w.heap.size + 1, 2, none⟩ = some (.slice none 0 0) := by simp [World.cell?, c3]
  have f2 : ∀ k, w3.frozen? ⟨w.heap.size + 1, k, none⟩ = false := fun k => frozen_of_row w3 _ k _ _ c3
  clear hown p0 p1 p2 e0
  have hk := textsH_own (ownsRow_setCell_other (ownsRow_setCell_other (ownsRow_setCell_other hla (a := ⟨w.heap.size + 1, 0, none⟩) (row_other hla c3 (by decide)) (.string f.path)) (a := ⟨w.heap.size + 1, 1, none⟩) (row_other hla c3 (by decide)) (.bool f.dir)) (a := ⟨w.heap.size + 1, 2, none⟩) (row_other hla c3 (by decide)) (.slice la f.lines.length lc))
  have HLA : Hid _ := hk
  clear hla hsub hk
  go_wp2
  have hfin := setCell_block (.slice la f.lines.length lc) (setCell_block (i := 1) (.bool f.dir) (setCell_block (i := 0) (.string f.path) c3)) (i := 2)
  have hall : Below w.heap.size w (((w3.setCell ⟨w.heap.size + 1, 0, none⟩ (.string f.path)).setCell ⟨w.heap.size + 1, 1, none⟩ (.bool f.dir)).setCell ⟨w.heap.size + 1, 2, none⟩ (.slice la f.lines.length lc)) :=
   ((hB3.setCell (by show _ ≤ w.heap.size + 1; omega) _).setCell (by show _ ≤ w.heap.size + 1; omega) _).setCell (by show _ ≤ w.heap.size + 1; omega) _
  refine bodyPost_ret_by (results_cell_row_tmp (p := 4) (u := 5) rfl _ _ (w.heap.size + 1) _ _ _ _ ?hp2 hfin Tryz.underlying56 rfl (by kernel_rfl)) rfl ⟨⟨la, lc, rfl, ?_⟩, hall⟩
  case hp2 => rfl
  exact HLA.out
end Go.Proofs.W
namespace Go.Proofs.W
open Go Go.Proofs Go.RowKit Go.Op Go.Sort
open Go.Proofs.Np (joinAt cutAt cutB joinB bytes bytes_back splitS joinS)
set_option maxRecDepth 1000000
theorem joinAt_dropLast (c : UInt8) : ∀ l : List (List UInt8), (joinAt c l.dropLast).length ≤ (joinAt c l).length
 | [] => Nat.le_refl _
 | [x] => Nat.zero_le _
 | [x, y] => by simp [joinAt]
 | x :: y :: z :: r => by
  have ih := joinAt_dropLast c (y :: z :: r)
  rw [List.dropLast_cons_of_ne_nil (by simp)]
  cases hd : (y :: z :: r).dropLast with
  | nil => simp at hd
  | cons u us =>
   rw [hd] at ih
   unfold joinAt
   simp only [List.length_append, List.length_cons]
   omega
theorem joinB_split (p : ByteArray) : (joinB (splitP p)).size ≤ p.size := by
 unfold splitP splitS
 split
 ·unfold joinB cutB
  rw [List.map_map]
  have hid : ((fun b : ByteArray => b.data.toList) ∘ Np.bytes) = (id : List UInt8 → List UInt8) := funext fun l => bytes_back l
  rw [hid, List.map_id, join_cut, Np.bytes_inj rfl]
  exact Nat.le_refl _
 ·exact Nat.zero_le _
theorem joinB_dropLast (l : List ByteArray) : (joinB l.dropLast).size ≤ (joinB l).size := by
 unfold joinB
 have h := joinAt_dropLast 47 (l.map (·.data.toList))
 rw [← List.map_dropLast] at h
 simpa [Np.bytes, ByteArray.size] using h
def dirP (p : ByteArray) : ByteArray := joinS pathR (splitP p).dropLast
theorem dirP_size (p : ByteArray) : (dirP p).size ≤ p.size := by
 unfold dirP joinS
 split
 ·exact Nat.le_trans (joinB_dropLast _) (joinB_split p)
 ·exact Nat.zero_le _
set_option maxHeartbeats 4000000 in
theorem path_Dir (p : ByteArray) (w : World) (hp : p.size < 4294967281) (hm : HasM w) :
  Calls Tryz.prog 72 #[.string p] w fun e w' => e = .returned (.string (dirP p)) ∧ Below w.heap.size w w' := by
 have hs := path_Split p w hp hm
 have hz1 : (splitP p).length ≤ 16 := by
  unfold splitP splitS
  split
  ·rename_i h
   unfold pathR at h
   simp only [Bool.and_eq_true, decide_eq_true_eq] at h
   omega
  ·simp
 have hj : ∀ v W, HasM W → TextSlC W v (splitP p).dropLast → Calls Tryz.prog 126 #[v] W fun e w' => e = .returned (.string (dirP p)) ∧ Below W.heap.size W w' := fun v W hm h => path_Join v _ W h (by simp; omega) (Nat.lt_of_le_of_lt (Nat.le_trans (joinB_dropLast _) (joinB_split p)) hp) hm
 have HJ : Hid _ := hj
 generalize dirP p = q at HJ ⊢
 clear hj
 go_enter Tryz.func72, Tryz.ntmps72
 go_wp2_with fail
 refine hs.mono ?_
 rintro e w1 ⟨⟨v, rfl, ht⟩, hb1⟩
 change TextNew w.heap.size w1 v (splitP p) at ht
 rcases ht with ⟨h1, rfl⟩ | ⟨b, c, rfl, h1, h2, h3⟩
 ·have hcall := HJ.out (.slice none 0 0) w1 (hm.below hb1) (.inl ⟨by rw [h1]; rfl, _, _, rfl⟩)
  clear HJ hs
  go_wp2_with (go_at_call 126; refine hcall.mono ?_; rintro e w3 ⟨rfl, hb3⟩)
  go_ret
  exact ⟨rfl, belowTrans hb1 hb3⟩
 ·by_cases h0 : splitP p = []
  ·rw [h0] at h2 h3 ⊢
   have hcall := HJ.out (.slice (some ⟨b, 0, none⟩) 0 c) w1 (hm.below hb1) (.inl ⟨by rw [h0]; rfl, _, _, rfl⟩)
   clear HJ hs
   go_wp2_with (go_at_call 126; refine hcall.mono ?_; rintro e w3 ⟨rfl, hb3⟩)
   go_ret
   exact ⟨rfl, belowTrans hb1 hb3⟩
  ·obtain ⟨n, hn⟩ : ∃ n, (splitP p).length = n + 1 := ⟨(splitP p).length - 1, by have := List.length_pos_iff.2 h0; omega⟩
   have hd : (splitP p).dropLast.length = n := by rw [List.length_dropLast, hn]; rfl
   have hta : TextsAt w1 b 0 (splitP p).dropLast := ⟨h2.lt, fun j x hj => h2.cell j x (by
    rw [List.getElem?_dropLast] at hj
    split at hj
    ·exact hj
    ·cases hj)⟩
   have hcall := HJ.out (.slice (some ⟨b, 0, none⟩) n c) w1 (hm.below hb1) (.inr ⟨b, 0, c, by rw [hd], hta, by omega⟩)
   rw [hn] at h3 ⊢
   have hc1 : n ≤ c := by omega
   have hw : wrap64 (n : Int) = (n : Int) := by unfold wrap64; omega
   have hmx : max (n : Int) 0 = (n : Int) := by omega
   have hc3 : ¬ (n : Int) < 0 := by omega
   have hc4 : (0 : Int) ≤ (n : Int) := by omega
   have hc5 : (n : Int) ≤ (c : Int) := by omega
   clear HJ hs hta h2 hd hn h0
   go_wp2_with (go_at_call 126; refine hcall.mono ?_; rintro e w3 ⟨rfl, hb3⟩)
   go_ret
   exact ⟨rfl, belowTrans hb1 hb3⟩
end Go.Proofs.W
namespace Go.Proofs.W
open Go Go.Proofs Go.RowKit Go.Op Go.Sort
set_option maxRecDepth 1000000
def isDirAt (fs : List FileV) (p : ByteArray) : Bool := hasP (pathsOf fs) p && (match fs[rankP (pathsOf fs) p]? with
 | some f => f.dir
 | none => false)
def dirIs (fs : List FileV) (p : ByteArray) : Bool := p.toList.isEmpty || isDirAt fs p
theorem getSays_dir {fs : List FileV} {p : ByteArray} {g : FileV} (h : GetSays fs p g) : isDirAt fs p = (hasP (pathsOf fs) p && g.dir) ∧ (hasP (pathsOf fs) p = false → g.dir = false) := by
 unfold GetSays at h
 unfold isDirAt
 cases hh : hasP (pathsOf fs) p with
 | false =>
  rw [hh, if_neg (by simp)] at h
  subst h
  exact ⟨rfl, fun _ => rfl⟩
 | true =>
  rw [hh, if_pos rfl] at h
  obtain ⟨f, h1, _, _, h2, _⟩ := h
  rw [h1, h2]
  exact ⟨rfl, fun e => by cases e⟩
set_option maxHeartbeats 8000000 in
theorem tree_dir (a : Option Addr) (c : Nat) (fs : List FileV) (p : ByteArray) (w : World) (h : FilesH w a fs) (hf : FsOk fs) (hp : p.size < 4294967281) (hm : HasM w) :
  Calls Tryz.prog 71 #[.agg #[.slice a fs.length c], .string p] w fun e w' => e = .returned (.bool (dirIs fs p)) ∧ Below w.heap.size w w' := by
 have hA := belowAlloc w (.cells #[.slice a fs.length c] 27)
 have q0 : (w.alloc (.cells #[.slice a fs.length c] 27)).cell? ⟨w.heap.size, 0, none⟩ = some (.slice a fs.length c) := by rw [cell_newBlock]; rfl
 have hg := tree_Get a c fs p _ (h.below hA) hf hp (hm.below hA)
 have HG : Hid _ := hg
 clear hg
 unfold dirIs
 generalize hemp : p.toList.isEmpty = em
 go_enter Tryz.func71, Tryz.ntmps71
 go_wp2_with fail
 refine Calls.mono HG.out ?_
 rintro e w2 ⟨⟨g, rfl, hgs, _⟩, hb2⟩
 obtain ⟨hd, hd0⟩ := getSays_dir hgs
 clear hgs HG
 have HD : Hid (isDirAt fs p = (hasP (pathsOf fs) p && g.dir)) := hd
 clear hd hd0
 have hB2 := belowTrans hA hb2
 generalize hasP (pathsOf fs) p = is at HD ⊢
 unfold FileV.val
 have hA3 := belowAlloc w2 (.cells #[.string g.path, .bool g.dir, .slice g.la g.lines.length g.lc] 56)
 have q1 : (w2.alloc (.cells #[.string g.path, .bool g.dir, .slice g.la g.lines.length g.lc] 56)).cell? ⟨w2.heap.size, 1, none⟩ = some (.bool g.dir) := by rw [cell_newBlock]; rfl
 have hB3 := belowTrans hB2 hA3
 cases em <;> cases is
 all_goals
  go_wp2
  go_ret
  exact ⟨by rw [HD.out]; simp, hB3⟩
end Go.Proofs.W
