/- A PART OF THE PROOF THAT SAVETEXTS HOLDS FOR EVERY INPUT OF BULK AT MOST 1048576. No condition beyond the given statement. This part: MarkRow. -/
import Derived.Lib.AppendStr
import Derived.Lib.FrozenHead
import Derived.Below
import Derived.WalkKit
import Derived.Test.YtciahohaonhdgaaGreatDoorWCode
namespace Go.Proofs.W
open Go Go.Proofs Go.RowKit Go.Lib
set_option maxRecDepth 100000
def ownsM (w : World) (base : Nat) (e : TypeId) (v : Value) (xs : List Value) : Prop :=
 (v = .slice none 0 0 ∧ xs = []) ∨ ∃ g cap cur fz, v = .slice (some ⟨g, 0, none⟩) xs.length cap ∧ base ≤ g ∧ w.heap[g]? = some (.cells cur e fz) ∧ (∀ i, i < cur.size → i < fz.1 ∨ fz.2 ≤ i) ∧ xs.length ≤ cap ∧ cap ≤ maxLen ∧ cur.size = cap ∧ cur.toList.take xs.length = xs
theorem ownsM.of {w : World} {base : Nat} {e : TypeId} {v : Value} {n : Nat} {xs : List Value} (h : w.ownsRow base e 1 v n xs) : ownsM w base e v xs := by
 have hl : xs.length = n := by simpa using h.1
 rcases h.2 with ⟨rfl, h0⟩ | ⟨g, cap, cur, rfl, hg, hh, hc, hm, hs, ht⟩
 ·exact .inl ⟨rfl, List.eq_nil_of_length_eq_zero (by omega)⟩
 ·exact .inr ⟨g, cap, cur, (0, 0), by rw [hl], hg, hh, fun i _ => .inr (Nat.zero_le _), by omega, hm, by simpa using hs, by rw [hl]; simpa using ht⟩
theorem ownsM.below {w w' : World} {base : Nat} {e : TypeId} {v : Value} {xs : List Value} (h : ownsM w base e v xs) (hb : RowKit.Below w.heap.size w w') : ownsM w' base e v xs := by
 rcases h with h | ⟨g, cap, cur, fz, hv, hg, hh, r⟩
 ·exact .inl h
 ·exact .inr ⟨g, cap, cur, fz, hv, hg, (hb.block g (Array.getElem?_eq_some_iff.1 hh).1).trans hh, r⟩
theorem ownsM.shape {w : World} {base : Nat} {e : TypeId} {v : Value} {xs : List Value} (h : ownsM w base e v xs) : ∃ a c, v = .slice a xs.length c := by
 rcases h with ⟨rfl, rfl⟩ | ⟨g, cap, cur, fz, rfl, _⟩
 ·exact ⟨_, _, rfl⟩
 ·exact ⟨_, _, rfl⟩
theorem run_storeCells_atM (P : Program) (g o : Nat) (t : TypeId) (fz : Nat × Nat) : ∀ (vs : List Value) (i : Nat) (cur : Array Value) (w : World), w.heap[g]? = some (.cells cur t fz) → (∀ j, j < cur.size → j < fz.1 ∨ fz.2 ≤ j) → o + i + vs.length ≤ cur.size → (∀ v ∈ vs, v.oneCell' = true) →
  (storeCells ⟨g, o, none⟩ vs i).run P w = .ok () (w.setRow g (cur.toList.take (o + i) ++ vs ++ cur.toList.drop (o + i + vs.length)).toArray)
 | [], i, cur, w, hg, _, _, _ => by
  simp only [storeCells, List.append_nil, List.length_nil, Nat.add_zero, List.take_append_drop, Array.toArray_toList]
  rw [setRow_self w g cur t fz hg]
  rfl
 | v :: rest, i, cur, w, hg, hfz, hl, h1 => by
  have hi : o + i < cur.size := by simp at hl; omega
  have hadd : (⟨g, o, none⟩ : Addr).add i = ⟨g, o + i, none⟩ := by unfold Addr.add; split <;> simp_all
  have hcell : w.cell? ⟨g, o + i, none⟩ = some cur[o + i] := by simp [World.cell?, hg, hi]
  have hfro : w.frozen? ⟨g, o + i, none⟩ = false := by
   obtain ⟨lo, hi'⟩ := fz
   simp only [World.frozen?, hg, Bool.and_eq_false_iff, decide_eq_false_iff_not]
   have := hfz (o + i) hi
   simp only at this
   omega
  have hst : (store ((⟨g, o, none⟩ : Addr).add i) v).run P w = .ok () (w.setRow g (cur.setIfInBounds (o + i) v)) := by
   rw [hadd, run_store P w _ v _ (h1 v (by simp)), hcell]
   simp [hfro, setCell_eq_setRow w g (o + i) cur t fz v hg]
  have ih := run_storeCells_atM P g o t fz rest (i + 1) (cur.setIfInBounds (o + i) v) (w.setRow g (cur.setIfInBounds (o + i) v)) (setRow_heap w g cur _ t _ hg) (by simpa using hfz) (by simp at hl ⊢; omega) (fun x hx => h1 x (by simp [hx]))
  simp only [storeCells, Sem.run_bind, hst, Result.andThen_ok, ih, setRow_setRow]
  congr 3
  have e := list_seg_step cur.toList (o + i) v rest (by simp at hl ⊢; omega)
  simpa [Array.toList_setIfInBounds, Nat.add_assoc] using e
theorem run_append_M {P : Program} (w : World) (base : Nat) (t u ty e : TypeId) (i : TypeInfo) (ht : P.underlying t = some (.slice e)) (hu : P.underlying u = some .string) (hi : P.info? e = some i) (hz : i.zero = some (.int .u8 0))
  (hsize : i.size = 1) (hby : i.bytes = 1) (v : Value) (xs : List Value) (hown : ownsM w base e v xs) (s : ByteArray)
  (h63 : xs.length + s.size ≤ maxLen) (hbytes : xs.length + s.size ≤ 140737488355328) (hbase : base ≤ w.heap.size) :
  ∃ v' w', (Builtin.append_ #[t, u] ty #[v, .string s]).run P w = .ok v' w' ∧ ownsM w' base e v' (xs ++ strCells s) ∧ w.grownBy w' v.ownBlock := by
 rcases hown with ⟨rfl, rfl⟩ | ⟨g, cap, cur, fz, rfl, hbg, hg, hfz, hnc, hcm, hcs, htake⟩
 ·obtain ⟨v', w', h1, h2, h3, _⟩ := run_append_own_string (P := P) w base t u ty e i ht hu hi hz hsize hby (.slice none 0 0) 0 [] (World.ownsRow_nil w base e 1) s (by simpa using h63) (by simpa using hbytes) hbase
  exact ⟨v', w', h1, ownsM.of h2, h3⟩
 ·by_cases hroom : xs.length + s.size ≤ cap
  ·have hf := run_firstCells_string (P := P) w 1 s
   have hst := run_storeCells_atM P g xs.length e fz (strCells s) 0 cur w hg hfz (by rw [strCells_length]; omega) (strCells_oneCell s)
   simp only [Nat.add_zero, strCells_length] at hst
   have hr : (Builtin.append_ #[t, u] ty #[.slice (some ⟨g, 0, none⟩) xs.length cap, .string s]).run P w = .ok (.slice (some ⟨g, 0, none⟩) (xs.length + s.size) cap) (w.setRow g (cur.toList.take xs.length ++ strCells s ++ cur.toList.drop (xs.length + s.size)).toArray) := by
    simp [Builtin.append_, run_underlying ht, run_underlying hu, sizeOf, typeInfo, hi, hsize, Builtin.lenOf, hroom, hf, Addr.add_lit, hst]
   have hlen : (xs ++ strCells s).length = xs.length + s.size := by rw [List.length_append, strCells_length]
   have hsz : (cur.toList.take xs.length ++ strCells s ++ cur.toList.drop (xs.length + s.size)).toArray.size = cur.size := by
    simp only [List.size_toArray, List.length_append, List.length_take, List.length_drop, Array.length_toList, strCells_length]
    omega
   refine ⟨_, _, hr, .inr ⟨g, cap, _, fz, by rw [hlen], hbg, setRow_heap w g cur _ e _ hg, by rw [hsz]; exact hfz, by rw [hlen]; exact hroom, hcm, by rw [hsz]; exact hcs, ?_⟩, ⟨rfl, rfl, rfl, by simp, fun k _ hk => setRow_other w g k _ (fun e => hk (by simp [Value.ownBlock, e]))⟩⟩
   rw [htake]
   exact List.take_left
  ·have holds : ∀ j u, xs[j]? = some u → w.cell? ((⟨g, 0, none⟩ : Addr).add j) = some u := fun j u hj => by
    rw [Addr.add_lit, Nat.zero_add]
    rw [← htake, List.getElem?_take] at hj
    split at hj
    ·rw [Array.getElem?_toList] at hj
     simp [World.cell?, hg, hj]
    ·cases hj
   have hr := run_append_grow_string (P := P) w t u ty e i (.int .u8 0) ht hu hi hz ⟨g, 0, none⟩ xs.length cap xs (by rw [hsize]; simp) holds s (by omega) (by unfold maxLen at h63; omega) (by rw [hby]; exact growslice_fits (by omega) (by omega))
   have hge := grownCap_ge w (xs.length + s.size) cap e
   have hcm2 : grownCap w (xs.length + s.size) cap e ≤ maxLen := grownCap_le_maxLen w (xs.length + s.size) cap e h63
   refine ⟨_, _, hr, .inr ⟨w.heap.size, _, _, (0, 0), by rw [List.length_append, strCells_length], hbase, heap_alloc_new w.drew _, fun i _ => .inr (Nat.zero_le _), by rw [List.length_append, strCells_length]; exact hge, hcm2, ?_, ?_⟩, ⟨rfl, rfl, rfl, by simp, fun k hk _ => heap_alloc_old w.drew _ hk⟩⟩
   ·have hz1 : (Value.int IntKind.u8 0).cells.size = 1 := rfl
    simp only [Array.size_append, List.size_toArray, size_zeroCells, hz1, strCells_length]
    omega
   ·simp only [Array.toList_append, List.append_assoc]
    rw [← List.append_assoc]
    exact List.take_left
theorem wpList_append_M {P : Program} (w : World) {ops : Array Oper} {rest : List Oper} {o : Oper} {a : Act} {Q : Exit → Act → World → Prop} (hgd : o.guard = none) (sl x : Operand) (t u : TypeId)
  (ho : o.op = .call { callee := .builtin .append, args := #[sl, x], argTypes := #[t, u] })
  (base : Nat) (e : TypeId) (i : TypeInfo) (ht : P.underlying t = some (.slice e)) (hu : P.underlying u = some .string) (hi : P.info? e = some i) (hz : i.zero = some (.int .u8 0))
  (hsize : i.size = 1) (hby : i.bytes = 1) (v : Value) (xs : List Value) (hs : a.eval sl = v) (hown : ownsM w base e v xs) (s : ByteArray) (hx : a.eval x = .string s)
  (h63 : xs.length + s.size ≤ maxLen) (hbytes : xs.length + s.size ≤ 140737488355328) (hbase : base ≤ w.heap.size)
  (h : ∀ v' w', ownsM w' base e v' (xs ++ strCells s) → w.grownBy w' v.ownBlock → wpList P ops Q rest (a.put o.dst v') w') : wpList P ops Q (o :: rest) a w := by
 refine wpList_plain hgd fun K hK => ?_
 obtain ⟨v', w', hr, h2, h3⟩ := run_append_M (P := P) w base t u o.type e i ht hu hi hz hsize hby v xs hown s h63 hbytes hbase
 unfold Oper.wp execOp
 simp only [ho, resolve, invoke, builtin, Sem.run_bind, Sem.run_pure, Result.andThen_ok, List.map_toArray, List.map_cons, List.map_nil, hs, hx, hr]
 exact hK _ _ (h v' w' h2 h3)
end Go.Proofs.W
namespace Go.Proofs.W
open Go Go.Proofs Go.RowKit Go.Lib
set_option maxRecDepth 1000000
def CV (v0 : Value) (s : ByteArray) (i : Nat) (v : Value) (_ : World) : Prop := match i with
 | 0 => v = v0
 | 1 => v = .string s
 | 2 => v = .string (ofL (textB s.data.toList))
 | _ => True
theorem CV.below {v0 : Value} {s : ByteArray} {W W' : World} (_ : Below W.heap.size W W') (j : Nat) (u : Value) (h : CV v0 s j u W) : CV v0 s j u W' := h
theorem strCells_ofL (l : List UInt8) : strCells (ofL l) = cellsB l := by
 unfold strCells cellsB ofL
 simp
theorem ownsM_text {w : World} {base : Nat} {v : Value} {l : List UInt8} (h : ownsM w base 5 v (cellsB l)) (hne : l ≠ []) : ∃ g c, v = .slice (some ⟨g, 0, none⟩) l.length c ∧ (Go.convert 99 9 (.slice (some ⟨g, 0, none⟩) l.length c)).run Tryz.prog w = .ok (.string (ofL l)) w := by
 rcases h with ⟨_, h0⟩ | ⟨g, cap, cur, fz, rfl, hg, hh, _, _, _, _, ht⟩
 ·have := congrArg List.length h0
  rw [cellsB_len] at this
  exact absurd (List.eq_nil_of_length_eq_zero this) hne
 ·refine ⟨g, cap, by rw [cellsB_len], ?_⟩
  exact run_convert_bytes_back (P := Tryz.prog) w 99 9 5 ⟨g, 0, none⟩ cap l Tryz.underlying99 Tryz.underlying5 Tryz.underlying9 (fun j hj => by
   rw [Addr.add_lit, Nat.zero_add]
   have h1 : (cellsB l)[j]? = some (.int .u8 (l[j].toNat : Int)) := by simp [cellsB, hj]
   rw [← ht, List.getElem?_take] at h1
   split at h1
   ·rw [Array.getElem?_toList] at h1
    simp [World.cell?, hh, h1]
   ·cases h1)
theorem ownsM_ne {w : World} {base B : Nat} {e e2 : TypeId} {v : Value} {xs : List Value} {cur : Array Value} {r : Nat × Nat} (h : ownsM w base e v xs) (hB : w.heap[B]? = some (.cells cur e2 r)) (hne : e ≠ e2) : v.ownBlock ≠ some B := by
 rcases h with ⟨rfl, _⟩ | ⟨g, cap, cur', fz, rfl, _, hh, _⟩
 ·simp [Value.ownBlock]
 ·intro e'
  have : g = B := by simpa [Value.ownBlock] using e'
  subst this
  rw [hB] at hh
  injection hh with hh
  injection hh with _ h2 _
  exact hne h2.symm
theorem ownsM_ge {w : World} {base : Nat} {e : TypeId} {v : Value} {xs : List Value} (h : ownsM w base e v xs) : ∀ k, v.ownBlock = some k → base ≤ k := by
 rcases h with ⟨rfl, _⟩ | ⟨g, cap, cur', fz, rfl, hg, _⟩
 ·intro k hk; simp [Value.ownBlock] at hk
 ·intro k hk
  have : g = k := by simpa [Value.ownBlock] using hk
  omega
theorem ownsM.setCell {w : World} {base : Nat} {e : TypeId} {v : Value} {xs : List Value} (h : ownsM w base e v xs) {a : Addr} (hn : v.ownBlock ≠ some a.block) (u : Value) : ownsM (w.setCell a u) base e v xs := by
 rcases h with h | ⟨g, cap, cur', fz, rfl, hg, hh, r⟩
 ·exact .inl h
 ·have hne : g ≠ a.block := fun e' => hn (by simp [Value.ownBlock, e'])
  exact .inr ⟨g, cap, cur', fz, rfl, hg, by rw [Below.heap_setCell _ _ _ _ hne]; exact hh, r⟩
set_option maxHeartbeats 4000000 in
theorem list_add (lo base B : Nat) (v : Value) (l : List UInt8) (s : ByteArray) (w : World) (hB : w.heap[B]? = some (.cells #[v] 99 (0, 0))) (ho : ownsM w base 5 v (cellsB l)) (hlo : lo ≤ base) (hloB : lo ≤ B) (hbw : base ≤ w.heap.size) (hbig : l.length + (textB s.data.toList).length ≤ 70368744177664) :
  Calls Tryz.prog 79 #[.string s, .pointer (some ⟨B, 0, none⟩)] w fun e w' => (e = .returned (.tuple #[]) ∧ ∃ v', w'.heap[B]? = some (.cells #[v'] 99 (0, 0)) ∧ ownsM w' base 5 v' (cellsB (l ++ textB s.data.toList))) ∧ w.heap.size ≤ w'.heap.size ∧ Below lo w w' := by
 obtain ⟨io, hio, hz0, hz1, hz2⟩ := info_byte
 have hlt := (Array.getElem?_eq_some_iff.1 hB).1
 have hsz : s.size ≤ 9223372036854775000 := by
  unfold textB at hbig
  rw [List.length_append, sizeL] at hbig
  omega
 have HBIG : Hid _ := hbig
 clear hbig
 go_enter Tryz.func79, Tryz.ntmps79
 go_wp2_with fail
 refine wp_region_gd 3 4 7 (by kernel_rfl) ?ok ?forced rfl (fun _ => CV v s) (fun W => Below w.heap.size w W) (belowDrew1 _) ?step ?fin
 case ok => kernel_rfl
 case forced => kernel_rfl
 case step =>
  intro i o hi ho L A W hLi hpre hF hJ hV
  have s0 : A.tmps[0]? = some (.string s) := hF.at (by kernel_rfl) rfl
  have s1 : A.tmps[1]? = some (.pointer (some ⟨B, 0, none⟩)) := hF.at (by kernel_rfl) rfl
  have d1 := (hJ.block B hlt).trans hB
  have c0 : W.cell? ⟨B, 0, none⟩ = some v := by simp [World.cell?, d1]
  have hWs := hJ.size
  match i, hi with
  | 0, _ =>
   cases ho
   refine ⟨wanted_none rfl, fun K hK => rg_val (v := v) ?_ (hK _ _ (fun j u _ => CV.below (Below.refl _ _) j u) rfl hJ)⟩
   simp [execOp, Act.eval, go_sem, s1, c0]
  | 1, _ =>
   cases ho
   refine ⟨wanted_none rfl, fun K hK => rg_val (v := .string s) ?_ (hK _ _ (fun j u _ => CV.below (Below.refl _ _) j u) rfl hJ)⟩
   simp [execOp, Act.eval, go_sem, s0]
  | 2, _ =>
   cases ho
   have sx := hF.slot (i := 1) rfl (by simp) (hV 1 (hpre ⟨1, .data⟩ (by simp) rfl))
   refine ⟨wanted_none rfl, fun K hK => rg_enter (f := 80) (args := #[.string s]) (w' := W) ?_ (code_Text s W hsz) ?_ ?_ ?_⟩
   ·simp [Act.eval, go_sem, sx]
   ·rintro v w'' ⟨e, hb⟩
    cases e
    exact hK _ _ (fun j u _ => CV.below hb j u) rfl (hJ.trans (hb.mono hWs))
   ·rintro chain w'' ⟨e, _⟩
    cases e
   ·rintro w'' ⟨e, _⟩
    cases e
 case fin =>
  intro A W hF hJ hV
  have e0 : A.tmps.getD 3 undef = v := hV 0 (by omega)
  have e2 : A.tmps.getD 5 undef = .string (ofL (textB s.data.toList)) := hV 2 (by omega)
  rw [hF.lit [3, 4, 5, 6] (by kernel_rfl)]
  simp only [relaid, List.foldl_cons, List.foldl_nil, e0, e2]
  generalize A.tmps.getD 4 undef = y4
  generalize A.tmps.getD 6 undef = y6
  simp only [List.setIfInBounds_toArray, List.set_cons_succ, List.set_cons_zero, List.drop_succ_cons]
  clear hV hF e0 e2
  have hoW := ho.below hJ
  have d1 := (hJ.block B hlt).trans hB
  have c0 : W.cell? ⟨B, 0, none⟩ = some v := by simp [World.cell?, d1]
  have hne := ownsM_ne hoW d1 (by decide)
  have hge := ownsM_ge hoW
  have HW := hJ.size
  have HJ : Hid _ := hJ
  clear ho hB hJ
  refine wpList_append_M W rfl (.tmp 3) (.tmp 5) 99 9 rfl base 5 io Tryz.underlying99 Tryz.underlying9 hio hz0 hz1 hz2 v (cellsB l) rfl hoW (ofL (textB s.data.toList)) rfl ?l63 ?lb ?bs ?_
  case l63 => unfold maxLen; rw [cellsB_len, ofL_size]; have := HBIG.out; omega
  case lb => rw [cellsB_len, ofL_size]; have := HBIG.out; omega
  case bs => omega
  intro v' w' hown hg
  obtain ⟨ta, tc, hv'⟩ := hown.shape
  generalize (cellsB l ++ strCells (ofL (textB s.data.toList))).length = nn at hv'
  subst hv'
  have d2 := (hg.block B (by omega) (fun e => hne e.symm)).trans d1
  have c1 : w'.cell? ⟨B, 0, none⟩ = some v := by simp [World.cell?, d2]
  have fz := frozen_of_row w' B 0 _ _ d2
  have hne' := ownsM_ne hown d2 (by decide)
  have HO : Hid (ownsM (w'.setCell ⟨B, 0, none⟩ (.slice ta nn tc)) base 5 (.slice ta nn tc) (cellsB (l ++ textB s.data.toList))) := by
   refine ownsM.setCell ?_ hne' _
   rw [strCells_ofL] at hown
   unfold cellsB at hown ⊢
   rw [List.map_append]
   exact hown
  have HD : Hid ((w'.setCell ⟨B, 0, none⟩ (.slice ta nn tc)).heap[B]? = some (.cells #[(.slice ta nn tc)] 99 (0, 0))) := setCell_block (i := 0) (.slice ta nn tc) d2
  have HZ : Hid (w.heap.size ≤ (w'.setCell ⟨B, 0, none⟩ (.slice ta nn tc)).heap.size) := by
   show _ ≤ _
   rw [setSize]
   exact Nat.le_trans HW hg.size
  have HBl : Hid (Below lo w (w'.setCell ⟨B, 0, none⟩ (.slice ta nn tc))) := by
   have h1 : Below lo w W := HJ.out.mono (by omega)
   have h2 : Below lo W w' := ⟨hg.os, hg.tape, hg.output, hg.size, fun k hk => hg.block k (by omega) (fun e => by have := hge k e.symm; omega)⟩
   exact (h1.trans h2).setCell (by show lo ≤ B; omega) _
  clear hown hg hoW hge hne hne' d1 d2 c0
  go_wp2
  go_end0
  exact ⟨⟨rfl, _, HD.out, HO.out⟩, HZ.out, HBl.out⟩
theorem bytes_of (w : World) (l : List UInt8) (hl : l.length ≤ 70368744177664) : ∃ c W, (Go.convert 9 99 (.string (ofL l))).run Tryz.prog w = .ok (.slice (some ⟨w.heap.size, 0, none⟩) l.length c) W ∧ ownsM W w.heap.size 5 (.slice (some ⟨w.heap.size, 0, none⟩) l.length c) (cellsB l) ∧ W.heap.size = w.heap.size + 1 ∧ Below w.heap.size w W := by
 have h := run_bytes_of_string (P := Tryz.prog) w 9 99 5 (ofL l) Tryz.underlying9 Tryz.underlying99 Tryz.underlying5
 rw [ofL_size] at h
 have hge := grownCap_ge w l.length 0 5
 have hle := grownCap_le_maxLen w l.length 0 5 (by unfold maxLen; omega)
 have hrow : (bytesRow (ofL l) (grownCap w l.length 0 5)).toList = cellsB l ++ List.replicate (grownCap w l.length 0 5 - l.length) (.int .u8 0) := by
  unfold bytesRow
  rw [ofL_size]
  simp [ofL, cellsB]
 have hsz : (bytesRow (ofL l) (grownCap w l.length 0 5)).size = grownCap w l.length 0 5 := by
  rw [← Array.length_toList, hrow, List.length_append, cellsB_len, List.length_replicate]
  omega
 refine ⟨_, _, h, .inr ⟨w.heap.size, grownCap w l.length 0 5, _, _, by rw [cellsB_len], Nat.le_refl _, heap_alloc_new w.drew _, fun i hi => .inl hi, by rw [cellsB_len]; exact hge, hle, hsz, ?_⟩, by simp, belowTrans (belowDrew1 w) (belowAlloc _ _)⟩
 rw [hrow]
 exact List.take_left
set_option maxHeartbeats 8000000 in
theorem code_List (a : Option Addr) (c : Nat) (xs : List ByteArray) (w : World) (h : TextsH w a xs) (hb : (listT xs).length ≤ 70368744177664) :
  Calls Tryz.prog 32 #[.slice a xs.length c] w fun e w' => e = .returned (.string (ofL (listT xs))) ∧ Below w.heap.size w w' := by
 have hxl : xs.length ≤ 70368744177664 := Nat.le_trans (listT_len xs) hb
 have HB : Hid _ := hb
 clear hb
 have hn := code_Num xs.length w (by omega)
 go_enter Tryz.func32, Tryz.ntmps32
 go_wp2_with fail
 refine hn.mono ?_
 rintro e w1 ⟨rfl, hb1⟩
 clear hn
 obtain ⟨cc, W, hcv, hoW, hzW, hbW⟩ := bytes_of w1 (numB xs.length) (by have := numB_len64 (n := xs.length) (by omega); omega)
 have HO : Hid _ := hoW
 have HBW : Hid _ := belowTrans hb1 hbW
 have HZW : Hid _ := hzW
 have HB1 : Hid _ := hb1
 clear hb1 hoW hbW hzW
 go_wp2
 have HS : Hid (w.heap.size ≤ w1.heap.size) := HB1.out.size
 have hdB : (W.alloc (.cells #[.slice (some ⟨w1.heap.size, 0, none⟩) (numB xs.length).length cc] 99)).heap[W.heap.size]? = _ := (MapKept.heap_alloc _ _).1
 have hoB := ownsM.below HO.out (belowAlloc W (.cells #[.slice (some ⟨w1.heap.size, 0, none⟩) (numB xs.length).length cc] 99))
 have hBB := belowTrans HBW.out (belowAlloc W (.cells #[.slice (some ⟨w1.heap.size, 0, none⟩) (numB xs.length).length cc] 99))
 have HDB : Hid _ := hdB
 have HOB : Hid _ := hoB
 have HBB : Hid _ := hBB
 have HSB : Hid ((W.alloc (.cells #[.slice (some ⟨w1.heap.size, 0, none⟩) (numB xs.length).length cc] 99)).heap.size = W.heap.size + 1) := by show _ = _; simp
 clear hdB hoB hBB HO
 generalize (W.alloc (.cells #[.slice (some ⟨w1.heap.size, 0, none⟩) (numB xs.length).length cc] 99)) = W2 at HDB HOB HBB HSB ⊢
 go_loopg [15] xs.length (fun kx s15 wr => ∃ i : Nat, s15 = .int .i64 i ∧ i ≤ xs.length ∧ xs.length - i ≤ kx ∧ Hid ((∃ v, wr.heap[W.heap.size]? = some (.cells #[v] 99 (0, 0)) ∧ ownsM wr w1.heap.size 5 v (cellsB (preT xs i))) ∧ W2.heap.size ≤ wr.heap.size ∧ Below w.heap.size w wr))
 case atStart => exact ⟨0, rfl, Nat.zero_le _, Nat.le_refl _, ⟨_, HDB.out, by rw [preT_zero]; exact HOB.out⟩, Nat.le_refl _, HBB.out⟩
 case round =>
  obtain ⟨i, rfl, hin, hkx, REL⟩ := hrel
  by_cases hlt : i < xs.length
  ·obtain ⟨b, o, rfl, hN⟩ : ∃ b o, a = some ⟨b, o, none⟩ ∧ TextsAt w b o xs := h.resolve_left (by omega)
   obtain ⟨x, hx⟩ : ∃ x, xs[i]? = some x := ⟨_, List.getElem?_eq_getElem hlt⟩
   obtain ⟨⟨v, hvB, hvo⟩, hvs, hvb⟩ := REL.out
   have e0 := (hN.below hvb).cell i x hx
   have hiz : (i : Int) < (xs.length : Int) := by omega
   obtain ⟨q1, q2⟩ := preT_item hx
   have hq := HB.out
   have hzz := HSB.out
   have hzw := HZW.out
   have hss := HS.out
   have hR := list_add w.heap.size w1.heap.size W.heap.size v (preT xs i) x wr hvB hvo (by omega) (by omega) (by omega) (by unfold dl at q1; omega)
   have HE : Hid (preT xs i ++ textB x.data.toList = preT xs (i + 1)) := (preT_succ hx).symm
   have HR : Hid _ := hR
   clear hR q1 q2 hq hN hx hvB hvo hvs hvb hzz hzw hss
   go_wp2_with fail
   refine Calls.mono HR.out ?_
   rintro e w2 ⟨⟨rfl, v', k1, k2⟩, k3, k4⟩
   have HN : Hid ((∃ v, w2.heap[W.heap.size]? = some (.cells #[v] 99 (0, 0)) ∧ ownsM w2 w1.heap.size 5 v (cellsB (preT xs (i + 1)))) ∧ W2.heap.size ≤ w2.heap.size ∧ Below w.heap.size w w2) := ⟨⟨v', k1, by rw [← HE.out]; exact k2⟩, Nat.le_trans REL.out.2.1 k3, REL.out.2.2.trans k4⟩
   clear HR e0 REL k1 k2 k3 k4
   go_wp2
   go_roundg (xs.length - (i + 1))
   case measure => omega
   case rel => exact ⟨i + 1, by go_num, by omega, Nat.le_refl _, HN.out⟩
  ·have hiz : ¬ (i : Int) < (xs.length : Int) := by omega
   have hi : i = xs.length := by omega
   subst hi
   obtain ⟨⟨v, hvB, hvo⟩, hvs, hvb⟩ := REL.out
   rw [preT_all] at hvo
   have hne : listT xs ≠ [] := fun e => by
    unfold listT listB at e
    rw [List.length_map] at e
    exact numB_ne xs.length (List.append_eq_nil_iff.1 e).1
   obtain ⟨g, tc, rfl, hcv⟩ := ownsM_text hvo hne
   have c0 : wr.cell? ⟨W.heap.size, 0, none⟩ = some (.slice (some ⟨g, 0, none⟩) (listT xs).length tc) := by simp [World.cell?, hvB]
   have HF : Hid _ := hvb
   clear hvB hvo hvs hvb REL hne
   go_wp2
   go_ret
   exact ⟨rfl, HF.out⟩
end Go.Proofs.W
