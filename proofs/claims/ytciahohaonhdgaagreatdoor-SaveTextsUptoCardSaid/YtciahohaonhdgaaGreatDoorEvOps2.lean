/- A PART OF THE PROOF THAT SAVETEXTS HOLDS FOR EVERY INPUT OF BULK AT MOST 1048576. No condition beyond the given statement. This part: EvOps2. -/
import Derived.Test.YtciahohaonhdgaaGreatDoorEvCore
namespace Go.Ev
open Go
section
variable {P : Program} {C : Ctx} {w : World} {O B : Nat → Prop} {M : MapB} {H : Heap}
def At (w : World) (blk o : Nat) (vs : List Value) : Prop := ∀ j (h : j < vs.length), w.cell? ⟨blk, o + j, none⟩ = some vs[j]
theorem At.drop {blk o : Nat} {vs : List Value} (h : At w blk o vs) (n : Nat) : At w blk (o + n) (vs.drop n) := fun j hj => by
 rw [List.getElem_drop, Nat.add_assoc]
 exact h (n + j) (by simp at hj; omega)
theorem add_lit (b o n : Nat) : (⟨b, o, none⟩ : Addr).add n = ⟨b, o + n, none⟩ := by
 unfold Addr.add
 split
 ·rename_i h; subst h; rfl
 ·rfl
theorem run_loadCellsFrom_at {blk o : Nat} : ∀ (n i : Nat) (vs : List Value) (acc : Array Value), At w blk (o + i) vs → n ≤ vs.length →
  (loadCellsFrom ⟨blk, o, none⟩ i n acc).run P w = .ok (acc ++ (vs.take n).toArray) w
 | 0, i, vs, acc, _, _ => by simp [loadCellsFrom]
 | n + 1, i, vs, acc, h, hn => by
  cases vs with
  | nil => simp at hn
  | cons v r =>
   have h0 := h 0 (by simp)
   simp only [Nat.add_zero, List.getElem_cons_zero] at h0
   have hr : At w blk (o + (i + 1)) r := fun j hj => by
    have := h (j + 1) (by simp; omega)
    simpa [Nat.add_assoc, Nat.add_comm 1 j] using this
   have ih := run_loadCellsFrom_at n (i + 1) r (acc.push v) hr (by simpa using hn)
   simp only [loadCellsFrom, add_lit, Sem.run_bind, run_load, h0, Result.andThen_ok, ih]
   simp
theorem run_loadCells_at {blk o n : Nat} {vs : List Value} (h : At w blk o vs) (hn : n ≤ vs.length) : (loadCells ⟨blk, o, none⟩ n).run P w = .ok (vs.take n).toArray w := by
 have := run_loadCellsFrom_at (P := P) n 0 vs #[] (by simpa using h) hn
 simpa [loadCells] using this
theorem run_isAgg {t : TypeId} {i : TI} (ht : P.underlying t = some i.desc) : (isAgg t).run P w = .ok i.agg w := by
 unfold isAgg
 simp only [Sem.run_bind, run_underlying ht, Result.andThen_ok]
 unfold TI.agg
 split <;> simp_all
theorem run_typeInfo {t : TypeId} {i : TypeInfo} (hi : P.info? t = some i) : (typeInfo t).run P w = .ok i w := by
 simp [typeInfo, hi]
theorem run_sizeOf {t : TypeId} {i : TypeInfo} (hi : P.info? t = some i) : (sizeOf t).run P w = .ok i.size w := by
 simp [sizeOf, run_typeInfo hi]
theorem run_zeroValue {t : TypeId} {i : TypeInfo} {z : Value} (hi : P.info? t = some i) (hz : i.zero = some z) : (zeroValue t).run P w = .ok z w := by
 simp [zeroValue, run_typeInfo hi, hz]
theorem readAt_sound {i : TI} {cs : List AV} {vs : List Value} {v : AV} (hc : CR C w O B M cs vs) (h : readAt i cs = some v) :
  (i.agg = true ∧ i.info.size ≤ vs.length ∧ VR C w O B M v (.agg (vs.take i.info.size).toArray) ∧ v = .agg (cs.take i.info.size) ∧ i.info.size ≤ cs.length) ∨ (i.agg = false ∧ ∃ h : 0 < vs.length, VR C w O B M v vs[0] ∧ v.isCell = true ∧ i.info.size = 1 ∧ ∃ h' : 0 < cs.length, v = cs[0]) := by
 unfold readAt at h
 cases ha : i.agg with
 | true =>
  rw [ha] at h
  simp only [cond_true, Option.bind_eq_some_iff] at h
  obtain ⟨u, hu, h⟩ := h
  obtain rfl := Option.some.inj h
  have hle : i.info.size ≤ cs.length := by simpa using chk_some hu
  exact .inl ⟨rfl, by rw [hc.len]; exact hle, .ofAgg (hc.take _), rfl, hle⟩
 | false =>
  rw [ha] at h
  simp only [cond_false, Option.bind_eq_some_iff] at h
  obtain ⟨_, h1, h⟩ := h
  have h1 := (beq_iff _ _).1 (chk_some h1)
  cases cs with
  | nil => cases h
  | cons c r =>
   simp at h
   subst h
   have hl := hc.len
   refine .inr ⟨rfl, by simp at hl; omega, ?_, hc.cell 0 (by simp), h1, by simp, rfl⟩
   exact hc.rel 0 (by simp) (by simp at hl; omega)
theorem run_loadVar_at {t : TypeId} {i : TI} (ht : P.underlying t = some i.desc) (hi : P.info? t = some i.info) {blk o : Nat} {cs : List AV} {vs : List Value} (hat : At w blk o vs) (hc : CR C w O B M cs vs) {v : AV} (h : readAt i cs = some v) :
  ∃ cv, (loadVar t ⟨blk, o, none⟩).run P w = .ok cv w ∧ VR C w O B M v cv := by
 rcases readAt_sound hc h with ⟨ha, hle, hv, _⟩ | ⟨ha, hlt, hv, _⟩
 ·exact ⟨_, by simp [loadVar, run_isAgg ht, ha, run_sizeOf hi, run_loadCells_at hat hle], hv⟩
 ·have h0 := hat 0 hlt
  simp only [Nat.add_zero] at h0
  exact ⟨_, by simp [loadVar, run_isAgg ht, ha, h0], hv⟩
theorem Sit.cells (hs : Sit C w O B M H) {b : Nat} {e : TypeId} {cs : List AV} (h : hcells H b = some (e, cs)) {cb base : Nat} (hM : M b = some (cb, base)) :
  ∃ (cc : Array Value) (fz : Nat × Nat), w.heap[cb]? = some (.cells cc e fz) ∧ FzOk C e fz cc.size ∧ base + cs.length ≤ cc.size ∧ O cb ∧ CR C w O B M cs ((cc.toList.drop base).take cs.length) ∧ At w cb base ((cc.toList.drop base).take cs.length) := by
 obtain ⟨cb', base', hM', hO, hr⟩ := hs.own b _ (hcells_some h)
 rw [hM] at hM'
 obtain ⟨rfl, rfl⟩ := Prod.mk.inj (Option.some.inj hM')
 cases hr with
 | cells _ _ cc fz hblk hfz hfit hic hv =>
  refine ⟨cc, fz, hblk, hfz, hfit, hO, ⟨by simp; omega, hic, fun j h1 h2 => ?_⟩, fun j h1 => ?_⟩
  ·have := hv j h1 (by omega)
   simpa using this
  ·simp at h1
   rw [cell_of_row w cb (base + j) cc e fz hblk]
   simp
theorem VR.pdat_cells {t : Bool} {cs : List AV} {cv : Value} (h : VR C w O B M (.pdat t cs) cv) : ∃ blk o vs, cv = .pointer (some ⟨blk, o, none⟩) ∧ CR C w O B M cs vs ∧ At w blk o vs ∧ blk < w.heap.size ∧ ¬ O blk ∧ (t = false → ¬ B blk) ∧ datL t cs = true := by
 cases h with
 | pdat _ _ blk o vs hlt hO hB hc hcell hic hv =>
  refine ⟨blk, o, (List.range cs.length).map vs, rfl, ⟨by simp, hic, fun j h1 h2 => ?_⟩, fun j h1 => ?_, hlt, hO, hB, hc⟩
  ·simpa using hv j h1
  ·simp at h1 ⊢
   exact hcell j h1
theorem VR.mk_pdat {t : Bool} {cs : List AV} {blk o : Nat} {vs : List Value} (hc : CR C w O B M cs vs) (ha : At w blk o vs) (hlt : blk < w.heap.size) (hO : ¬ O blk) (hB : t = false → ¬ B blk) (hcl : datL t cs = true) :
  VR C w O B M (.pdat t cs) (.pointer (some ⟨blk, o, none⟩)) := by
 refine .pdat t cs blk o (fun j => vs.getD j undef) hlt hO hB hcl (fun j hj => ?_) hc.cell (fun j hj => ?_)
 ·have hl := hc.len
  have h1 : j < vs.length := by omega
  rw [ha j h1]
  simp [h1]
 ·have hl := hc.len
  have h1 : j < vs.length := by omega
  have := hc.rel j hj h1
  simpa [h1] using this
theorem mLoad_sound (hT : TyOk P C) (hs : Sit C w O B M H) {t : TypeId} {a v : AV} {ca : Value} (ha : VR C w O B M a ca) (h : mLoad C t a H = some v) :
  ∃ cv, (Instr.loadAt t ca).run P w = .ok cv w ∧ VR C w O B M v cv := by
 unfold mLoad at h
 simp only [Option.bind_eq_some_iff] at h
 obtain ⟨i, hi, h⟩ := h
 obtain ⟨h1, h2⟩ := hT.ty t i hi
 split at h
 ·rename_i b off
  simp only [Option.bind_eq_some_iff] at h
  obtain ⟨⟨e, cs⟩, hc, h⟩ := h
  cases ha with
  | pref _ _ cb base hM =>
   obtain ⟨cc, _, _, _, _, _, hcr, hat⟩ := hs.cells hc hM
   obtain ⟨cv, hr, hv⟩ := run_loadVar_at (P := P) h1 h2 (hat.drop off) (hcr.drop off) h
   exact ⟨cv, by simp [Instr.loadAt, Instr.sureAddr, hr], hv⟩
 ·rename_i t' cs
  obtain ⟨blk, o, vs, rfl, hcr, hat, _⟩ := ha.pdat_cells
  obtain ⟨cv, hr, hv⟩ := run_loadVar_at (P := P) h1 h2 hat hcr h
  exact ⟨cv, by simp [Instr.loadAt, Instr.sureAddr, hr], hv⟩
 ·cases h
theorem run_storeCells_fz (g o : Nat) (t : TypeId) (fz : Nat × Nat) : ∀ (vs : List Value) (i : Nat) (cur : Array Value) (w : World), w.heap[g]? = some (.cells cur t fz) → (fz.1 = fz.2 ∨ cur.size ≤ fz.1) → o + i + vs.length ≤ cur.size → (∀ v ∈ vs, v.oneCell' = true) →
  (storeCells ⟨g, o, none⟩ vs i).run P w = .ok () (w.setRow g (cur.toList.take (o + i) ++ vs ++ cur.toList.drop (o + i + vs.length)).toArray)
 | [], i, cur, w, hg, _, _, _ => by
  simp only [storeCells, List.append_nil, List.length_nil, Nat.add_zero, List.take_append_drop, Array.toArray_toList]
  rw [setRow_self w g cur t fz hg]
  rfl
 | v :: rest, i, cur, w, hg, hfz, hl, h1 => by
  have hi : o + i < cur.size := by simp at hl; omega
  have hcell : w.cell? ⟨g, o + i, none⟩ = some cur[o + i] := by simp [World.cell?, hg, hi]
  have hfro : w.frozen? ⟨g, o + i, none⟩ = false := by
   simp only [World.frozen?, hg, Bool.and_eq_false_iff, decide_eq_false_iff_not]
   omega
  have hst : (store ((⟨g, o, none⟩ : Addr).add i) v).run P w = .ok () (w.setRow g (cur.setIfInBounds (o + i) v)) := by
   rw [add_lit, run_store P w _ v _ (h1 v (by simp)), hcell]
   simp [hfro, setCell_eq_setRow w g (o + i) cur t fz v hg]
  have ih := run_storeCells_fz g o t fz rest (i + 1) (cur.setIfInBounds (o + i) v) (w.setRow g (cur.setIfInBounds (o + i) v)) (setRow_heap w g cur _ t _ hg) (by simpa using hfz) (by simp at hl ⊢; omega) (fun x hx => h1 x (by simp [hx]))
  simp only [storeCells, Sem.run_bind, hst, Result.andThen_ok, ih, setRow_setRow]
  congr 3
  have e := list_seg_step cur.toList (o + i) v rest (by simp at hl ⊢; omega)
  simpa [Array.toList_setIfInBounds, Nat.add_assoc] using e
theorem FzOk.or {e : TypeId} {fz : Nat × Nat} {n : Nat} (h : FzOk C e fz n) : fz.1 = fz.2 ∨ n ≤ fz.1 := h.imp id And.left
theorem FzOk.zero {e : TypeId} {n : Nat} : FzOk C e (0, 0) n := .inl rfl
theorem run_storeVar_at {t : TypeId} {i : TypeInfo} (hi : P.info? t = some i) {g o : Nat} {cur : Array Value} {ty : TypeId} {fz : Nat × Nat} (hg : w.heap[g]? = some (.cells cur ty fz)) (hfz : fz.1 = fz.2 ∨ cur.size ≤ fz.1) {cv : Value} (hn : cv.cells.size = i.size) (hf : o + i.size ≤ cur.size)
  (h1 : ∀ v ∈ cv.cells.toList, v.oneCell' = true) :
  (storeVar t ⟨g, o, none⟩ cv).run P w = .ok () (w.setRow g (cur.toList.take o ++ cv.cells.toList ++ cur.toList.drop (o + cv.cells.toList.length)).toArray) := by
 have := run_storeCells_fz (P := P) g o ty fz cv.cells.toList 0 cur w hg hfz (by simp; omega) h1
 simp only [Nat.add_zero] at this
 simp [storeVar, run_sizeOf hi, hn, this]
theorem CR.writeRow {cs row : List AV} {us : List Value} {cc : Array Value} {base off : Nat} (hc : CR C w O B M cs ((cc.toList.drop base).take cs.length)) (hb : base + cs.length ≤ cc.size) (hr : CR C w O B M row us) (hf : off + row.length ≤ cs.length) :
  CR C w O B M (writeAt cs off row) ((((cc.toList.take (base + off) ++ us ++ cc.toList.drop (base + off + us.length)).toArray).toList.drop base).take (writeAt cs off row).length) := by
 have hl := hr.len
 have e : (((cc.toList.take (base + off) ++ us ++ cc.toList.drop (base + off + us.length)).toArray).toList.drop base).take (writeAt cs off row).length
   = ((cc.toList.drop base).take cs.length).take off ++ us ++ ((cc.toList.drop base).take cs.length).drop (off + us.length) := by
  have hw : (writeAt cs off row).length = cs.length := by simp [writeAt]; omega
  rw [hw]
  apply List.ext_getElem?
  intro j
  simp only [List.getElem?_take, List.getElem?_drop, List.append_assoc, List.getElem?_append, List.length_take, List.length_drop, Array.length_toList]
  by_cases h1 : j < off
  ·simp only [show j < cs.length by omega, if_true, show base + j < min (base + off) cc.size by omega, show j < min off (min cs.length (cc.size - base)) by omega, show base + j < base + off by omega, h1]
  ·by_cases h2 : j < off + us.length
   ·simp only [show j < cs.length by omega, if_true, show ¬ (base + j < min (base + off) cc.size) by omega, show ¬ (j < min off (min cs.length (cc.size - base))) by omega, if_false,
     show base + j - min (base + off) cc.size = j - off by omega, show j - min off (min cs.length (cc.size - base)) = j - off by omega, show j - off < us.length by omega]
   ·by_cases h3 : j < cs.length
    ·simp only [h3, if_true, show ¬ (base + j < min (base + off) cc.size) by omega, show ¬ (j < min off (min cs.length (cc.size - base))) by omega, if_false,
      show base + j - min (base + off) cc.size = j - off by omega, show j - min off (min cs.length (cc.size - base)) = j - off by omega, show ¬ (j - off < us.length) by omega,
      show base + off + us.length + (j - off - us.length) = base + j by omega, show off + us.length + (j - off - us.length) = j by omega]
    ·simp only [h3, if_false, show ¬ (j < min off (min cs.length (cc.size - base))) by omega, show j - min off (min cs.length (cc.size - base)) = j - off by omega, show ¬ (j - off < us.length) by omega,
      show off + us.length + (j - off - us.length) = j by omega]
 rw [e]
 exact hc.write hr off
theorem BlkR.ofCRf {cb base : Nat} {e : TypeId} {cs : List AV} {cc : Array Value} {fz : Nat × Nat} (hblk : w.heap[cb]? = some (.cells cc e fz)) (hfz : FzOk C e fz cc.size) (hfit : base + cs.length ≤ cc.size) (hc : CR C w O B M cs ((cc.toList.drop base).take cs.length)) :
  BlkR C w O B M cb base (.cells e cs) :=
 .cells e cs cc fz hblk hfz hfit hc.cell fun j hj h' => by
  have hl := hc.len
  have := hc.rel j hj (by omega)
  simpa using this
theorem BlkR.ofCR {cb base : Nat} {e : TypeId} {cs : List AV} {cc : Array Value} (hblk : w.heap[cb]? = some (.cells cc e (0, 0))) (hfit : base + cs.length ≤ cc.size) (hc : CR C w O B M cs ((cc.toList.drop base).take cs.length)) :
  BlkR C w O B M cb base (.cells e cs) := .ofCRf hblk .zero hfit hc
theorem step_write {st : St} (hs : Sit C w O B M st.heap) {b : Nat} {e : TypeId} {cs : List AV} (hc : hcells st.heap b = some (e, cs)) {cb base : Nat} (hM : M b = some (cb, base)) {cc : Array Value}
  {fz : Nat × Nat} (hblk : w.heap[cb]? = some (.cells cc e fz)) {off : Nat} {row : List AV} {us : List Value} (hr : CR C w O B M row us) (hf : off + row.length ≤ cs.length) :
  Step C B true w O M st (w.setRow cb (cc.toList.take (base + off) ++ us ++ cc.toList.drop (base + off + us.length)).toArray) O M (st.put b (.cells e (writeAt cs off row))) := by
 obtain ⟨cc', fz', hblk', hfz, hfit, hO, hcr, hat⟩ := hs.cells hc hM
 rw [hblk] at hblk'
 cases hblk'
 have hl := hr.len
 have hsize : (cc.toList.take (base + off) ++ us ++ cc.toList.drop (base + off + us.length)).toArray.size = cc.size := by simp; omega
 have hx := Ext.setRow (M := M) hO hblk hsize
 refine Step.put hs (hcells_some hc) hM hx (fun k hk => setRow_at w cb k _ hk) (.ofCRf (setRow_same w cb cc _ e fz hblk) (by rw [hsize]; exact hfz) ?_ ?_)
 ·rw [hsize]; simp [writeAt]; omega
 ·exact (CR.writeRow hcr hfit hr hf).mono hx
theorem mStore_sound (hT : TyOk P C) {st st' : St} (hs : Sit C w O B M st.heap) {t : TypeId} {a x : AV} {ca cx : Value} (ha : VR C w O B M a ca) (hx : VR C w O B M x cx) (h : mStore C t a x st = some st') :
  ∃ w', (Instr.storeAt t ca cx).run P w = .ok () w' ∧ Step C B true w O M st w' O M st' := by
 unfold mStore at h
 simp only [Option.bind_eq_some_iff] at h
 obtain ⟨i, hi, h⟩ := h
 obtain ⟨h1, h2⟩ := hT.ty t i hi
 split at h
 ·rename_i b off
  simp only [Option.bind_eq_some_iff] at h
  obtain ⟨⟨e, cs⟩, hc, row, hrow, u, hu, h⟩ := h
  obtain rfl := Option.some.inj h
  have hu := chk_some hu
  simp only [Bool.and_eq_true, beq_iff, Nat.ble_eq] at hu
  cases ha with
  | pref _ _ cb base hM =>
   obtain ⟨cc, fz, hblk, hfz, hfit, hO, hcr, hat⟩ := hs.cells hc hM
   have hr := hx.row hrow
   have hl := hr.len
   have hsz : cx.cells.size = i.info.size := by simp at hl; omega
   have hst := run_storeVar_at (P := P) h2 hblk hfz.or (o := base + off) hsz (by omega) hr.one
   refine ⟨_, by simp only [Instr.storeAt, Instr.sureAddr, Sem.run_bind, Sem.run_pure, Result.andThen_ok]; exact hst, ?_⟩
   exact step_write hs hc hM hblk hr hu.2
 ·cases h
end
end Go.Ev
namespace Go.Ev
open Go
section
variable {P : Program} {C : Ctx} {w : World} {O B : Nat → Prop} {M : MapB} {H : Heap}
theorem At.append {blk o : Nat} {vs us : List Value} (h : At w blk o vs) (k : At w blk (o + vs.length) us) : At w blk o (vs ++ us) := fun j hj => by
 by_cases h1 : j < vs.length
 ·rw [List.getElem_append_left h1]; exact h j h1
 ·rw [List.getElem_append_right (by omega)]
  have := k (j - vs.length) (by simp at hj; omega)
  rw [← this, Nat.add_assoc]
  congr 2
  omega
theorem flat_rel (sz : Nat) (blk : Nat) : ∀ (xs : List AV) (o : Nat) (f : Nat → Nat → Value), (∀ i (h : i < xs.length), xs[i].cells.length = sz) →
  (∀ i j, i < xs.length → j < sz → w.cell? ⟨blk, o + i * sz + j, none⟩ = some (f i j)) → (∀ i (h : i < xs.length) j (h' : j < xs[i].cells.length), (xs[i].cells[j]).isCell = true) →
  (∀ i (h : i < xs.length) j (h' : j < xs[i].cells.length), VR C w O B M (xs[i].cells[j]) (f i j)) →
  ∃ vs, vs.length = xs.length * sz ∧ CR C w O B M (flat xs) vs ∧ At w blk o vs
 | [], o, f, _, _, _, _ => ⟨[], by simp, by simpa [flat] using CR.nil, fun j h => by simp at h⟩
 | x :: r, o, f, hsz, hcell, hic, hv => by
  obtain ⟨us, hl, hc, ha⟩ := flat_rel sz blk r (o + sz) (fun i j => f (i + 1) j) (fun i h => hsz (i + 1) (by simp; omega))
   (fun i j h h' => by have := hcell (i + 1) j (by simp; omega) h'; rw [← this]; congr 2; rw [Nat.add_mul]; omega)
   (fun i h j h' => hic (i + 1) (by simp; omega) j h') (fun i h j h' => hv (i + 1) (by simp; omega) j h')
  have h0 := hsz 0 (by simp)
  simp only [List.getElem_cons_zero] at h0
  have hc0 : CR C w O B M x.cells ((List.range sz).map (f 0)) := ⟨by simp [h0], fun j hj => hic 0 (by simp) j hj, fun j hj h' => by have := hv 0 (by simp) j hj; simp only [List.getElem_map, List.getElem_range]; exact this⟩
  have ha0 : At w blk o ((List.range sz).map (f 0)) := fun j hj => by
   have := hcell 0 j (by simp) (by simpa using hj)
   simpa using this
  refine ⟨(List.range sz).map (f 0) ++ us, by simp [hl, Nat.add_mul]; omega, by simpa [flat] using hc0.append hc, ha0.append (by simpa using ha)⟩
theorem VR.sdat_cells {t : Bool} {sz : Nat} {xs : List AV} {cap : Option Nat} {cv : Value} (h : VR C w O B M (.sdat t sz xs cap) cv) :
  ∃ blk o c vs, cv = .slice (some ⟨blk, o, none⟩) xs.length c ∧ xs.length ≤ c ∧ (∀ k, cap = some k → c = k) ∧ vs.length = xs.length * sz ∧ CR C w O B M (flat xs) vs ∧ At w blk o vs := by
 cases h with
 | sdat _ _ _ _ blk o c vs hlt hO hB hc hlen hcap hsz hcell hic hv =>
  obtain ⟨us, h1, h2, h3⟩ := flat_rel sz blk xs o vs hsz hcell hic hv
  exact ⟨blk, o, c, us, rfl, hlen, hcap, h1, h2, h3⟩
theorem VR.sref_inv {b off len : Nat} {cap : Option Nat} {cv : Value} (h : VR C w O B M (.sref b off len cap) cv) :
  ∃ cb base c e i, ∃ cc : Array Value, ∃ fz, cv = .slice (some ⟨cb, base + off, none⟩) len c ∧ M b = some (cb, base) ∧ w.heap[cb]? = some (.cells cc e fz) ∧ C.ti e = some i ∧ len ≤ c ∧
   base + off + c * i.info.size ≤ cc.size ∧ (∀ k, cap = some k → c = k) ∧ (cap = none → base + off + c * i.info.size = cc.size) := by
 cases h with
 | sref _ _ _ _ cb base c e i cc fz hM hblk hi hlen hfit hcap hfull => exact ⟨cb, base, c, e, i, cc, fz, rfl, hM, hblk, hi, hlen, hfit, hcap, hfull⟩
theorem source_sound (hs : Sit C w O B M H) {sz n : Nat} {x : AV} {cx : Value} {new : List AV} (hx : VR C w O B M x cx) (h : source H sz x = some (n, new)) :
  ∃ us, CR C w O B M new us ∧ new.length = n * sz ∧ (∀ w' : World, (Builtin.lenOf cx).run P w' = .ok n w') ∧ (∀ k, k ≤ n → (Builtin.firstCells sz k cx).run P w = .ok (us.take (k * sz)).toArray w ∧ (Builtin.firstCells sz k cx).run P w.drew = .ok (us.take (k * sz)).toArray w.drew) := by
 unfold source at h
 split at h
 ·obtain ⟨rfl, rfl⟩ := Prod.mk.inj (Option.some.inj h)
  cases hx
  refine ⟨[], .nil, by simp, fun _ => rfl, fun k hk => ?_⟩
  have : k = 0 := Nat.le_zero.1 hk
  subst this
  simp [Builtin.firstCells]
 ·rename_i t z xs cap
  simp only [Option.bind_eq_some_iff] at h
  obtain ⟨u, hu, h⟩ := h
  obtain ⟨rfl, rfl⟩ := Prod.mk.inj (Option.some.inj h)
  have hz := (beq_iff _ _).1 (chk_some hu)
  subst hz
  obtain ⟨blk, o, c, us, rfl, _, _, hl, hc, ha⟩ := hx.sdat_cells
  refine ⟨us, hc, by rw [← hc.len, hl], fun _ => rfl, fun k hk => ?_⟩
  have hk' : k * z ≤ us.length := by rw [hl]; exact Nat.mul_le_mul_right _ hk
  exact ⟨by simp [Builtin.firstCells, run_loadCells_at ha hk'], by simp [Builtin.firstCells, run_loadCells_at (w := w.drew) ha hk']⟩
 ·rename_i b off len cap
  simp only [Option.bind_eq_some_iff] at h
  obtain ⟨⟨e, cs⟩, hcs, u, hu, h⟩ := h
  obtain ⟨rfl, rfl⟩ := Prod.mk.inj (Option.some.inj h)
  have hu : off + len * sz ≤ cs.length := by simpa using chk_some hu
  obtain ⟨cb, base, c, e', i, cc, fz, rfl, hM, _⟩ := hx.sref_inv
  obtain ⟨cc', _, hblk, _, hfit, hO, hcr, hat⟩ := hs.cells hcs hM
  have ha := hat.drop off
  have hc := (hcr.drop off).take (len * sz)
  refine ⟨_, hc, by simp; omega, fun _ => rfl, fun k hk => ?_⟩
  have hk' : k * sz ≤ len * sz := Nat.mul_le_mul_right _ hk
  have hle : k * sz ≤ (((cc'.toList.drop base).take cs.length).drop off).length := by simp; omega
  have e1 : List.take (k * sz) (List.take (len * sz) (List.drop off (List.take cs.length (List.drop base cc'.toList)))) = List.take (k * sz) (List.drop off (List.take cs.length (List.drop base cc'.toList))) := by
   rw [List.take_take, Nat.min_eq_left hk']
  rw [e1]
  exact ⟨by simp only [Builtin.firstCells]; exact run_loadCells_at ha hle, by simp only [Builtin.firstCells]; exact run_loadCells_at (w := w.drew) ha hle⟩
 ·rename_i b
  simp only [Option.bind_eq_some_iff] at h
  obtain ⟨u, hu, h⟩ := h
  obtain ⟨rfl, rfl⟩ := Prod.mk.inj (Option.some.inj h)
  have hz := (beq_iff _ _).1 (chk_some hu)
  subst hz
  cases hx with
  | str _ bs hb =>
   subst hb
   refine ⟨byteCells bs, ⟨by simp [byteCells], fun j hj => by simp [AV.isCell], fun j hj h' => ?_⟩, by simp, fun _ => by simp [Builtin.lenOf], fun k hk => ?_⟩
   ·simp [byteCells]
    exact .int _ _
   ·have : ∀ w' : World, (Builtin.firstCells 1 k (.string bs)).run P w' = .ok ((byteCells bs).take (k * 1)).toArray w' := fun w' => by
     simp [Builtin.firstCells, byteCells]
     apply Array.ext'
     simp
    exact ⟨this _, this _⟩
 ·cases h
end
end Go.Ev
namespace Go.Ev
open Go
section
variable {P : Program} {C : Ctx} {w : World} {O B : Nat → Prop} {M : MapB} {H : Heap}
theorem elem_some {t : TypeId} {e : TypeId} (h : C.elem t = some e) : ∃ i, C.ti t = some i ∧ i.desc = .slice e := by
 unfold Ctx.elem Ctx.desc at h
 split at h
 ·rename_i e' hh
  simp only [Option.map_eq_some_iff] at hh
  obtain ⟨i, hi, hd⟩ := hh
  obtain rfl := Option.some.inj h
  exact ⟨i, hi, hd⟩
 ·cases h
theorem desc_some {t : TypeId} {d : TypeDesc} (h : C.desc t = some d) : ∃ i, C.ti t = some i ∧ i.desc = d := by
 unfold Ctx.desc at h
 simpa [Option.map_eq_some_iff, Ctx.ti] using h
theorem size_some {t : TypeId} {n : Nat} (h : C.size t = some n) : ∃ i, C.ti t = some i ∧ i.info.size = n := by
 unfold Ctx.size at h
 simpa [Option.map_eq_some_iff, Ctx.ti] using h
theorem TyOk.under (hT : TyOk P C) {t : TypeId} {d : TypeDesc} (h : C.desc t = some d) : P.underlying t = some d := by
 obtain ⟨i, hi, rfl⟩ := desc_some h
 exact (hT.ty t i hi).1
theorem TyOk.elem (hT : TyOk P C) {t e : TypeId} (h : C.elem t = some e) : P.underlying t = some (.slice e) := by
 obtain ⟨i, hi, hd⟩ := elem_some h
 rw [← hd]; exact (hT.ty t i hi).1
theorem row_cells {v : AV} {row : List AV} (h : v.row = some row) : v.cells = row := by
 cases v <;> simp_all [AV.row, AV.cells]
theorem zero_some {i : TI} {z : AV} (h : i.zero = some z) : ∃ zv, i.info.zero = some zv ∧ ofVal zv = some z ∧ z.cells.length = i.info.size ∧ zv.cells.size = i.info.size ∧ ∀ (C : Ctx) (w : World) (O B : Nat → Prop) (M : MapB), CR C w O B M z.cells zv.cells.toList := by
 unfold TI.zero at h
 simp only [Option.bind_eq_some_iff] at h
 obtain ⟨zv, hz, z', hv, row, hrow, u, hu, h⟩ := h
 obtain rfl := Option.some.inj h
 have hl := (beq_iff _ _).1 (chk_some hu)
 have key : ∀ (C : Ctx) (w : World) (O B : Nat → Prop) (M : MapB), CR C w O B M z'.cells zv.cells.toList := fun C w O B M => by
  rw [row_cells hrow]
  exact (ofVal_sound (C := C) (w := w) (O := O) (B := B) (M := M) hv).1.row hrow
 refine ⟨zv, hz, hv, by rw [row_cells hrow]; exact hl, ?_, key⟩
 have := (key ⟨.nil, .nil, fun _ => none, fun _ => none, fun _ => false, fun _ => none⟩ default (fun _ => False) (fun _ => False) (fun _ => none)).len
 rw [row_cells hrow] at this
 simp at this
 omega
theorem run_append_in {t t2 ty e : TypeId} {i : TypeInfo} (ht : P.underlying t = some (.slice e)) (hi : P.info? e = some i) (hk : (∃ e', P.underlying t2 = some (.slice e')) ∨ P.underlying t2 = some .string)
  {cb o sLen sCap n : Nat} {cx : Value} {us : List Value} (hlen : ∀ w' : World, (Builtin.lenOf cx).run P w' = .ok n w') (hfc : (Builtin.firstCells i.size n cx).run P w = .ok us.toArray w)
  {cur : Array Value} {te : TypeId} {fz : Nat × Nat} (hg : w.heap[cb]? = some (.cells cur te fz)) (hfz : fz.1 = fz.2 ∨ cur.size ≤ fz.1) (hroom : sLen + n ≤ sCap) (hf : o + sLen * i.size + us.length ≤ cur.size) (h1 : ∀ u ∈ us, u.oneCell' = true) :
  (Builtin.append_ #[t, t2] ty #[.slice (some ⟨cb, o, none⟩) sLen sCap, cx]).run P w =
   .ok (.slice (some ⟨cb, o, none⟩) (sLen + n) sCap) (w.setRow cb (cur.toList.take (o + sLen * i.size) ++ us ++ cur.toList.drop (o + sLen * i.size + us.length)).toArray) := by
 have hst := run_storeCells_fz (P := P) cb (o + sLen * i.size) te fz us 0 cur w hg hfz (by omega) h1
 simp only [Nat.add_zero] at hst
 rcases hk with ⟨e', hk⟩ | hk <;> simp [Builtin.append_, run_underlying ht, run_underlying hk, sizeOf, typeInfo, hi, hlen, hroom, hfc, add_lit, hst]
theorem run_append_zero {t t2 ty e : TypeId} {i : TypeInfo} (ht : P.underlying t = some (.slice e)) (hi : P.info? e = some i) (hk : (∃ e', P.underlying t2 = some (.slice e')) ∨ P.underlying t2 = some .string)
  {base : Option Addr} {sLen sCap : Nat} {cx : Value} (hlen : ∀ w' : World, (Builtin.lenOf cx).run P w' = .ok 0 w') (hfc : (Builtin.firstCells i.size 0 cx).run P w = .ok #[] w) (hroom : sLen ≤ sCap) :
  (Builtin.append_ #[t, t2] ty #[.slice base sLen sCap, cx]).run P w = .ok (.slice base sLen sCap) w := by
 rcases hk with ⟨e', hk⟩ | hk <;> cases base <;> simp [Builtin.append_, run_underlying ht, run_underlying hk, sizeOf, typeInfo, hi, hlen, hroom, hfc, storeCells]
theorem step_row {serial : Bool} {st : St} (hs : Sit C w O B M st.heap) (hn : M st.nxt = none) {e : TypeId} {i : TI} (hi : C.ti e = some i) {cs : List AV} {vs : List Value} (hc : CR C w O B M cs vs) (rest : List Value)
  {len cap : Nat} (acap : Option Nat) (hlen : len ≤ cap) (hfull : (vs ++ rest).length = cap * i.info.size) (hcap : ∀ k, acap = some k → cap = k) :
  VR C (w.alloc (.cells (vs ++ rest).toArray e)) (fun b => O b ∨ b = w.heap.size) B (upd M st.nxt (w.heap.size, 0)) (.sref st.nxt 0 len acap) (.slice (some ⟨w.heap.size, 0, none⟩) len cap) ∧
  Step C B serial w O M st (w.alloc (.cells (vs ++ rest).toArray e)) (fun b => O b ∨ b = w.heap.size) (upd M st.nxt (w.heap.size, 0)) (st.new (.cells e cs)) := by
 have hnew := heap_alloc_new w (.cells (vs ++ rest).toArray e)
 have hx : Ext w O M (w.alloc (.cells (vs ++ rest).toArray e)) (fun b => O b ∨ b = w.heap.size) (upd M st.nxt (w.heap.size, 0)) := Ext.alloc _ hn 0
 have hl := hc.len
 refine ⟨?_, Step.new hs _ hn (.ofCR hnew (by simp; omega) ?_)⟩
 ·have := VR.sref (C := C) (w := w.alloc (.cells (vs ++ rest).toArray e)) (O := fun b => O b ∨ b = w.heap.size) (B := B) (M := upd M st.nxt (w.heap.size, 0)) st.nxt 0 len acap w.heap.size 0 cap e i (vs ++ rest).toArray (0, 0)
   (by simp [upd]) hnew hi hlen (by simp at hfull ⊢; omega) hcap (fun _ => by simp at hfull ⊢; omega)
  simpa using this
 ·have e1 : ((vs ++ rest).toArray.toList.drop 0).take cs.length = vs := by simp [← hl]
  rw [e1]
  exact hc.mono hx
theorem room_some {n bytes : Nat} (h : room n bytes = true) : n * bytes ≤ 140737488355328 ∧ n ≤ 4611686018427387903 := by
 simpa [room] using h
theorem Ext.toDrew : Ext w O M w.drew O M := ⟨rfl, rfl, rfl, Nat.le_refl _, fun _ _ _ => rfl, fun _ c _ _ h => ⟨c, h, rfl⟩, fun _ h => .inl h, fun _ _ h => h⟩
theorem append_grow_run (hT : TyOk P C) {t t2 ty e : TypeId} {i : TI} {z : AV} (hte : C.elem t = some e) (hie : C.ti e = some i) (hz : i.zero = some z)
  (hk : (∃ e', P.underlying t2 = some (.slice e')) ∨ P.underlying t2 = some .string) {base : Option Addr} {sLen sCap n : Nat} {cx : Value} {ov us : List Value} (h1 : ∀ u ∈ us, u.oneCell' = true)
  (hol : ov.length = sLen * i.info.size) (hnl : us.length = n * i.info.size) (hlen : ∀ w' : World, (Builtin.lenOf cx).run P w' = .ok n w') (hfc : (Builtin.firstCells i.info.size n cx).run P w = .ok us.toArray w) (hfcD : (Builtin.firstCells i.info.size n cx).run P w.drew = .ok us.toArray w.drew)
  (hold : (Builtin.firstCells i.info.size sLen (.slice base sLen sCap)).run P w.drew = .ok ov.toArray w.drew) (hg : sCap < sLen + n) (hroom : room (sLen + n) i.info.bytes = true) :
  ∃ cap rest, (Builtin.append_ #[t, t2] ty #[.slice base sLen sCap, cx]).run P w = .ok (.slice (some ⟨w.heap.size, 0, none⟩) (sLen + n) cap) (w.drew.alloc (.cells ((ov ++ us) ++ rest).toArray e)) ∧
   sLen + n ≤ cap ∧ ((ov ++ us) ++ rest).length = cap * i.info.size := by
 obtain ⟨hr1, hr2⟩ := room_some hroom
 obtain ⟨_, h2⟩ := hT.ty e i hie
 obtain ⟨zv, hz1, _, _, hz2, _⟩ := zero_some hz
 have hsrc : Src P i.info.size t2 cx n us w := ⟨hk, hlen, hfc, hfcD, hnl, h1⟩
 have hrun := run_append_grow_src (P := P) w t t2 ty e i.info zv (hT.elem hte) h2 hz1 base sLen sCap ov hold cx n us hsrc hg (by omega) (growslice_fits hg hr1)
 have hge := grownCap_ge w (sLen + n) sCap e
 have eqw : (w.drew.alloc (.cells ((ov ++ us).toArray ++ Builtin.zeroCells zv.cells (grownCap w (sLen + n) sCap e - (sLen + n))) e)) =
   (w.drew.alloc (.cells ((ov ++ us) ++ (Builtin.zeroCells zv.cells (grownCap w (sLen + n) sCap e - (sLen + n))).toList).toArray e)) := by
  congr 2
  apply Array.ext'
  simp
 rw [eqw] at hrun
 exact ⟨_, _, hrun, hge, by simp only [List.length_append, Array.length_toList, size_zeroCells, hz2, hol, hnl, ← Nat.add_mul]; congr 1; omega⟩
theorem append_grow (hT : TyOk P C) {serial : Bool} {st : St} (hs : Sit C w O B M st.heap) (hn : M st.nxt = none) {t t2 ty e : TypeId} {i : TI} {z : AV} (hte : C.elem t = some e) (hie : C.ti e = some i) (hz : i.zero = some z)
  (hk : (∃ e', P.underlying t2 = some (.slice e')) ∨ P.underlying t2 = some .string) {base : Option Addr} {sLen sCap n : Nat} {cx : Value} {olds news : List AV} {ov us : List Value} (hco : CR C w O B M olds ov) (hcn : CR C w O B M news us)
  (hol : ov.length = sLen * i.info.size) (hnl : us.length = n * i.info.size) (hlen : ∀ w' : World, (Builtin.lenOf cx).run P w' = .ok n w') (hfc : (Builtin.firstCells i.info.size n cx).run P w = .ok us.toArray w) (hfcD : (Builtin.firstCells i.info.size n cx).run P w.drew = .ok us.toArray w.drew)
  (hold : (Builtin.firstCells i.info.size sLen (.slice base sLen sCap)).run P w.drew = .ok ov.toArray w.drew) (hg : sCap < sLen + n) (hroom : room (sLen + n) i.info.bytes = true) :
  ∃ cv w' O' M', (Builtin.append_ #[t, t2] ty #[.slice base sLen sCap, cx]).run P w = .ok cv w' ∧ VR C w' O' B M' (.sref st.nxt 0 (sLen + n) none) cv ∧ Step C B serial w O M st w' O' M' (st.new (.cells e (olds ++ news))) := by
 obtain ⟨cap, rest, hrun, hge, hfull⟩ := append_grow_run (ty := ty) hT hte hie hz hk hcn.one hol hnl hlen hfc hfcD hold hg hroom
 have hst := step_row (serial := serial) (st := st) hs.drew hn hie ((hco.append hcn).mono Ext.toDrew) rest (len := sLen + n) (cap := cap) none hge hfull (fun k hk => by cases hk)
 exact ⟨_, _, _, _, hrun, hst.1, hst.2.undrew⟩
end
end Go.Ev
