/- A PART OF THE PROOF THAT SAVETEXTS HOLDS FOR EVERY INPUT OF BULK AT MOST 1048576. No condition beyond the given statement. This part: EvOpsA. -/
import Derived.Test.YtciahohaonhdgaaGreatDoorEvOps8
import Derived.Laws.RangeString
import Derived.IntWalk
import Derived.Laws.BytesString
namespace Go.Ev
open Go
section
variable {P : Program} {C : Ctx} {w : World} {O B : Nat → Prop} {M : MapB} {H : Heap}
theorem foldl_write (off : Nat) : ∀ (us : List Value) (j : Nat) (cs : Array Value), off + j + us.length ≤ cs.size →
  ((us.zipIdx j).foldl (fun cs (c, j) => cs.setIfInBounds (off + j) c) cs) = (cs.toList.take (off + j) ++ us ++ cs.toList.drop (off + j + us.length)).toArray
 | [], j, cs, _ => by
  apply Array.ext'
  simp
 | u :: r, j, cs, h => by
  simp only [List.zipIdx_cons, List.foldl_cons]
  rw [foldl_write off r (j + 1) (cs.setIfInBounds (off + j) u) (by simp at h ⊢; omega)]
  apply Array.ext'
  apply List.ext_getElem?
  intro k
  simp only [List.length_cons] at h
  simp only [List.append_assoc, List.getElem?_append, List.length_take, Array.length_toList, Array.size_setIfInBounds, List.getElem?_take, List.getElem?_drop, Array.getElem?_toList, List.length_cons]
  by_cases h1 : k < off + j
  ·simp only [show k < min (off + (j + 1)) cs.size by omega, if_true, show k < off + (j + 1) by omega, show k < min (off + j) cs.size by omega, h1]
   rw [Array.getElem?_setIfInBounds_ne (by omega)]
  ·by_cases h2 : k = off + j
   ·subst h2
    simp only [show off + j < min (off + (j + 1)) cs.size by omega, if_true, show off + j < off + (j + 1) by omega, show ¬ (off + j < min (off + j) cs.size) by omega, if_false, show off + j - min (off + j) cs.size = 0 by omega, show 0 < r.length + 1 by omega, List.getElem?_cons_zero]
    rw [Array.getElem?_setIfInBounds_self_of_lt (by omega)]
   ·simp only [show ¬ (k < min (off + (j + 1)) cs.size) by omega, if_false, show ¬ (k < min (off + j) cs.size) by omega, show k - min (off + (j + 1)) cs.size = k - (off + j) - 1 by omega, show k - min (off + j) cs.size = (k - (off + j) - 1) + 1 by omega,
     List.getElem?_cons_succ]
    by_cases h3 : k - (off + j) - 1 < r.length
    ·simp only [h3, if_true, show k - (off + j) - 1 + 1 < r.length + 1 by omega]
    ·simp only [h3, if_false, show ¬ (k - (off + j) - 1 + 1 < r.length + 1) by omega]
     rw [Array.getElem?_setIfInBounds_ne (by omega)]
     congr 1
     omega
inductive PR (C : Ctx) (w : World) (O B : Nat → Prop) (M : MapB) : List (Nat × AV) → List (Nat × Value) → Prop
 | nil : PR C w O B M [] []
 | cons (i : Nat) (v : AV) (cv : Value) (r : List (Nat × AV)) (cr : List (Nat × Value)) (h : VR C w O B M v cv) (hr : PR C w O B M r cr) : PR C w O B M ((i, v) :: r) ((i, cv) :: cr)
theorem partV_sound (hs : Sit C w O B M H) {ts : List AV} {a : Act} (ht : TR C w O B M ts a) : ∀ {l : List (Nat × Operand)} {ps : List (Nat × AV)}, partV (opVal C ts) l = some ps → PR C w O B M ps (l.map fun (i, x) => (i, a.eval x))
 | [], ps, h => by simp [partV] at h; subst h; exact .nil
 | (i, o) :: r, ps, h => by
  simp only [partV, Option.bind_eq_some_iff] at h
  obtain ⟨x, hx, ys, hy, h⟩ := h
  obtain rfl := Option.some.inj h
  exact .cons _ _ _ _ _ (opVal_sound hs ht hx) (partV_sound hs ht hy)
theorem fill_sound {place : Nat → Option (Nat × Nat)} : ∀ {ps : List (Nat × AV)} {cps : List (Nat × Value)} {cs cs' : List AV} {vs : List Value}, PR C w O B M ps cps → CR C w O B M cs vs → fillAV place cs ps = some cs' →
  ∃ vs', Instr.fill place vs.toArray cps = some vs'.toArray ∧ CR C w O B M cs' vs'
 | [], _, cs, cs', vs, hp, hc, h => by
  cases hp
  simp [fillAV] at h
  subst h
  exact ⟨vs, rfl, hc⟩
 | (i, v) :: r, _, cs, cs', vs, hp, hc, h => by
  cases hp with
  | cons _ _ cv _ cr hv hr =>
   simp only [fillAV, Option.bind_eq_some_iff] at h
   obtain ⟨⟨off, size⟩, hpl, row, hrow, _, hch, h⟩ := h
   have hch := chk_some hch
   simp only [Bool.and_eq_true, beq_iff, Nat.ble_eq] at hch
   have hrw := hv.row hrow
   have hl := hrw.len
   have hcl := hc.len
   have hn : ¬ (cv.cells.size ≠ size || off + cv.cells.size > vs.toArray.size) = true := by
    simp at hl ⊢
    omega
   obtain ⟨vs', h1, h2⟩ := fill_sound hr (hc.write hrw off) h
   refine ⟨vs', ?_, h2⟩
   simp only [Instr.fill, hpl, hn, Bool.false_eq_true, if_false]
   rw [← h1]
   congr 1
   have := foldl_write off cv.cells.toList 0 vs.toArray (by simp at hl ⊢; omega)
   rw [← Array.foldl_toList, Array.toList_zipIdx]
   simpa using this
theorem run_mapM {α β : Type} {f : α → Sem β} {g : α → β} : ∀ {l : List α}, (∀ x ∈ l, (f x).run P w = .ok (g x) w) → (l.mapM f).run P w = .ok (l.map g) w
 | [], _ => by simp
 | x :: r, h => by
  have h1 := h x (by simp)
  have h2 := run_mapM (f := f) (g := g) (l := r) (fun y hy => h y (by simp [hy]))
  simp [h1, h2]
theorem run_places {fs : Array Field} (hT : TyOk P C) (h : (fs.toList.all fun f => (C.size f.type).isSome) = true) :
  (fs.mapM (fun f => do pure (f.offset, ← sizeOf f.type) : Field → Sem (Nat × Nat))).run P w = .ok (fs.map fun f => (f.offset, (C.size f.type).getD 0)) w := by
 have h1 : (fs.toList.mapM (fun f => do pure (f.offset, ← sizeOf f.type) : Field → Sem (Nat × Nat))).run P w = .ok (fs.toList.map fun f => (f.offset, (C.size f.type).getD 0)) w := by
  refine run_mapM fun f hf => ?_
  have h2 := List.all_eq_true.1 h f hf
  obtain ⟨n, hn⟩ := Option.isSome_iff_exists.1 h2
  obtain ⟨i, hi, hs⟩ := size_some hn
  simp [run_sizeOf (hT.ty _ i hi).2, hn, hs]
 rw [Array.mapM_eq_mapM_toList]
 simp only [Sem.run_map, h1, Result.andThen_ok]
 congr 1
 apply Array.ext'
 simp
theorem fieldPlace_eq {fs : Array Field} (h : (fs.toList.all fun f => (C.size f.type).isSome) = true) (j : Nat) : fieldPlace C fs j = (fs.map fun f => (f.offset, (C.size f.type).getD 0))[j]? := by
 unfold fieldPlace
 cases hf : fs[j]? with
 | none => simp [hf]
 | some f =>
  have hm : f ∈ fs.toList := by
   rw [Array.mem_toList_iff]
   exact Array.mem_of_getElem? hf
  obtain ⟨n, hn⟩ := Option.isSome_iff_exists.1 (List.all_eq_true.1 h f hm)
  simp [hf, hn]
theorem mBuild_sound (hT : TyOk P C) {t : TypeId} {ps : List (Nat × AV)} {cps : List (Nat × Value)} {v : AV} (hp : PR C w O B M ps cps) (h : mBuild C t ps = some v) :
  ∃ cv, (Instr.build t cps.toArray).run P w = .ok cv w ∧ VR C w O B M v cv := by
 unfold mBuild at h
 simp only [Option.bind_eq_some_iff] at h
 obtain ⟨i, hi, z, hz, h⟩ := h
 obtain ⟨h1, h2⟩ := hT.ty t i hi
 obtain ⟨zv, hz1, hz2, hz3, hz4, hz5⟩ := zero_some hz
 have hzr := run_zeroValue (P := P) (w := w) h2 hz1
 split at h
 ·rename_i fs hd
  rw [hd] at h1
  simp only [Option.bind_eq_some_iff, Option.some.injEq] at h
  obtain ⟨_, hall, cs, hf, rfl⟩ := h
  have hall := chk_some hall
  have e : fieldPlace C fs = fun j => (fs.map fun f => (f.offset, (C.size f.type).getD 0))[j]? := funext (fieldPlace_eq hall)
  rw [e] at hf
  obtain ⟨vs', h3, h4⟩ := fill_sound hp (hz5 C w O B M) hf
  refine ⟨.agg vs'.toArray, ?_, .ofAgg h4⟩
  simp only [Array.toArray_toList] at h3
  simp only [Instr.build, Sem.run_bind, hzr, Result.andThen_ok, run_underlying h1, run_places hT hall, h3, Sem.run_pure]
 ·rename_i n e hd
  rw [hd] at h1
  simp only [Option.bind_eq_some_iff, Option.some.injEq] at h
  obtain ⟨sz, hsz, cs, hf, rfl⟩ := h
  obtain ⟨ie, hie, hs⟩ := size_some hsz
  obtain ⟨vs', h3, h4⟩ := fill_sound hp (hz5 C w O B M) hf
  refine ⟨.agg vs'.toArray, ?_, .ofAgg h4⟩
  simp only [Array.toArray_toList] at h3
  simp only [Instr.build, Sem.run_bind, hzr, Result.andThen_ok, run_underlying h1, run_sizeOf (hT.ty e ie hie).2, hs, h3, Sem.run_pure]
 ·cases h
theorem range0 {α : Type} (f : Nat → α) : (Array.range 0).map f = #[] := by simp
theorem not_big : ¬ (0 > 2 ^ 24) := by decide
theorem wrap_nat {n : Nat} (h : n ≤ 4611686018427387903) : IntKind.i64.wrap (n : Int) = n := by
 unfold IntKind.wrap
 simp only [IntKind.bits, IntKind.signed, Bool.true_and, decide_eq_true_eq, ge_iff_le]
 have e : ((n : Int) % 2 ^ 64) = n := Int.emod_eq_of_lt (by omega) (by omega)
 have h1 : ¬ ((2 : Int) ^ (64 - 1) ≤ (n : Int) % 2 ^ 64) := by rw [e]; omega
 rw [if_neg h1, e]
theorem rep_mod (n : Nat) (z : Array Value)   : (Array.range (n * z.size)).map (z[· % z.size]!) = ((List.replicate n z.toList).flatten).toArray := by
 apply Array.ext'
 simp only [Array.toList_map, Array.toList_range]
 induction n with
 | zero => simp
 | succ n ih =>
  rw [List.replicate_succ', List.flatten_append, ← ih, Nat.add_mul, Nat.one_mul, List.range_add, List.map_append]
  congr 1
  simp only [List.flatten_cons, List.flatten_nil, List.append_nil, List.map_map]
  apply List.ext_getElem
  ·simp
  ·intro j h1 h2
   simp at h1
   simp [Nat.mod_eq_of_lt h1, h1]
theorem fill_length {place : Nat → Option (Nat × Nat)} : ∀ {ps : List (Nat × AV)} {cs cs' : List AV}, fillAV place cs ps = some cs' → cs'.length = cs.length
 | [], cs, cs', h => by simp [fillAV] at h; subst h; rfl
 | (i, v) :: r, cs, cs', h => by
  simp only [fillAV, Option.bind_eq_some_iff] at h
  obtain ⟨⟨off, size⟩, _, row, _, _, hch, h⟩ := h
  have hch := chk_some hch
  simp only [Bool.and_eq_true, Nat.ble_eq] at hch
  rw [fill_length h]
  simp [writeAt]
  omega
theorem rep_length (n : Nat) (z : List AV) : (rep n z).length = n * z.length := by
 simp [rep]
theorem mBuildSlice_sound (hT : TyOk P C) {serial : Bool} {st st' : St} (hs : Sit C w O B M st.heap) (hn : M st.nxt = none) {t : TypeId} {len : Nat} {ps : List (Nat × AV)} {cps : List (Nat × Value)} {v : AV} (hp : PR C w O B M ps cps) (h : mBuildSlice C t len ps st = some (v, st')) :
  ∃ cv w' O' M', (Instr.buildSlice t len cps.toArray).run P w = .ok cv w' ∧ VR C w' O' B M' v cv ∧ Step C B serial w O M st w' O' M' st' := by
 unfold mBuildSlice at h
 simp only [Option.bind_eq_some_iff, Option.some.injEq, Prod.mk.injEq] at h
 obtain ⟨e, he, i, hi, z, hz, _, hch, cs, hf, rfl, rfl⟩ := h
 have hch := chk_some hch
 simp only [Bool.and_eq_true, Nat.ble_eq, Nat.blt_eq] at hch
 obtain ⟨h1, h2⟩ := hT.ty e i hi
 obtain ⟨zv, hz1, hz2, hz3, hz4, hz5⟩ := zero_some hz
 have hzr := run_zeroValue (P := P) (w := w) h2 hz1
 have hrep := (hz5 C w O B M).repl len
 obtain ⟨vs', h3, h4⟩ := fill_sound hp hrep hf
 have hzs : 0 < zv.cells.size := by omega
 have hrm := rep_mod len zv.cells
 have hlen : vs'.length = len * i.info.size := by
  rw [h4.len, fill_length hf, rep_length, hz3]
 have hst := step_row (serial := serial) (st := st) hs hn hi h4 [] (len := len) (cap := len) (some len) (Nat.le_refl _) (by simpa using hlen) (fun k hk => by cases hk; rfl)
 simp only [List.append_nil] at hst
 refine ⟨_, _, _, _, ?_, hst.1, hst.2⟩
 have hle : ¬ (len * i.info.size > 2 ^ 24) := by omega
 by_cases h0 : len * i.info.size = 0
 ·have hl0 : len = 0 := by rcases Nat.mul_eq_zero.1 h0 with h | h <;> omega
  subst hl0
  simp only [List.replicate_zero, List.flatten_nil] at h3
  simp only [Instr.buildSlice, Sem.run_bind, run_underlying (hT.elem he), Result.andThen_ok, run_sizeOf h2, Nat.zero_mul, not_big, if_false, if_true, Sem.run_pure, range0, h3, newRow, run_newObj]
  rfl
 ·have hcells : (Array.range (len * i.info.size)).map (zv.cells[· % zv.cells.size]!) = ((List.replicate len zv.cells.toList).flatten).toArray := by
   have := hrm
   rw [hz4] at this
   simpa [hz4] using this
  simp only [Instr.buildSlice, Sem.run_bind, Sem.run_ite, run_underlying (hT.elem he), Result.andThen_ok, run_sizeOf h2, hle, if_false, h0, hzr, Sem.run_pure, hcells, h3, newRow, run_newObj]
  rfl
theorem mMakeSlice_sound (hT : TyOk P C) {serial : Bool} {st st' : St} (hs : Sit C w O B M st.heap) (hn : M st.nxt = none) {t : TypeId} {l c v : AV} {cl cc : Value} (hl : VR C w O B M l cl) (hc : VR C w O B M c cc) (h : mMakeSlice C t l c st = some (v, st')) :
  ∃ cv w' O' M', (Instr.makeSlice t cl cc).run P w = .ok cv w' ∧ VR C w' O' B M' v cv ∧ Step C B serial w O M st w' O' M' st' := by
 unfold mMakeSlice at h
 simp only [Option.bind_eq_some_iff, Option.some.injEq, Prod.mk.injEq] at h
 obtain ⟨e, he, i, hi, z, hz, n, hnc, m, hml, _, hch, rfl, rfl⟩ := h
 have hch := chk_some hch
 simp only [Bool.and_eq_true, Nat.blt_eq] at hch
 obtain ⟨hroom, hpos⟩ := hch
 obtain ⟨hr1, hr2⟩ := room_some hroom
 obtain ⟨h1, h2⟩ := hT.ty e i hi
 obtain ⟨zv, hz1, hz2, hz3, hz4, hz5⟩ := zero_some hz
 have hzr := run_zeroValue (P := P) (w := w) h2 hz1
 obtain ⟨k1, rfl, hn4⟩ := asNat_sound hc hnc
 obtain ⟨k2, rfl, hmn⟩ := asNat_sound hl hml
 have hrep := (hz5 C w O B M).repl n
 have hrm := rep_mod n zv.cells
 have hst := step_row (serial := serial) (st := st) hs hn hi hrep [] (len := m) (cap := n) (some n) hmn (by simp [hz4]) (fun k hk => by cases hk; rfl)
 simp only [List.append_nil] at hst
 refine ⟨_, _, _, _, ?_, hst.1, hst.2⟩
 have w1 : IntKind.i64.wrap (n : Int) = n := wrap_nat (by omega)
 have w2 : IntKind.i64.wrap (m : Int) = m := wrap_nat (by omega)
 have hb : (i.info.bytes : Int) * (n : Int) ≤ 281474976710656 := by
  have e0 : (i.info.bytes : Int) * (n : Int) = ((n * i.info.bytes : Nat) : Int) := by rw [Int.natCast_mul, Int.mul_comm]
  rw [e0]
  omega
 have a1 : decide ((n : Int) < 0) = false := decide_eq_false (by omega)
 have a2 : decide ((i.info.bytes : Int) * (n : Int) > 2 ^ 48) = false := decide_eq_false (by omega)
 have a3 : decide ((m : Int) < 0) = false := decide_eq_false (by omega)
 have a4 : decide ((m : Int) > (n : Int)) = false := decide_eq_false (by omega)
 by_cases h0 : n * i.info.size = 0
 ·have hl0 : n = 0 := by rcases Nat.mul_eq_zero.1 h0 with h | h <;> omega
  subst hl0
  simp only [Instr.makeSlice, asInt, asIntOf, Sem.run_bind, Sem.run_ite, run_underlying (hT.elem he), Result.andThen_ok, Sem.run_pure, run_typeInfo h2, w1, w2, a1, a2, a3, a4, Bool.or_self, Bool.false_eq_true, if_false, run_askRoom, Int.toNat_natCast, run_sizeOf h2, Nat.zero_mul, if_true, range0, newRow, run_newObj]
  rfl
 ·have hcells : (Array.range (n * i.info.size)).map (zv.cells[· % zv.cells.size]!) = ((List.replicate n zv.cells.toList).flatten).toArray := by
   have := hrm
   rw [hz4] at this
   simpa [hz4] using this
  simp only [Instr.makeSlice, asInt, asIntOf, Sem.run_bind, Sem.run_ite, run_underlying (hT.elem he), Result.andThen_ok, Sem.run_pure, run_typeInfo h2, w1, w2, a1, a2, a3, a4, Bool.or_self, Bool.false_eq_true, if_false, run_askRoom, Int.toNat_natCast, run_sizeOf h2, h0, hzr, hcells, newRow, run_newObj]
  rfl
end
end Go.Ev
namespace Go.Ev
open Go
section
variable {P : Program} {C : Ctx} {w : World} {O B : Nat → Prop} {M : MapB} {H : Heap}
theorem run_getMap {r ck : Nat} {es : Array MapEntry} (hb : w.heap[r]? = some (.map es ck)) : (getObj r).run P w = .ok (.map es ck) w := by simp [getObj, Sem.run, hb]
theorem run_setMap {r ck : Nat} {es : Array MapEntry} (o : Obj) (hb : w.heap[r]? = some (.map es ck)) : (setObj r o).run P w = .ok () { w with heap := w.heap.setIfInBounds r o } := by simp [setObj, Sem.run, hb]
theorem mLen_sound (hT : TyOk P C) {t ty : TypeId} {x v : AV} {cx : Value} {ts : Array TypeId} (hs : isMap C t = false ∨ Sit C w O B M H) (h0 : ts[0]? = some t) (hx : VR C w O B M x cx) (h : mLen C t x H = some v) : ∃ cv, (Builtin.len_ ts ty #[cx]).run P w = .ok cv w ∧ VR C w O B M v cv := by
 unfold mLen at h
 simp only [Option.bind_eq_some_iff] at h
 obtain ⟨d, hd, h⟩ := h
 have hu := hT.under hd
 split at h
 ·obtain ⟨bs, rfl, rfl⟩ := hx.str_inv
  obtain rfl := Option.some.inj h
  exact ⟨_, by simp [Builtin.len_, h0, run_underlying hu, goInt], .int _ _⟩
 ·cases hx; obtain rfl := Option.some.inj h
  exact ⟨_, by simp [Builtin.len_, h0, run_underlying hu, goInt], .int _ _⟩
 ·cases hx; obtain rfl := Option.some.inj h
  exact ⟨_, by simp [Builtin.len_, h0, run_underlying hu, goInt], .int _ _⟩
 ·cases hx; obtain rfl := Option.some.inj h
  exact ⟨_, by simp [Builtin.len_, h0, run_underlying hu, goInt], .int _ _⟩
 ·cases hx; obtain rfl := Option.some.inj h
  exact ⟨_, by simp [Builtin.len_, h0, run_underlying hu, goInt], .int _ _⟩
 ·cases hx with
  | mdat _ _ _ _ _ blk es hlt hO hB hck hcu hblk hlk =>
   obtain rfl := Option.some.inj h
   refine ⟨.int .i64 es.size, by simp [Builtin.len_, h0, run_underlying hu, goInt, run_getMap hblk], ?_⟩
   rw [hlk]; exact .int _ _
 ·rename_i b
  rcases hs with hs | hs
  ·simp [isMap, hd] at hs
  ·obtain ⟨⟨ks, us, bs, ck⟩, hm, e⟩ := Option.map_eq_some_iff.1 h
   obtain rfl := e
   cases hx with
   | mref _ cb hM =>
    obtain ⟨cb', base, hM', _, hr⟩ := hs.own b _ (hmap_some hm)
    rw [hM] at hM'
    obtain ⟨rfl, rfl⟩ := Prod.mk.inj (Option.some.inj hM')
    cases hr with
    | map _ _ _ _ es h0' hblk hlk =>
     refine ⟨.int .i64 es.size, by simp [Builtin.len_, h0, run_underlying hu, goInt, run_getMap hblk], ?_⟩
     rw [hlk]; exact .int _ _
 ·cases h
theorem mCap_sound (hT : TyOk P C) {t ty : TypeId} {x v : AV} {cx : Value} {ts : Array TypeId} (h0 : ts[0]? = some t) (hx : VR C w O B M x cx) (h : mCap C t x = some v) : ∃ cv, (Builtin.cap_ ts ty #[cx]).run P w = .ok cv w ∧ VR C w O B M v cv := by
 unfold mCap at h
 simp only [Option.bind_eq_some_iff] at h
 obtain ⟨e, he, h⟩ := h
 have hu := hT.elem he
 split at h
 ·cases hx; obtain rfl := Option.some.inj h
  exact ⟨_, by simp [Builtin.cap_, h0, run_underlying hu, goInt], .int _ _⟩
 ·rename_i n
  obtain ⟨cb, base, c, e1, i1, cc, fz, rfl, _, _, _, _, _, hcap, _⟩ := hx.sref_inv
  obtain rfl := Option.some.inj h
  rw [hcap n rfl]
  exact ⟨_, by simp [Builtin.cap_, h0, run_underlying hu, goInt], .int _ _⟩
 ·rename_i n
  obtain ⟨blk, o, c, vs, rfl, _, hcap, _⟩ := hx.sdat_cells
  obtain rfl := Option.some.inj h
  rw [hcap n rfl]
  exact ⟨_, by simp [Builtin.cap_, h0, run_underlying hu, goInt], .int _ _⟩
 ·cases h
theorem mCopy_sound (hT : TyOk P C) {st st' : St} (hs : Sit C w O B M st.heap) {t ty : TypeId} {ts : Array TypeId} (h0 : ts[0]? = some t) {d s v : AV} {cd cs : Value} (hd : VR C w O B M d cd) (hsv : VR C w O B M s cs) (h : mCopy C t d s st = some (v, st')) :
  ∃ cv w', (Builtin.copy_ ts ty #[cd, cs]).run P w = .ok cv w' ∧ VR C w' O B M v cv ∧ Step C B true w O M st w' O M st' := by
 unfold mCopy at h
 simp only [Option.bind_eq_some_iff] at h
 obtain ⟨e, he, sz, hsz, _, hpos, ⟨n, new⟩, hsrc, h⟩ := h
 have hpos : 0 < sz := by simpa using chk_some hpos
 have hu := hT.elem he
 obtain ⟨i, hi, hi2⟩ := size_some hsz
 have hie := (hT.ty e i hi).2
 obtain ⟨us, hcn, hnl, hlen, hfc⟩ := source_sound (P := P) hs hsv hsrc
 have hul : us.length = n * sz := by rw [hcn.len, hnl]
 split at h
 ·cases hd
  simp only [Option.some.injEq, Prod.mk.injEq] at h
  obtain ⟨rfl, rfl⟩ := h
  have hf := (hfc 0 (Nat.zero_le _)).1
  refine ⟨.int .i64 0, w, ?_, .int _ _, .refl hs⟩
  simp [Builtin.copy_, h0, run_underlying hu, hlen, run_sizeOf hie, hi2, hf, goInt]
 ·rename_i b off len cap
  simp only [Option.bind_eq_some_iff, Option.some.injEq, Prod.mk.injEq] at h
  obtain ⟨⟨e', acs⟩, hcs, _, hch, rfl, rfl⟩ := h
  have hch : off + min n len * sz ≤ acs.length := by simpa using chk_some hch
  obtain ⟨cb, base, c, e1, i1, cc, fz, rfl, hM, hblk, _⟩ := hd.sref_inv
  obtain ⟨cc', fz', hblk', hfz, hfit', hO, hcr, hat⟩ := hs.cells hcs hM
  rw [hblk] at hblk'
  cases hblk'
  have hf := (hfc (min n len) (Nat.min_le_left _ _)).1
  have hrow := hcn.take (min n len * sz)
  have hrl : (new.take (min n len * sz)).length = min n len * sz := by
   rw [List.length_take, hnl]
   exact Nat.min_eq_left (Nat.mul_le_mul_right _ (Nat.min_le_left _ _))
  have hul2 : (us.take (min n len * sz)).length = min n len * sz := by rw [hrow.len, hrl]
  have hst := run_storeCells_fz (P := P) cb (base + off) e' fz (us.take (min n len * sz)) 0 cc w hblk hfz.or (by omega) hrow.one
  simp only [Nat.add_zero] at hst
  have hw := step_write hs hcs hM hblk hrow (off := off) (by omega)
  refine ⟨.int .i64 (min n len : Nat), _, ?_, .int _ _, hw⟩
  simp only [Builtin.copy_, h0, List.getElem?_toArray, List.getElem?_cons_zero, List.getElem?_cons_succ, Sem.run_bind, run_underlying hu, Result.andThen_ok, hlen, run_sizeOf hie, hi2, show Nat.min n len = min n len from rfl, hf, hst, Sem.run_pure, goInt]
 ·cases h
theorem mClear_sound (hT : TyOk P C) {st st' : St} (hs : Sit C w O B M st.heap) {t ty : TypeId} {ts : Array TypeId} (h0 : ts[0]? = some t) {x v : AV} {cx : Value} (hx : VR C w O B M x cx) (h : mClear C t x st = some (v, st')) :
  ∃ cv w', (Builtin.clear_ ts ty #[cx]).run P w = .ok cv w' ∧ VR C w' O B M v cv ∧ Step C B true w O M st w' O M st' := by
 unfold mClear at h
 simp only [Option.bind_eq_some_iff] at h
 obtain ⟨e, he, i, hi, z, hz, h⟩ := h
 have hu := hT.elem he
 obtain ⟨h1, h2⟩ := hT.ty e i hi
 obtain ⟨zv, hz1, hz2, hz3, hz4, hz5⟩ := zero_some hz
 have tupN : ∀ w' : World, VR C w' O B M (.tup []) (.tuple #[]) := fun w' => .tup [] [] rfl (fun j h => by cases h)
 split at h
 ·cases hx
  simp only [Option.some.injEq, Prod.mk.injEq] at h
  obtain ⟨rfl, rfl⟩ := h
  exact ⟨_, w, by simp [Builtin.clear_, h0, run_underlying hu], tupN w, .refl hs⟩
 ·obtain ⟨blk, o, c, vs, rfl, _⟩ := hx.sdat_cells
  simp only [Option.some.injEq, Prod.mk.injEq] at h
  obtain ⟨rfl, rfl⟩ := h
  exact ⟨_, w, by simp [Builtin.clear_, h0, run_underlying hu], tupN w, .refl hs⟩
 ·rename_i b off len cap
  obtain ⟨cb, base, c, e1, i1, cc, fz, rfl, hM, hblk, _⟩ := hx.sref_inv
  cases hb : Nat.beq len 0 with
  | true =>
   rw [hb] at h
   obtain rfl := (beq_iff _ _).1 hb
   simp only [cond_true, Option.some.injEq, Prod.mk.injEq] at h
   obtain ⟨rfl, rfl⟩ := h
   exact ⟨_, w, by simp [Builtin.clear_, h0, run_underlying hu], tupN w, .refl hs⟩
  | false =>
   rw [hb] at h
   simp only [cond_false, Option.bind_eq_some_iff, Option.some.injEq, Prod.mk.injEq] at h
   obtain ⟨⟨e', acs⟩, hcs, _, hch, rfl, rfl⟩ := h
   have hch := chk_some hch
   simp only [Bool.and_eq_true, Nat.ble_eq, Nat.blt_eq] at hch
   have hne : len ≠ 0 := fun e => by rw [e] at hb; cases hb
   obtain ⟨cc', fz', hblk', hfz, hfit', hO, hcr, hat⟩ := hs.cells hcs hM
   rw [hblk] at hblk'
   cases hblk'
   have hrow := (hz5 C w O B M).repl len
   have hrl := rep_length len z.cells
   rw [hz3] at hrl
   have hzc : (Builtin.zeroCells zv.cells len).toList = (List.replicate len zv.cells.toList).flatten := by
    have := rep_mod len zv.cells
    simp only [Builtin.zeroCells]
    rw [this]
   have hlz : ((List.replicate len zv.cells.toList).flatten).length = len * i.info.size := by rw [hrow.len, hrl]
   have hst := run_storeCells_fz (P := P) cb (base + off) _ fz ((List.replicate len zv.cells.toList).flatten) 0 cc w hblk hfz.or (by omega) hrow.one
   simp only [Nat.add_zero] at hst
   have hw := step_write hs hcs hM hblk hrow (off := off) (by omega)
   refine ⟨.tuple #[], _, ?_, tupN _, hw⟩
   obtain ⟨k, rfl⟩ : ∃ k, len = k + 1 := ⟨len - 1, by omega⟩
   simp only [Builtin.clear_, h0, List.getElem?_toArray, List.getElem?_cons_zero, Sem.run_bind, run_underlying hu, Result.andThen_ok, run_zeroValue h2 hz1, hzc, hst, Sem.run_pure]
 ·cases h
theorem u8s_sound : ∀ {cs : List AV} {vs : List Value} {l : List UInt8}, CR C w O B M cs vs → u8s cs = some l → ∃ ns : List Nat, vs = ns.map (fun (n : Nat) => Value.int .u8 (n : Int)) ∧ l = ns.map UInt8.ofNat
 | [], vs, l, hc, h => by
  have := hc.len
  simp [u8s] at h
  subst h
  exact ⟨[], by simp at this; simp [this], rfl⟩
 | x :: r, vs, l, hc, h => by
  unfold u8s at h
  split at h
  ·rename_i heq; cases heq
  ·rename_i n r' heq
   cases heq
   simp only [Option.bind_eq_some_iff, Option.some.injEq] at h
   obtain ⟨l', hl', rfl⟩ := h
   cases vs with
   | nil => have := hc.len; simp at this
   | cons v vs =>
    have h1 := hc.rel 0 (by simp) (by simp)
    simp only [List.getElem_cons_zero] at h1
    have hr := hc.drop 1
    simp only [List.drop_succ_cons, List.drop_zero] at hr
    obtain ⟨ns, h2, h3⟩ := u8s_sound hr hl'
    cases h1
    exact ⟨n :: ns, by simp [h2], by simp [h3]⟩
  ·cases h
theorem push_all (ns : List Nat) (s : ByteArray) : ((ns.map fun (n : Nat) => (n : Int)).foldl (fun r n => r.push (UInt8.ofNat n.toNat)) s).data.toList = s.data.toList ++ ns.map UInt8.ofNat := by
 induction ns generalizing s with
 | nil => simp
 | cons n ns ih =>
  simp only [List.map_cons, List.foldl_cons, ih]
  simp [ByteArray.push]
theorem mConvert_sound (hT : TyOk P C) (hs : Sit C w O B M H) {src dst : TypeId} {x v : AV} {cx : Value} (hx : VR C w O B M x cx) (h : mConvert C src dst x H = some v) :
  ∃ cv, (convert src dst cx).run P w = .ok cv w ∧ VR C w O B M v cv := by
 unfold mConvert at h
 simp only [Option.bind_eq_some_iff] at h
 obtain ⟨s, hsd, d, hdd, h⟩ := h
 have hus := hT.under hsd
 have hud := hT.under hdd
 split at h
 ·cases hx; obtain rfl := Option.some.inj h
  exact ⟨_, by simp [convert, run_underlying hus, run_underlying hud, Conv.intToInt], .int _ _⟩
 ·obtain ⟨bs, rfl, rfl⟩ := hx.str_inv
  obtain rfl := Option.some.inj h
  exact ⟨_, by simp [convert, run_underlying hus, run_underlying hud], .str _ _ rfl⟩
 ·split at h
  ·rename_i e
   simp only [Option.bind_eq_some_iff] at h
   obtain ⟨ed, hed, h⟩ := h
   have hue := hT.under hed
   split at h
   ·cases hx; obtain rfl := Option.some.inj h
    refine ⟨.string .empty, ?_, .str _ _ rfl⟩
    simp [convert, run_underlying hus, run_underlying hud, run_underlying hue, Conv.bytesToString]
   ·rename_i b off len cap _
    simp only [Option.bind_eq_some_iff, Option.some.injEq] at h
    obtain ⟨⟨e', cs⟩, hcs, _, hch, l, hl, rfl⟩ := h
    have hch : off + len ≤ cs.length := by simpa using chk_some hch
    obtain ⟨cb, base, c, e1, i1, cc, fz, rfl, hM, _⟩ := hx.sref_inv
    obtain ⟨cc', fz', hblk, hfz, hfit, hO, hcr, hat⟩ := hs.cells hcs hM
    obtain ⟨ns, h1, h2⟩ := u8s_sound ((hcr.drop off).take len) hl
    have hld := run_loadCells_at (P := P) (n := len) (hat.drop off) (by simp; omega)
    have hlen : (((cc'.toList.drop base).take cs.length).drop off).length ≥ len := by simp; omega
    rw [h1] at hld
    have e1 : (ns.map fun (n : Nat) => Value.int .u8 (n : Int)) = (ns.map fun (n : Nat) => (n : Int)).map (Value.int .u8) := by simp
    rw [e1] at hld
    refine ⟨_, (run_convert_bytes_string w src dst e _ _ _ hus hue hud).trans (run_bytesToString w _ len c _ hld), .str _ _ ?_⟩
    rw [push_all, h2]
    rfl
   ·cases h
  ·cases h
 ·cases h
end
end Go.Ev
namespace Go.Ev
open Go
section
variable {P : Program} {C : Ctx} {w : World} {O B : Nat → Prop} {M : MapB} {H : Heap}
theorem mNext_sound {st st' : St} (hs : Sit C w O B M st.heap) {ty : TypeId} {x v : AV} {cx : Value} (hx : VR C w O B M x cx) (h : mNext x st = some (v, st')) :
  ∃ cv w', (Instr.next cx true ty).run P w = .ok cv w' ∧ VR C w' O B M v cv ∧ Step C B true w O M st w' O M st' := by
 unfold mNext at h
 split at h
 ·rename_i b
  split at h
  ·rename_i s pos hg
   cases hx with
   | pref _ _ cb base hM =>
    obtain ⟨cb', base', hM', hO, hr⟩ := hs.own b _ hg
    rw [hM] at hM'
    obtain ⟨rfl, rfl⟩ := Prod.mk.inj (Option.some.inj hM')
    cases hr with
    | siter _ _ bs hb hb0 hblk =>
     subst hb0
     subst hb
     cases hq : Nat.blt pos bs.data.toList.length with
     | true =>
      rw [hq] at h
      simp only [cond_true, Option.bind_eq_some_iff, Option.some.injEq, Prod.mk.injEq] at h
      obtain ⟨⟨c, wd⟩, hu, rfl, rfl⟩ := h
      have hlt : pos < bs.size := by simpa using hq
      unfold utf8At at hu
      split at hu
      ·rename_i c0 r hdr
       simp only [Option.bind_eq_some_iff, Option.some.injEq, Prod.mk.injEq] at hu
       obtain ⟨_, hc, rfl, rfl⟩ := hu
       have hc : c0.toNat < 128 := by simpa using chk_some hc
       have hc0 : bs[pos] = c0 := by
        have h1 : (bs.data.toList.drop pos)[0]? = some c0 := by rw [hdr]; rfl
        rw [List.getElem?_drop, Nat.add_zero, List.getElem?_eq_getElem (by simpa using hlt)] at h1
        have h2 := Option.some.inj h1
        show bs.data[pos] = c0
        simpa using h2
       have hd := decode_ascii bs pos hlt (by rw [hc0]; exact hc)
       rw [hc0] at hd
       have hrun : (Instr.next (.pointer (some ⟨cb, 0 + 0, none⟩)) true ty).run P w = .ok (.tuple #[.bool true, goInt pos, .int .i32 c0.toNat]) { w with heap := w.heap.setIfInBounds cb (.stringIter bs (pos + 1)) } := by
        simp [Instr.next, getObj, setObj, Sem.run, hblk, hlt, hd, Bind.bind, Sem.bind, Pure.pure]
       have hx' : Ext w O M { w with heap := w.heap.setIfInBounds cb (.stringIter bs (pos + 1)) } O M := by
        refine ⟨rfl, rfl, rfl, by simp, fun k hk hn => ?_, fun k c e fz hk => ⟨c, ?_, rfl⟩, fun _ h => .inl h, fun _ _ h => h⟩
        ·simp only [Array.getElem?_setIfInBounds]
         rw [if_neg (fun e : cb = k => hn (e ▸ hO))]
        ·simp only [Array.getElem?_setIfInBounds]
         rw [if_neg (fun e : cb = k => by subst e; rw [hblk] at hk; cases hk)]
         exact hk
       have hlt2 : cb < w.heap.size := (Array.getElem?_eq_some_iff.1 hblk).1
       refine ⟨_, _, hrun, .tup _ [_, _, _] rfl (fun j h1 h2 => ?_), Step.put hs hg hM hx' (fun k hk => ?_) (.siter _ _ bs rfl rfl (by simp [hlt2]))⟩
       ·match j with
        | 0 => exact .bool _
        | 1 => exact .int _ _
        | 2 => exact .int _ _
       ·simp only [Array.getElem?_setIfInBounds]
        rw [if_neg (fun e => hk e.symm)]
      ·cases hu
     | false =>
      rw [hq] at h
      simp only [cond_false, Option.some.injEq, Prod.mk.injEq] at h
      obtain ⟨rfl, rfl⟩ := h
      have hge : ¬ pos < bs.size := by
       intro hh
       have : Nat.blt pos bs.data.toList.length = true := by simpa using hh
       rw [this] at hq; cases hq
      refine ⟨.tuple #[.bool false], w, ?_, .tup _ [_] rfl (fun j h1 h2 => ?_), .refl hs⟩
      ·simp [Instr.next, getObj, Sem.run, hblk, hge, Bind.bind, Sem.bind, Pure.pure]
      ·match j with
       | 0 => exact .bool _
  ·cases h
 ·cases h
def FnOk (P : Program) (f : FuncId) (args : Array Value) (w : World) (R : Value → World → Prop) : Prop :=
 ∀ (o : Oper) (a : Act) (next : Act → World → Prop) (Q : Exit → Act → World → Prop), (∀ v w', R v w' → next (a.put o.dst v) w') → o.upon P a next Q ((callFunc f args).run P w)
theorem FnOk.mono {f : FuncId} {args : Array Value} {R R' : Value → World → Prop} (h : FnOk P f args w R) (hr : ∀ v w', R v w' → R' v w') : FnOk P f args w R' :=
 fun o a next Q hn => h o a next Q fun v w' hv => hn v w' (hr v w' hv)
structure LR (C : Ctx) (w : World) (O B : Nat → Prop) (M : MapB) (xs : List AV) (vs : List Value) : Prop where
 len : vs.length = xs.length
 rel : ∀ j (h : j < xs.length) (h' : j < vs.length), VR C w O B M xs[j] vs[j]
def CallOk (P : Program) (C : Ctx) (call : CallF) : Prop :=
 ∀ (f : FuncId) (args : List AV) (st : St) (r : AV) (st' : St), call f args st = some (r, st') → ∀ (w : World) (O B : Nat → Prop) (M : MapB) (cargs : List Value), Sit C w O B M st.heap → (∀ x, O x → x < w.heap.size) →
  (∀ b, st.nxt ≤ b → M b = none) → LR C w O B M args cargs →
  FnOk P f cargs.toArray w fun cv w' => ∃ O' M', VR C w' O' B M' r cv ∧ Step C B true w O M st w' O' M' st'
end
end Go.Ev
