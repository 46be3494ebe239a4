/- A PART OF THE PROOF THAT ONE CALL OF A LAW OF LAYER 46 (which of any patches have a line with any word) returns true, whatever the input; the input reads as it did. No condition beyond the given statement. This part: EvOpsA. -/
import Derived.Test.YtklmbhogclaieaaGreatDoorEvOps9
import Derived.Laws.RangeString
import Derived.IntWalk
namespace Go.Ev
open Go

section
variable {P : Program} {C : Ctx} {w : World} {O B : Nat → Prop} {M : MapB} {H : Heap}

/-! ### Aggregates -/
theorem foldl_write (off : Nat) : ∀ (us : List Value) (j : Nat) (cs : Array Value), off + j + us.length ≤ cs.size →
    ((us.zipIdx j).foldl (fun cs (c, j) => cs.setIfInBounds (off + j) c) cs) = (cs.toList.take (off + j) ++ us ++ cs.toList.drop (off + j + us.length)).toArray
  | [], j, cs, _ => by
    apply Array.ext'
    simp
  | u :: r, j, cs, h => by
    simp only [List.zipIdx_cons, List.foldl_cons]
    rw [foldl_write off r (j + 1) (cs.setIfInBounds (off + j) u) (by simp at h ⊢; omega)]
    apply Array.ext'
    apply List.ext_getElem?
    intro k
    simp only [List.length_cons] at h
    simp only [List.append_assoc, List.getElem?_append, List.length_take, Array.length_toList, Array.size_setIfInBounds, List.getElem?_take, List.getElem?_drop, Array.getElem?_toList, List.length_cons]
    by_cases h1 : k < off + j
    · simp only [show k < min (off + (j + 1)) cs.size by omega, if_true, show k < off + (j + 1) by omega, show k < min (off + j) cs.size by omega, h1]
      rw [Array.getElem?_setIfInBounds_ne (by omega)]
    · by_cases h2 : k = off + j
      · subst h2
        simp only [show off + j < min (off + (j + 1)) cs.size by omega, if_true, show off + j < off + (j + 1) by omega, show ¬ (off + j < min (off + j) cs.size) by omega, if_false, show off + j - min (off + j) cs.size = 0 by omega, show 0 < r.length + 1 by omega, List.getElem?_cons_zero]
        rw [Array.getElem?_setIfInBounds_self_of_lt (by omega)]
      · simp only [show ¬ (k < min (off + (j + 1)) cs.size) by omega, if_false, show ¬ (k < min (off + j) cs.size) by omega, show k - min (off + (j + 1)) cs.size = k - (off + j) - 1 by omega, show k - min (off + j) cs.size = (k - (off + j) - 1) + 1 by omega,
          List.getElem?_cons_succ]
        by_cases h3 : k - (off + j) - 1 < r.length
        · simp only [h3, if_true, show k - (off + j) - 1 + 1 < r.length + 1 by omega]
        · simp only [h3, if_false, show ¬ (k - (off + j) - 1 + 1 < r.length + 1) by omega]
          rw [Array.getElem?_setIfInBounds_ne (by omega)]
          congr 1
          omega

/-- parts, by their places -/
inductive PR (C : Ctx) (w : World) (O B : Nat → Prop) (M : MapB) : List (Nat × AV) → List (Nat × Value) → Prop
  | nil : PR C w O B M [] []
  | cons (i : Nat) (v : AV) (cv : Value) (r : List (Nat × AV)) (cr : List (Nat × Value)) (h : VR C w O B M v cv) (hr : PR C w O B M r cr) : PR C w O B M ((i, v) :: r) ((i, cv) :: cr)

theorem partV_sound (hs : Sit C w O B M H) {ts : List AV} {a : Act} (ht : TR C w O B M ts a) : ∀ {l : List (Nat × Operand)} {ps : List (Nat × AV)}, partV (opVal C ts) l = some ps → PR C w O B M ps (l.map fun (i, x) => (i, a.eval x))
  | [], ps, h => by simp [partV] at h; subst h; exact .nil
  | (i, o) :: r, ps, h => by
    simp only [partV, Option.bind_eq_some_iff] at h
    obtain ⟨x, hx, ys, hy, h⟩ := h
    obtain rfl := Option.some.inj h
    exact .cons _ _ _ _ _ (opVal_sound hs ht hx) (partV_sound hs ht hy)

theorem fill_sound {place : Nat → Option (Nat × Nat)} : ∀ {ps : List (Nat × AV)} {cps : List (Nat × Value)} {cs cs' : List AV} {vs : List Value}, PR C w O B M ps cps → CR C w O B M cs vs → fillAV place cs ps = some cs' →
    ∃ vs', Instr.fill place vs.toArray cps = some vs'.toArray ∧ CR C w O B M cs' vs'
  | [], _, cs, cs', vs, hp, hc, h => by
    cases hp
    simp [fillAV] at h
    subst h
    exact ⟨vs, rfl, hc⟩
  | (i, v) :: r, _, cs, cs', vs, hp, hc, h => by
    cases hp with
    | cons _ _ cv _ cr hv hr =>
      simp only [fillAV, Option.bind_eq_some_iff] at h
      obtain ⟨⟨off, size⟩, hpl, row, hrow, _, hch, h⟩ := h
      have hch := chk_some hch
      simp only [Bool.and_eq_true, beq_iff, Nat.ble_eq] at hch
      have hrw := hv.row hrow
      have hl := hrw.len
      have hcl := hc.len
      have hn : ¬ (cv.cells.size ≠ size || off + cv.cells.size > vs.toArray.size) = true := by
        simp at hl ⊢
        omega
      obtain ⟨vs', h1, h2⟩ := fill_sound hr (hc.write hrw off) h
      refine ⟨vs', ?_, h2⟩
      simp only [Instr.fill, hpl, hn, Bool.false_eq_true, if_false]
      rw [← h1]
      congr 1
      have := foldl_write off cv.cells.toList 0 vs.toArray (by simp at hl ⊢; omega)
      rw [← Array.foldl_toList, Array.toList_zipIdx]
      simpa using this

theorem run_mapM {α β : Type} {f : α → Sem β} {g : α → β} : ∀ {l : List α}, (∀ x ∈ l, (f x).run P w = .ok (g x) w) → (l.mapM f).run P w = .ok (l.map g) w
  | [], _ => by simp
  | x :: r, h => by
    have h1 := h x (by simp)
    have h2 := run_mapM (f := f) (g := g) (l := r) (fun y hy => h y (by simp [hy]))
    simp [h1, h2]

theorem run_places {fs : Array Field} (hT : TyOk P C) (h : (fs.toList.all fun f => (C.size f.type).isSome) = true) :
    (fs.mapM (fun f => do pure (f.offset, ← sizeOf f.type) : Field → Sem (Nat × Nat))).run P w = .ok (fs.map fun f => (f.offset, (C.size f.type).getD 0)) w := by
  have h1 : (fs.toList.mapM (fun f => do pure (f.offset, ← sizeOf f.type) : Field → Sem (Nat × Nat))).run P w = .ok (fs.toList.map fun f => (f.offset, (C.size f.type).getD 0)) w := by
    refine run_mapM fun f hf => ?_
    have h2 := List.all_eq_true.1 h f hf
    obtain ⟨n, hn⟩ := Option.isSome_iff_exists.1 h2
    obtain ⟨i, hi, hs⟩ := size_some hn
    simp [run_sizeOf (hT.ty _ i hi).2, hn, hs]
  rw [Array.mapM_eq_mapM_toList]
  simp only [Sem.run_map, h1, Result.andThen_ok]
  congr 1
  apply Array.ext'
  simp

theorem fieldPlace_eq {fs : Array Field} (h : (fs.toList.all fun f => (C.size f.type).isSome) = true) (j : Nat) : fieldPlace C fs j = (fs.map fun f => (f.offset, (C.size f.type).getD 0))[j]? := by
  unfold fieldPlace
  cases hf : fs[j]? with
  | none => simp [hf]
  | some f =>
    have hm : f ∈ fs.toList := by
      rw [Array.mem_toList_iff]
      exact Array.mem_of_getElem? hf
    obtain ⟨n, hn⟩ := Option.isSome_iff_exists.1 (List.all_eq_true.1 h f hm)
    simp [hf, hn]

theorem mBuild_sound (hT : TyOk P C) {t : TypeId} {ps : List (Nat × AV)} {cps : List (Nat × Value)} {v : AV} (hp : PR C w O B M ps cps) (h : mBuild C t ps = some v) :
    ∃ cv, (Instr.build t cps.toArray).run P w = .ok cv w ∧ VR C w O B M v cv := by
  unfold mBuild at h
  simp only [Option.bind_eq_some_iff] at h
  obtain ⟨i, hi, z, hz, h⟩ := h
  obtain ⟨h1, h2⟩ := hT.ty t i hi
  obtain ⟨zv, hz1, hz2, hz3, hz4, hz5⟩ := zero_some hz
  have hzr := run_zeroValue (P := P) (w := w) h2 hz1
  split at h
  · rename_i fs hd
    rw [hd] at h1
    simp only [Option.bind_eq_some_iff, Option.some.injEq] at h
    obtain ⟨_, hall, cs, hf, rfl⟩ := h
    have hall := chk_some hall
    have e : fieldPlace C fs = fun j => (fs.map fun f => (f.offset, (C.size f.type).getD 0))[j]? := funext (fieldPlace_eq hall)
    rw [e] at hf
    obtain ⟨vs', h3, h4⟩ := fill_sound hp (hz5 C w O B M) hf
    refine ⟨.agg vs'.toArray, ?_, .ofAgg h4⟩
    simp only [Array.toArray_toList] at h3
    simp only [Instr.build, Sem.run_bind, hzr, Result.andThen_ok, run_underlying h1, run_places hT hall, h3, Sem.run_pure]
  · rename_i n e hd
    rw [hd] at h1
    simp only [Option.bind_eq_some_iff, Option.some.injEq] at h
    obtain ⟨sz, hsz, cs, hf, rfl⟩ := h
    obtain ⟨ie, hie, hs⟩ := size_some hsz
    obtain ⟨vs', h3, h4⟩ := fill_sound hp (hz5 C w O B M) hf
    refine ⟨.agg vs'.toArray, ?_, .ofAgg h4⟩
    simp only [Array.toArray_toList] at h3
    simp only [Instr.build, Sem.run_bind, hzr, Result.andThen_ok, run_underlying h1, run_sizeOf (hT.ty e ie hie).2, hs, h3, Sem.run_pure]
  · cases h

theorem range0 {α : Type} (f : Nat → α) : (Array.range 0).map f = #[] := by simp
theorem not_big : ¬ (0 > 2 ^ 24) := by decide

theorem wrap_nat {n : Nat} (h : n ≤ 4611686018427387903) : IntKind.i64.wrap (n : Int) = n := by
  unfold IntKind.wrap
  simp only [IntKind.bits, IntKind.signed, Bool.true_and, decide_eq_true_eq, ge_iff_le]
  have e : ((n : Int) % 2 ^ 64) = n := Int.emod_eq_of_lt (by omega) (by omega)
  have h1 : ¬ ((2 : Int) ^ (64 - 1) ≤ (n : Int) % 2 ^ 64) := by rw [e]; omega
  rw [if_neg h1, e]

theorem rep_mod (n : Nat) (z : Array Value)   : (Array.range (n * z.size)).map (z[· % z.size]!) = ((List.replicate n z.toList).flatten).toArray := by
  apply Array.ext'
  simp only [Array.toList_map, Array.toList_range]
  induction n with
  | zero => simp
  | succ n ih =>
    rw [List.replicate_succ', List.flatten_append, ← ih, Nat.add_mul, Nat.one_mul, List.range_add, List.map_append]
    congr 1
    simp only [List.flatten_cons, List.flatten_nil, List.append_nil, List.map_map]
    apply List.ext_getElem
    · simp
    · intro j h1 h2
      simp at h1
      simp [Nat.mod_eq_of_lt h1, h1]

theorem fill_length {place : Nat → Option (Nat × Nat)} : ∀ {ps : List (Nat × AV)} {cs cs' : List AV}, fillAV place cs ps = some cs' → cs'.length = cs.length
  | [], cs, cs', h => by simp [fillAV] at h; subst h; rfl
  | (i, v) :: r, cs, cs', h => by
    simp only [fillAV, Option.bind_eq_some_iff] at h
    obtain ⟨⟨off, size⟩, _, row, _, _, hch, h⟩ := h
    have hch := chk_some hch
    simp only [Bool.and_eq_true, Nat.ble_eq] at hch
    rw [fill_length h]
    simp [writeAt]
    omega

theorem rep_length (n : Nat) (z : List AV) : (rep n z).length = n * z.length := by
  simp [rep]

theorem mBuildSlice_sound (hT : TyOk P C) {serial : Bool} {st st' : St} (hs : Sit C w O B M st.heap) (hn : M st.nxt = none) {t : TypeId} {len : Nat} {ps : List (Nat × AV)} {cps : List (Nat × Value)} {v : AV} (hp : PR C w O B M ps cps) (h : mBuildSlice C t len ps st = some (v, st')) :
    ∃ cv w' O' M', (Instr.buildSlice t len cps.toArray).run P w = .ok cv w' ∧ VR C w' O' B M' v cv ∧ Step C B serial w O M st w' O' M' st' := by
  unfold mBuildSlice at h
  simp only [Option.bind_eq_some_iff, Option.some.injEq, Prod.mk.injEq] at h
  obtain ⟨e, he, i, hi, z, hz, _, hch, cs, hf, rfl, rfl⟩ := h
  have hch := chk_some hch
  simp only [Bool.and_eq_true, Nat.ble_eq, Nat.blt_eq] at hch
  obtain ⟨h1, h2⟩ := hT.ty e i hi
  obtain ⟨zv, hz1, hz2, hz3, hz4, hz5⟩ := zero_some hz
  have hzr := run_zeroValue (P := P) (w := w) h2 hz1
  have hrep := (hz5 C w O B M).repl len
  obtain ⟨vs', h3, h4⟩ := fill_sound hp hrep hf
  have hzs : 0 < zv.cells.size := by omega
  have hrm := rep_mod len zv.cells
  have hlen : vs'.length = len * i.info.size := by
    rw [h4.len, fill_length hf, rep_length, hz3]
  have hst := step_row (serial := serial) (st := st) hs hn hi h4 [] (len := len) (cap := len) (some len) (Nat.le_refl _) (by simpa using hlen) (fun k hk => by cases hk; rfl)
  simp only [List.append_nil] at hst
  refine ⟨_, _, _, _, ?_, hst.1, hst.2⟩
  have hle : ¬ (len * i.info.size > 2 ^ 24) := by omega
  by_cases h0 : len * i.info.size = 0
  · have hl0 : len = 0 := by rcases Nat.mul_eq_zero.1 h0 with h | h <;> omega
    subst hl0
    simp only [List.replicate_zero, List.flatten_nil] at h3
    simp only [Instr.buildSlice, Sem.run_bind, run_underlying (hT.elem he), Result.andThen_ok, run_sizeOf h2, Nat.zero_mul, not_big, if_false, if_true, Sem.run_pure, range0, h3, newRow, run_newObj]
    rfl
  · have hcells : (Array.range (len * i.info.size)).map (zv.cells[· % zv.cells.size]!) = ((List.replicate len zv.cells.toList).flatten).toArray := by
      have := hrm
      rw [hz4] at this
      simpa [hz4] using this
    simp only [Instr.buildSlice, Sem.run_bind, Sem.run_ite, run_underlying (hT.elem he), Result.andThen_ok, run_sizeOf h2, hle, if_false, h0, hzr, Sem.run_pure, hcells, h3, newRow, run_newObj]
    rfl

theorem mMakeSlice_sound (hT : TyOk P C) {serial : Bool} {st st' : St} (hs : Sit C w O B M st.heap) (hn : M st.nxt = none) {t : TypeId} {l c v : AV} {cl cc : Value} (hl : VR C w O B M l cl) (hc : VR C w O B M c cc) (h : mMakeSlice C t l c st = some (v, st')) :
    ∃ cv w' O' M', (Instr.makeSlice t cl cc).run P w = .ok cv w' ∧ VR C w' O' B M' v cv ∧ Step C B serial w O M st w' O' M' st' := by
  unfold mMakeSlice at h
  simp only [Option.bind_eq_some_iff, Option.some.injEq, Prod.mk.injEq] at h
  obtain ⟨e, he, i, hi, z, hz, n, hnc, m, hml, _, hch, rfl, rfl⟩ := h
  have hch := chk_some hch
  simp only [Bool.and_eq_true, Nat.blt_eq] at hch
  obtain ⟨hroom, hpos⟩ := hch
  obtain ⟨hr1, hr2⟩ := room_some hroom
  obtain ⟨h1, h2⟩ := hT.ty e i hi
  obtain ⟨zv, hz1, hz2, hz3, hz4, hz5⟩ := zero_some hz
  have hzr := run_zeroValue (P := P) (w := w) h2 hz1
  obtain ⟨k1, rfl, hn4⟩ := asNat_sound hc hnc
  obtain ⟨k2, rfl, hmn⟩ := asNat_sound hl hml
  have hrep := (hz5 C w O B M).repl n
  have hrm := rep_mod n zv.cells
  have hst := step_row (serial := serial) (st := st) hs hn hi hrep [] (len := m) (cap := n) (some n) hmn (by simp [hz4]) (fun k hk => by cases hk; rfl)
  simp only [List.append_nil] at hst
  refine ⟨_, _, _, _, ?_, hst.1, hst.2⟩
  have w1 : IntKind.i64.wrap (n : Int) = n := wrap_nat (by omega)
  have w2 : IntKind.i64.wrap (m : Int) = m := wrap_nat (by omega)
  have hb : (i.info.bytes : Int) * (n : Int) ≤ 281474976710656 := by
    have e0 : (i.info.bytes : Int) * (n : Int) = ((n * i.info.bytes : Nat) : Int) := by rw [Int.natCast_mul, Int.mul_comm]
    rw [e0]
    omega
  have a1 : decide ((n : Int) < 0) = false := decide_eq_false (by omega)
  have a2 : decide ((i.info.bytes : Int) * (n : Int) > 2 ^ 48) = false := decide_eq_false (by omega)
  have a3 : decide ((m : Int) < 0) = false := decide_eq_false (by omega)
  have a4 : decide ((m : Int) > (n : Int)) = false := decide_eq_false (by omega)
  by_cases h0 : n * i.info.size = 0
  · have hl0 : n = 0 := by rcases Nat.mul_eq_zero.1 h0 with h | h <;> omega
    subst hl0
    simp only [Instr.makeSlice, asInt, asIntOf, Sem.run_bind, Sem.run_ite, run_underlying (hT.elem he), Result.andThen_ok, Sem.run_pure, run_typeInfo h2, w1, w2, a1, a2, a3, a4, Bool.or_self, Bool.false_eq_true, if_false, run_askRoom, Int.toNat_natCast, run_sizeOf h2, Nat.zero_mul, if_true, range0, newRow, run_newObj]
    rfl
  · have hcells : (Array.range (n * i.info.size)).map (zv.cells[· % zv.cells.size]!) = ((List.replicate n zv.cells.toList).flatten).toArray := by
      have := hrm
      rw [hz4] at this
      simpa [hz4] using this
    simp only [Instr.makeSlice, asInt, asIntOf, Sem.run_bind, Sem.run_ite, run_underlying (hT.elem he), Result.andThen_ok, Sem.run_pure, run_typeInfo h2, w1, w2, a1, a2, a3, a4, Bool.or_self, Bool.false_eq_true, if_false, run_askRoom, Int.toNat_natCast, run_sizeOf h2, h0, hzr, hcells, newRow, run_newObj]
    rfl

end
end Go.Ev
