/- A PART OF THE PROOF THAT ONE CALL OF A LAW OF LAYER 46 (which of any patches have a line with any word) returns true, whatever the input; the input reads as it did. No condition beyond the given statement. This part: EvOps. -/
import Derived.Test.YtklmbhogclaieaaGreatDoorEvStep
namespace Go.Ev
open Go

/-- WHAT THE CONTEXT PROMISES OF THE PROGRAM. -/
structure TyOk (P : Program) (C : Ctx) : Prop where
  ty : ∀ t i, C.ti t = some i → P.underlying t = some i.desc ∧ P.info? t = some i.info
  eq : ∀ t i, C.ti t = some i → i.eqok = true → P.eqGuardType P.depth t = false ∧ P.stoodInHeld t = false ∧ ∀ fs, i.desc = .struct fs → ∀ f ∈ fs.toList, f.name ≠ "_"

/-- cells, and what they stand for -/
structure CR (C : Ctx) (w : World) (O B : Nat → Prop) (M : MapB) (cs : List AV) (vs : List Value) : Prop where
  len : vs.length = cs.length
  cell : ∀ j (h : j < cs.length), cs[j].isCell = true
  rel : ∀ j (h : j < cs.length) (h' : j < vs.length), VR C w O B M cs[j] vs[j]

section
variable {C : Ctx} {w : World} {O B : Nat → Prop} {M : MapB}

theorem CR.mono {w' O' M'} (h : Ext w O M w' O' M') {cs vs} (hc : CR C w O B M cs vs) : CR C w' O' B M' cs vs :=
  ⟨hc.len, hc.cell, fun j h1 h2 => (hc.rel j h1 h2).mono h⟩

theorem CR.nil : CR C w O B M [] [] := ⟨rfl, fun j h => by simp at h, fun j h _ => by simp at h⟩

theorem CR.drop {cs vs} (h : CR C w O B M cs vs) (n : Nat) : CR C w O B M (cs.drop n) (vs.drop n) :=
  ⟨by simp [h.len], fun j hj => by rw [List.getElem_drop]; exact h.cell _ _, fun j hj h' => by rw [List.getElem_drop, List.getElem_drop]; exact h.rel _ _ _⟩

theorem CR.take {cs vs} (h : CR C w O B M cs vs) (n : Nat) : CR C w O B M (cs.take n) (vs.take n) :=
  ⟨by simp [h.len], fun j hj => by rw [List.getElem_take]; exact h.cell _ _, fun j hj h' => by rw [List.getElem_take, List.getElem_take]; exact h.rel _ _ _⟩

theorem CR.append {cs vs ds us} (h : CR C w O B M cs vs) (k : CR C w O B M ds us) : CR C w O B M (cs ++ ds) (vs ++ us) := by
  have hl := h.len
  refine ⟨by simp [h.len, k.len], fun j hj => ?_, fun j hj h' => ?_⟩
  · by_cases hlt : j < cs.length
    · rw [List.getElem_append_left hlt]; exact h.cell j hlt
    · rw [List.getElem_append_right (by omega)]; exact k.cell _ _
  · by_cases hlt : j < cs.length
    · rw [List.getElem_append_left hlt, List.getElem_append_left (by omega)]; exact h.rel j hlt _
    · rw [List.getElem_append_right (by omega), List.getElem_append_right (by omega)]
      have : j - vs.length = j - cs.length := by omega
      simp only [this]
      exact k.rel _ _ _

theorem CR.repl {cs vs} (h : CR C w O B M cs vs) : ∀ n, CR C w O B M (rep n cs) ((List.replicate n vs).flatten)
  | 0 => by simpa [rep] using CR.nil
  | n + 1 => by
    have := h.append (CR.repl h n)
    simpa [rep, List.replicate_succ] using this

theorem CR.write {cs vs ds us} (h : CR C w O B M cs vs) (k : CR C w O B M ds us) (off : Nat) : CR C w O B M (writeAt cs off ds) (vs.take off ++ us ++ vs.drop (off + us.length)) := by
  unfold writeAt
  rw [k.len]
  exact ((h.take off).append k).append (h.drop _)

theorem VR.row {v : AV} {cv : Value} (h : VR C w O B M v cv) {row : List AV} (hr : v.row = some row) : CR C w O B M row cv.cells.toList := by
  cases h with
  | agg cs vs hl hic hv =>
    simp only [AV.row, Option.some.injEq] at hr
    subst hr
    exact ⟨by simpa [Value.cells] using hl, hic, fun j h1 h2 => by simpa [Value.cells] using hv j h1 (by omega)⟩
  | tup cs vs hl hv => cases hr
  | _ =>
    simp only [AV.row, Option.some.injEq] at hr
    subst hr
    refine ⟨rfl, fun j hj => ?_, fun j hj h' => ?_⟩
    · have : j = 0 := by simp at hj; omega
      subst this; rfl
    · have : j = 0 := by simp at hj; omega
      subst this
      simp only [Value.cells, List.getElem_cons_zero]
      first
        | exact .bool _ | exact .int _ _ | exact .flt _ _ | exact .str _ _ (by assumption) | exact .pnil | exact .snil | exact .mnil | exact .fnil | exact .inil
        | exact .pref _ _ _ _ (by assumption)
        | (apply VR.pdat <;> assumption)
        | (apply VR.sref <;> assumption)
        | (apply VR.sdat <;> assumption)
        | (apply VR.clo <;> assumption)
        | (apply VR.mref <;> assumption)
        | (apply VR.mdat <;> assumption)
        | (apply VR.bnd <;> assumption)
        | (apply VR.ifc; assumption)

theorem VR.cellsOf {v : AV} {cv : Value} (h : VR C w O B M v cv) (hr : v.isCell = true ∨ ∃ cs, v = .agg cs) : CR C w O B M v.cells cv.cells.toList := by
  refine h.row ?_
  rcases hr with hr | ⟨cs, rfl⟩
  · cases v <;> first | rfl | cases hr
  · rfl

theorem isCell_one {v : AV} {cv : Value} (h : VR C w O B M v cv) (hc : v.isCell = true) : cv.oneCell' = true := by
  cases h <;> first | rfl | cases hc

theorem CR.one {cs vs} (h : CR C w O B M cs vs) : ∀ u ∈ vs, u.oneCell' = true := by
  intro u hu
  obtain ⟨j, hj, rfl⟩ := List.getElem_of_mem hu
  have hl := h.len
  exact isCell_one (h.rel j (by omega) hj) (h.cell j (by omega))

theorem VR.ofAgg {cs vs} (h : CR C w O B M cs vs) : VR C w O B M (.agg cs) (.agg vs.toArray) := .agg cs vs h.len h.cell h.rel

/-! ### Constants and operands -/
theorem ofCell_sound {v : Value} {x : AV} (h : ofCell v = some x) : VR C w O B M x v ∧ x.isCell = true := by
  unfold ofCell at h
  split at h <;> first | cases h | (obtain rfl := Option.some.inj h)
  · exact ⟨.bool _, rfl⟩
  · exact ⟨.int _ _, rfl⟩
  · exact ⟨.flt _ _, rfl⟩
  · exact ⟨.str _ _ rfl, rfl⟩
  · exact ⟨.pnil, rfl⟩
  · exact ⟨.snil, rfl⟩
  · exact ⟨.mnil, rfl⟩
  · exact ⟨.fnil, rfl⟩
  · exact ⟨.inil, rfl⟩

theorem ofCells_sound : ∀ {l : List Value} {xs : List AV}, ofCells l = some xs → CR C w O B M xs l
  | [], xs, h => by simp [ofCells] at h; subst h; exact .nil
  | v :: r, xs, h => by
    simp only [ofCells, Option.bind_eq_some_iff] at h
    obtain ⟨x, hx, ys, hy, h⟩ := h
    obtain rfl := Option.some.inj h
    obtain ⟨h1, h2⟩ := ofCell_sound (C := C) (w := w) (O := O) (B := B) (M := M) hx
    have ih := ofCells_sound hy
    refine (⟨rfl, fun j hj => ?_, fun j hj h' => ?_⟩ : CR C w O B M [x] [v]).append ih
    · have : j = 0 := by simp at hj; omega
      subst this; exact h2
    · have : j = 0 := by simp at hj; omega
      subst this; exact h1

theorem ofVal_sound {v : Value} {x : AV} (h : ofVal v = some x) : VR C w O B M x v ∧ (x.isCell = true ∨ (∃ cs, x = .agg cs) ∨ x = .tup []) := by
  unfold ofVal at h
  split at h
  · rename_i cs
    simp only [Option.map_eq_some_iff] at h
    obtain ⟨xs, hx, rfl⟩ := h
    have := VR.ofAgg (ofCells_sound (C := C) (w := w) (O := O) (B := B) (M := M) hx)
    exact ⟨by simpa using this, .inr (.inl ⟨_, rfl⟩)⟩
  · rename_i vs
    simp only [Option.bind_eq_some_iff] at h
    obtain ⟨u, hu, h⟩ := h
    obtain rfl := Option.some.inj h
    have := chk_some hu
    have hn : vs.toList = [] := by simpa using this
    have hv : vs = #[] := by
      apply Array.ext'
      simpa using hn
    subst hv
    exact ⟨.tup [] [] rfl (fun j h => by cases h), .inr (.inr rfl)⟩
  · exact ⟨(ofCell_sound h).1, .inl (ofCell_sound (C := C) (w := w) (O := O) (B := B) (M := M) h).2⟩

/-- the slots -/
structure TR (C : Ctx) (w : World) (O B : Nat → Prop) (M : MapB) (ts : List AV) (a : Act) : Prop where
  len : a.tmps.size = ts.length
  rel : ∀ j (h : j < ts.length) (h' : j < a.tmps.size), known ts[j] = true → VR C w O B M ts[j] a.tmps[j]

theorem TR.mono {w' O' M'} (h : Ext w O M w' O' M') {ts a} (ht : TR C w O B M ts a) : TR C w' O' B M' ts a :=
  ⟨ht.len, fun j h1 h2 h3 => (ht.rel j h1 h2 h3).mono h⟩

theorem setL_length {α : Type} : ∀ (l : List α) (n : Nat) (v : α), (setL l n v).length = l.length
  | [], _, _ => rfl
  | _ :: _, 0, _ => rfl
  | _ :: xs, n + 1, v => by simp [setL, setL_length xs n v]

theorem setL_get {α : Type} : ∀ (l : List α) (n : Nat) (v : α) (j : Nat) (h : j < (setL l n v).length), (setL l n v)[j] = if j = n then v else l[j]'(by rw [setL_length] at h; exact h)
  | _ :: _, 0, _, 0, _ => rfl
  | _ :: _, 0, _, _ + 1, _ => rfl
  | _ :: _, _ + 1, _, 0, _ => rfl
  | _ :: xs, n + 1, v, j + 1, h => by
    simp only [setL, List.getElem_cons_succ]
    rw [setL_get xs n v j]
    simp

theorem TR.put {ts a} (ht : TR C w O B M ts a) {v : AV} {cv : Value} (hv : VR C w O B M v cv) (d : Option Tmp) : TR C w O B M (putT ts d v) (a.put d cv) := by
  cases d with
  | none => exact ht
  | some d =>
    refine ⟨by simp [putT, Act.put, setL_length, ht.len], fun j h1 h2 h3 => ?_⟩
    simp only [putT, Act.put] at h1 h2 h3 ⊢
    rw [setL_get] at h3
    rw [setL_get, Array.getElem_setIfInBounds]
    by_cases e : j = d
    · subst e; simpa using hv
    · rw [if_neg e] at h3
      rw [if_neg e, if_neg (Ne.symm e)]
      exact ht.rel j (by rw [setL_length] at h1; exact h1) (by simpa using h2) h3

theorem getV_some {ts : List AV} {t : Nat} {v : AV} (h : getV ts t = some v) : getL ts t = some v ∧ known v = true := by
  unfold getV at h
  obtain ⟨u, hu, h⟩ := Option.bind_eq_some_iff.1 h
  cases hk : known u with
  | true => rw [hk] at h; obtain rfl := Option.some.inj h; exact ⟨hu, hk⟩
  | false => rw [hk] at h; cases h

theorem opVal_sound {H : Heap} (hs : Sit C w O B M H) {ts : List AV} {a : Act} (ht : TR C w O B M ts a) {x : Operand} {v : AV} (h : opVal C ts x = some v) : VR C w O B M v (a.eval x) := by
  cases x with
  | tmp t =>
    simp only [opVal] at h
    obtain ⟨hg, hk⟩ := getV_some h
    obtain ⟨h1, h2⟩ := getL_some hg
    have hl := ht.len
    have h3 : t < a.tmps.size := hl ▸ h1
    have := ht.rel t h1 h3 (by rw [h2]; exact hk)
    rw [h2] at this
    simpa [Act.eval, h3] using this
  | const c => exact (ofVal_sound h).1
  | global g =>
    simp only [opVal, Option.map_eq_some_iff] at h
    obtain ⟨cs, hc, rfl⟩ := h
    exact hs.glob g cs hc
  | func f =>
    simp only [opVal, Option.some.injEq] at h
    subst h
    exact .clo f [] [] rfl (fun j h => by cases h)

theorem vals_sound {H : Heap} (hs : Sit C w O B M H) {ts : List AV} {a : Act} (ht : TR C w O B M ts a) : ∀ {l : List Operand} {xs : List AV}, vals (opVal C ts) l = some xs →
    xs.length = l.length ∧ ∀ j (h : j < xs.length) (h' : j < (l.map a.eval).length), VR C w O B M xs[j] (l.map a.eval)[j]
  | [], xs, h => by simp [vals] at h; subst h; exact ⟨rfl, fun j h => by cases h⟩
  | o :: r, xs, h => by
    simp only [vals, Option.bind_eq_some_iff] at h
    obtain ⟨x, hx, ys, hy, h⟩ := h
    obtain rfl := Option.some.inj h
    obtain ⟨h1, h2⟩ := vals_sound hs ht hy
    refine ⟨by simp [h1], fun j hj h' => ?_⟩
    cases j with
    | zero => simpa using opVal_sound hs ht hx
    | succ j =>
      simp only [List.map_cons, List.getElem_cons_succ]
      exact h2 j _ _

/-! ### What a step of one operation leaves -/
def Image (M : MapB) (H : Heap) (cb : Nat) : Prop := ∃ b blk base, hget H b = some blk ∧ M b = some (cb, base)

/-- what is owned, and is not seen, stays as it is, and unseen -/
def Rest (w : World) (O : Nat → Prop) (M : MapB) (H : Heap) (w' : World) (O' : Nat → Prop) (M' : MapB) (H' : Heap) : Prop :=
  ∀ cb, O cb → cb < w.heap.size → ¬ Image M H cb → w'.heap[cb]? = w.heap[cb]? ∧ O' cb ∧ ¬ Image M' H' cb

structure Still (w : World) (O : Nat → Prop) (st : St) (w' : World) (O' : Nat → Prop) (M' : MapB) (st' : St) : Prop where
  old : ∀ b, b < w.heap.size → w'.heap[b]? = w.heap[b]?
  up : ∀ b, O b → O' b
  made : ∃ D, st'.heap = D ++ st.heap ∧ D.length = st'.nxt - st.nxt ∧ ∀ p ∈ D, st.nxt ≤ p.1 ∧ p.1 < st'.nxt
  far : ∀ b cb base blk, st.nxt ≤ b → b < st'.nxt → hget st'.heap b = some blk → M' b = some (cb, base) → w.heap.size ≤ cb
  own : ∀ cb, O' cb → O cb ∨ ∃ b blk base, st.nxt ≤ b ∧ b < st'.nxt ∧ hget st'.heap b = some blk ∧ M' b = some (cb, base)

structure Step (C : Ctx) (B : Nat → Prop) (serial : Bool) (w : World) (O : Nat → Prop) (M : MapB) (st : St) (w' : World) (O' : Nat → Prop) (M' : MapB) (st' : St) : Prop where
  ext : Ext w O M w' O' M'
  sit : Sit C w' O' B M' st'.heap
  map : ∀ b, (b < st.nxt ∨ st'.nxt ≤ b) → M' b = M b
  nxt : st.nxt ≤ st'.nxt
  low : st'.low ≤ st.low
  kept : ∀ b, b < st.nxt → b < st'.low → hget st'.heap b = hget st.heap b
  rest : Rest w O M st.heap w' O' M' st'.heap
  lt : (∀ x, O x → x < w.heap.size) → ∀ x, O' x → x < w'.heap.size
  still : serial = false → Still w O st w' O' M' st'

theorem Step.refl {serial : Bool} {st : St} (hs : Sit C w O B M st.heap) : Step C B serial w O M st w O M st where
  ext := .refl w O M
  sit := hs
  map := fun _ _ => rfl
  nxt := Nat.le_refl _
  low := Nat.le_refl _
  kept := fun _ _ _ => rfl
  rest := fun _ h _ h2 => ⟨rfl, h, h2⟩
  lt := fun h => h
  still := fun _ => ⟨fun _ _ => rfl, fun _ h => h, ⟨[], rfl, by simp, fun p h => by cases h⟩, fun b _ _ _ h1 h2 => by omega, fun cb h => .inl h⟩

/-- a draw ahead of a step -/
theorem Step.undrew {serial : Bool} {st st' : St} {w' O' M'} (h : Step C B serial w.drew O M st w' O' M' st') : Step C B serial w O M st w' O' M' st' :=
  ⟨h.ext.drew, h.sit, h.map, h.nxt, h.low, h.kept, h.rest, h.lt, fun e => let k := h.still e; ⟨k.old, k.up, k.made, k.far, k.own⟩⟩

theorem size_alloc' (w : World) (o : Obj) : (w.alloc o).heap.size = w.heap.size + 1 := by simp

/-- A NEW BLOCK. -/
theorem Step.new {serial : Bool} {st : St} (hs : Sit C w O B M st.heap) (o : Obj) (hn : M st.nxt = none) {blk : Blk}
    (hr : BlkR C (w.alloc o) (fun b => O b ∨ b = w.heap.size) B (upd M st.nxt (w.heap.size, 0)) w.heap.size 0 blk) :
    Step C B serial w O M st (w.alloc o) (fun b => O b ∨ b = w.heap.size) (upd M st.nxt (w.heap.size, 0)) (st.new blk) where
  ext := Ext.alloc o hn 0
  sit := hs.alloc o hn hr
  map := fun b hb => by
    unfold upd
    rw [if_neg (by simp [St.new] at hb; omega)]
  nxt := by simp [St.new]
  low := Nat.le_refl _
  kept := fun b hb _ => by simp only [St.new, hget_cons]; rw [if_neg (by omega)]
  rest := fun cb hO hlt hn => ⟨alloc_old w o cb hlt, .inl hO, fun ⟨b, blk', base, h1, h2⟩ => by
    simp only [St.new, hget_cons] at h1
    simp only [upd] at h2
    by_cases e : b = st.nxt
    · rw [if_pos e] at h2
      simp only [Option.some.injEq, Prod.mk.injEq] at h2
      omega
    · rw [if_neg (Ne.symm e)] at h1
      rw [if_neg e] at h2
      exact hn ⟨b, blk', base, h1, h2⟩⟩
  lt := fun h x hx => by
    simp only [size_alloc']
    rcases hx with hx | rfl
    · have := h x hx; omega
    · omega
  still := fun _ => by
    refine ⟨fun b hb => alloc_old w o b hb, fun b h => .inl h, ⟨[(st.nxt, blk)], rfl, by simp [St.new], fun p hp => ?_⟩, fun b cb base blk' h1 h2 _ hM => ?_, fun cb h => ?_⟩
    · simp at hp; subst hp; simp [St.new]
    · have : b = st.nxt := by simp [St.new] at h2; omega
      subst this
      simp [upd] at hM
      omega
    · rcases h with h | rfl
      · exact .inl h
      · exact .inr ⟨st.nxt, blk, 0, Nat.le_refl _, by simp [St.new], by simp [St.new, hget_cons], by simp [upd]⟩

/-- A BLOCK IS WRITTEN. -/
theorem Step.put {st : St} (hs : Sit C w O B M st.heap) {b cb base : Nat} {blk blk' : Blk} (hb : hget st.heap b = some blk) (hM : M b = some (cb, base)) {w' : World} (hx' : Ext w O M w' O M)
    (ho : ∀ k, k ≠ cb → w'.heap[k]? = w.heap[k]?) (hr : BlkR C w' O B M cb base blk') : Step C B true w O M st w' O M (st.put b blk') where
  ext := hx'
  sit := hs.put hb hM hx' ho hr
  map := fun _ _ => rfl
  nxt := Nat.le_refl _
  low := Nat.min_le_left _ _
  kept := fun b1 _ h2 => by
    simp only [St.put, hget_hset] at h2 ⊢
    rw [if_neg (by omega)]
  rest := fun c hO hlt hn => ⟨ho c fun e => hn ⟨b, blk, base, hb, by rw [hM, e]⟩, hO, fun ⟨b1, blk1, base1, h1, h2⟩ => by
    simp only [St.put, hget_hset] at h1
    by_cases e : b1 = b
    · subst e; exact hn ⟨b1, blk, base1, hb, h2⟩
    · rw [if_neg e] at h1; exact hn ⟨b1, blk1, base1, h1, h2⟩⟩
  lt := fun h x hx => Nat.lt_of_lt_of_le (h x hx) hx'.size
  still := fun h => by cases h

def Runs (P : Program) (x : Sem Next) (w : World) (cv : Value) (w' : World) : Prop := x.run P w = .ok (.value cv) w' ∨ (x.run P w = .ok .skip w' ∧ cv = undef)

/-- what is shown of an operation that enters no function -/
def OpR (P : Program) (C : Ctx) (B : Nat → Prop) (serial : Bool) (x : Sem Next) (w : World) (O : Nat → Prop) (M : MapB) (st : St) (v : AV) (st' : St) : Prop :=
  ∃ cv w' O' M', Runs P x w cv w' ∧ VR C w' O' B M' v cv ∧ Step C B serial w O M st w' O' M' st'

theorem OpR.same {P : Program} {serial : Bool} {x : Sem Next} {st : St} (hs : Sit C w O B M st.heap) {v : AV} {cv : Value} (hv : VR C w O B M v cv) (hr : x.run P w = .ok (.value cv) w) :
    OpR P C B serial x w O M st v st := ⟨cv, w, O, M, .inl hr, hv, .refl hs⟩

end
end Go.Ev
