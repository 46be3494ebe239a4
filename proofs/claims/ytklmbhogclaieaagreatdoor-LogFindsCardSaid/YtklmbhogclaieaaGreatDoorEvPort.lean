/- A PART OF THE PROOF THAT ONE CALL OF A LAW OF LAYER 46 (which of any patches have a line with any word) returns true, whatever the input; the input reads as it did. No condition beyond the given statement. This part: EvPort. -/
import Derived.Test.YtklmbhogclaieaaGreatDoorEvMapI
namespace Go.Ev
open Go

theorem getD_lt {α : Type} {l : List α} {j : Nat} {d : α} (h : j < l.length) : l.getD j d = l[j] := by
  simp [List.getD_eq_getElem?_getD, List.getElem?_eq_getElem h]

/-- FOR WHOM DATA ARE TAKEN OUT: H1: the blocks that become data; O2, B2: what those own who get them. -/
structure Tgt (t : Bool) (Oc B : Nat → Prop) (Mc : MapB) (H1 : Heap) (O2 B2 : Nat → Prop) : Prop where
  s1 : ∀ x, O2 x → Oc x ∨ B x
  s1t : t = true → ∀ x, O2 x → Oc x
  s2 : ∀ x, B2 x → Oc x ∨ B x
  s3 : ∀ b blk cb base, hget H1 b = some blk → Mc b = some (cb, base) → ¬ O2 cb ∧ (t = false → ¬ B2 cb)

section
variable {C : Ctx} {w : World} {Oc B : Nat → Prop} {Mc : MapB} {H1 : Heap} {O2 B2 : Nat → Prop} {M2 : MapB} {t : Bool}

theorem dat_up : ∀ {v : AV}, dat false v = true → dat true v = true := by
  intro v
  apply AV.rec (motive_1 := fun v => dat false v = true → dat true v = true) (motive_2 := fun l => datL false l = true → datL true l = true)
  all_goals intros
  all_goals simp_all [dat, datL]

theorem datL_up {l : List AV} (h : datL false l = true) : datL true l = true := by
  refine datL_of fun v hv => ?_
  obtain ⟨j, hj, rfl⟩ := List.getElem_of_mem hv
  exact dat_up (datL_get hj h)

/-- Data are data for others, too. -/
theorem VR.conv (hs1 : ∀ x, O2 x → Oc x ∨ B x) (hs1t : t = true → ∀ x, O2 x → Oc x) (hs2 : ∀ x, B2 x → Oc x ∨ B x) {v : AV} {cv : Value} (h : VR C w Oc B Mc v cv) : dat t v = true → VR C w O2 B2 M2 v cv := by
  induction h with
  | bool b => intro _; exact .bool b
  | int k n => intro _; exact .int k n
  | flt k n => intro _; exact .flt k n
  | str s bs h => intro _; exact .str s bs h
  | pnil => intro _; exact .pnil
  | snil => intro _; exact .snil
  | mnil => intro _; exact .mnil
  | fnil => intro _; exact .fnil
  | inil => intro _; exact .inil
  | pref b off cb base hM => intro hd; simp [dat] at hd
  | sref b off len cap cb base c e i cc fz hM hblk hi hlen hfit hcap hfull => intro hd; simp [dat] at hd
  | pdat tg cs blk o vs hlt hO hB hc hcell hic hv ih =>
    intro hd
    simp only [dat, Bool.and_eq_true, Bool.or_eq_true, Bool.not_eq_true'] at hd
    refine .pdat tg cs blk o vs hlt (fun h2 => ?_) (fun ht h2 => ?_) hc hcell hic (fun j hj => ih j hj (datL_get hj hd.2))
    · rcases hd.1 with h | h
      · exact hO (hs1t h _ h2)
      · exact (hs1 _ h2).elim hO (hB h)
    · exact (hs2 _ h2).elim hO (hB ht)
  | sdat tg sz xs cap blk o c vs hlt hO hB hc hlen hcap hsz hcell hic hv ih =>
    intro hd
    simp only [dat, Bool.and_eq_true, Bool.or_eq_true, Bool.not_eq_true'] at hd
    refine .sdat tg sz xs cap blk o c vs hlt (fun hx h2 => ?_) (fun hx ht h2 => ?_) hc hlen hcap hsz hcell hic (fun i hi j hj => ih i hi j hj (datL_get hj ?_))
    · rcases hd.1 with h | h
      · exact hO hx (hs1t h _ h2)
      · exact (hs1 _ h2).elim (hO hx) (hB hx h)
    · exact (hs2 _ h2).elim (hO hx) (hB hx ht)
    · have h3 := datL_get hi hd.2
      cases hq : xs[i] <;> simp_all [AV.cells, datL, dat]
  | mref b cb hM => intro hd; simp [dat] at hd
  | mdat tg ks us bs ck blk es hlt hO hB hck hcu hblk hlk hlu hlb hb hk hu ihk ihu =>
    intro hd
    simp only [dat, Bool.and_eq_true, Bool.or_eq_true, Bool.not_eq_true'] at hd
    refine .mdat tg ks us bs ck blk es hlt (fun h2 => ?_) (fun ht h2 => ?_) hck hcu hblk hlk hlu hlb hb (fun j a b => ihk j a b (datL_get b hd.1.2)) (fun j a b => ihu j a b (datL_get b hd.2))
    · rcases hd.1.1 with h | h
      · exact hO (hs1t h _ h2)
      · exact (hs1 _ h2).elim hO (hB h)
    · exact (hs2 _ h2).elim hO (hB ht)
  | bnd f first vs hl hv ih => intro hd; exact .bnd f first vs hl fun j h1 h2 => ih j h1 h2 (datL_get h1 (by simpa [dat] using hd))
  | clo f cap vs hl hv ih => intro hd; exact .clo f cap vs hl fun j h1 h2 => ih j h1 h2 (datL_get h1 (by simpa [dat] using hd))
  | ifc ty v cv hv ih => intro hd; exact .ifc ty v cv (ih (by simpa [dat] using hd))
  | agg cs vs hl hic hv ih => intro hd; exact .agg cs vs hl hic fun j h1 h2 => ih j h1 h2 (datL_get h1 (by simpa [dat] using hd))
  | tup cs vs hl hv ih => intro hd; exact .tup cs vs hl fun j h1 h2 => ih j h1 h2 (datL_get h1 (by simpa [dat] using hd))

/-- the blocks that become data -/
def Lies (C : Ctx) (w : World) (Oc B : Nat → Prop) (Mc : MapB) (H1 : Heap) : Prop :=
  (∀ b e cs cb base, hcells H1 b = some (e, cs) → Mc b = some (cb, base) → CRat C w Oc B Mc cs cb base) ∧
  ∀ b ks us bs ck cb base, hmap H1 b = some (ks, us, bs, ck) → Mc b = some (cb, base) → cb < w.heap.size ∧ ∃ es : Array MapEntry, w.heap[cb]? = some (.map es ck) ∧ EL (VR C w Oc B Mc) ks us bs es.toList
where
  CRat (C : Ctx) (w : World) (Oc B : Nat → Prop) (Mc : MapB) (cs : List AV) (cb base : Nat) : Prop := cb < w.heap.size ∧ ∃ vs, CR C w Oc B Mc cs vs ∧ At w cb base vs

theorem Lies.of (hs : Sit C w Oc B Mc H1) : Lies C w Oc B Mc H1 := ⟨fun b e cs cb base h hM => by
  obtain ⟨cc, _, hblk, _, hfit, _, hcr, hat⟩ := hs.cells h hM
  exact ⟨(Array.getElem?_eq_some_iff.1 hblk).1, _, hcr, hat⟩, fun b ks us bs ck cb base h hM => by
  obtain ⟨cb', base', hM', _, hr⟩ := hs.own b _ (hmap_some h)
  rw [hM] at hM'
  obtain ⟨rfl, rfl⟩ := Prod.mk.inj (Option.some.inj hM')
  obtain ⟨_, es, h1, h2⟩ := hr.map_inv
  exact ⟨(Array.getElem?_eq_some_iff.1 h1).1, es, h1, h2⟩⟩

theorem EL.lrk {w : World} {O B : Nat → Prop} {M : MapB} {ks us : List AV} {bs : List Nat} {es : List MapEntry} (h : EL (VR C w O B M) ks us bs es) : LR C w O B M ks (es.map (·.key)) := by
  have i := h.to
  exact ⟨by simp [i.lk], fun j a b => by have := i.k j (by simpa using b) a; simpa using this⟩
theorem EL.lru {w : World} {O B : Nat → Prop} {M : MapB} {ks us : List AV} {bs : List Nat} {es : List MapEntry} (h : EL (VR C w O B M) ks us bs es) : LR C w O B M us (es.map (·.val)) := by
  have i := h.to
  exact ⟨by simp [i.lu], fun j a b => by have := i.u j (by simpa using b) a; simpa using this⟩
/-- keys and values that were exchanged for others -/
theorem EL.swap {R R' : AV → Value → Prop} {ks us ks' us' : List AV} {bs : List Nat} {es : List MapEntry} (h : EL R ks us bs es) (l1 : ks'.length = es.length) (l2 : us'.length = es.length) (h1 : ∀ j (a : j < es.length) (b : j < ks'.length), R' ks'[j] es[j].key) (h2 : ∀ j (a : j < es.length) (b : j < us'.length), R' us'[j] es[j].val) : EL R' ks' us' bs es := by
  have i := h.to
  exact .of l1 l2 i.lb i.b h1 h2

/-- elements, taken out one by one -/
structure ER (C : Ctx) (w : World) (O2 B2 : Nat → Prop) (M2 : MapB) (t : Bool) (sz n : Nat) (xs : List AV) (vs : List Value) : Prop where
  len : xs.length = n
  szs : ∀ i (h : i < xs.length), xs[i].cells.length = sz
  cell : ∀ i (h : i < xs.length) j (h' : j < xs[i].cells.length), (xs[i].cells[j]).isCell = true
  dat : datL t xs = true
  fit : n * sz ≤ vs.length
  rel : ∀ i (h : i < xs.length) j (h' : j < xs[i].cells.length) (h'' : i * sz + j < vs.length), VR C w O2 B2 M2 (xs[i].cells[j]) vs[i * sz + j]

mutual
theorem freeze_sound (hT : Tgt t Oc B Mc H1 O2 B2) (hL : Lies C w Oc B Mc H1) : ∀ (d : Nat) {v v' : AV} {cv : Value}, VR C w Oc B Mc v cv → freeze C H1 t d v = some v' → VR C w O2 B2 M2 v' cv ∧ dat t v' = true ∧ v'.isCell = v.isCell
  | 0, _, _, _, _, h => by simp [freeze] at h
  | d + 1, v, v', cv, hv, h => by
    have plain : dat t v = true → v' = v → VR C w O2 B2 M2 v' cv ∧ dat t v' = true ∧ v'.isCell = v.isCell := fun hd e => by
      subst e
      exact ⟨hv.conv hT.s1 hT.s1t hT.s2 hd, hd, rfl⟩
    unfold freeze at h
    cases v with
    | bool b => exact plain rfl (Option.some.inj h).symm
    | int k n => exact plain rfl (Option.some.inj h).symm
    | flt k n => exact plain rfl (Option.some.inj h).symm
    | str s => exact plain rfl (Option.some.inj h).symm
    | pnil => exact plain rfl (Option.some.inj h).symm
    | snil => exact plain rfl (Option.some.inj h).symm
    | mnil => exact plain rfl (Option.some.inj h).symm
    | fnil => exact plain rfl (Option.some.inj h).symm
    | inil => exact plain rfl (Option.some.inj h).symm
    | sown e sz xs cap => cases h
    | mown ks us bs ck => cases h
    | mdat tg ks us bs ck =>
      simp only [Option.bind_eq_some_iff, Option.some.injEq] at h
      obtain ⟨_, hc, h⟩ := h
      have hc := chk_some hc
      refine plain ?_ h.symm
      obtain ⟨blk, es, rfl, hlt, hO, hB, hck, hcu, hblk, hl⟩ := hv.mdat_inv
      simp only [dat, hc, Bool.true_and, Bool.and_eq_true]
      cases t with
      | false => simp at hc; subst hc; exact ⟨hck, hcu⟩
      | true => cases tg with
        | true => exact ⟨hck, hcu⟩
        | false => exact ⟨datL_up hck, datL_up hcu⟩
    | mref b =>
      simp only [Option.bind_eq_some_iff, Option.some.injEq] at h
      obtain ⟨⟨ks, us, bs, ck⟩, hm, ks', hks, us', hus, rfl⟩ := h
      cases hv with
      | mref _ cb hM =>
        obtain ⟨hlt, es, hblk, hl⟩ := hL.2 b ks us bs ck cb 0 hm hM
        obtain ⟨h1, h2⟩ := hT.s3 b _ cb 0 (hmap_some hm) hM
        obtain ⟨k1, k2, _⟩ := freezeL_sound hT hL d hl.lrk hks
        obtain ⟨u1, u2, _⟩ := freezeL_sound hT hL d hl.lru hus
        refine ⟨VR.mk_mdat hlt h1 h2 k2 u2 hblk (hl.swap (by have := k1.len; simpa using this.symm) (by have := u1.len; simpa using this.symm) (fun j a b => ?_) fun j a b => ?_), by simp [dat, k2, u2], rfl⟩
        · have := k1.rel j b (by simpa using a); simpa using this
        · have := u1.rel j b (by simpa using a); simpa using this
    | bnd f first =>
      simp only [Option.bind_eq_some_iff, Option.some.injEq] at h
      obtain ⟨xs, hxs, rfl⟩ := h
      cases hv with
      | bnd _ _ vs hl hvv =>
        obtain ⟨h3, h4, _⟩ := freezeL_sound hT hL d ⟨hl, hvv⟩ hxs
        exact ⟨.bnd f xs vs h3.len h3.rel, by simpa [dat] using h4, rfl⟩
    | pdat tg cs =>
      simp only [Option.bind_eq_some_iff, Option.some.injEq] at h
      obtain ⟨_, hc, h⟩ := h
      have hc := chk_some hc
      refine plain ?_ h.symm
      cases hv with
      | pdat _ _ blk o vs hlt hO hB hcd hcell hic hvv =>
        simp only [dat, hc, Bool.true_and]
        cases t with
        | false => simp at hc; subst hc; exact hcd
        | true => cases tg with
          | true => exact hcd
          | false => exact datL_up hcd
    | sdat tg sz xs cap =>
      simp only [Option.bind_eq_some_iff, Option.some.injEq] at h
      obtain ⟨_, hc, h⟩ := h
      have hc := chk_some hc
      refine plain ?_ h.symm
      cases hv with
      | sdat _ _ _ _ blk o c vs hlt hO hB hcd hlen hcap hsz hcell hic hvv =>
        simp only [dat, hc, Bool.true_and]
        cases t with
        | false => simp at hc; subst hc; exact hcd
        | true => cases tg with
          | true => exact hcd
          | false => exact datL_up hcd
    | sref b off len cap =>
      simp only [Option.bind_eq_some_iff, Option.some.injEq] at h
      obtain ⟨⟨e, cs⟩, hcs, i, hi, _, hpos, xs, hxs, rfl⟩ := h
      have hpos : 0 < i.info.size := by simpa using chk_some hpos
      obtain ⟨cb, base, c, e1, i1, cc, fz, rfl, hM, hblk, hi1, hle, hfit, hcap, hfull⟩ := hv.sref_inv
      obtain ⟨hlt, vs, hcr, hat⟩ := hL.1 b e cs cb base hcs hM
      have hE := freezeN_sound hT hL d (hcr.drop off) hxs
      have ha := hat.drop off
      obtain ⟨h1, h2⟩ := hT.s3 b _ cb base (hcells_some hcs) hM
      refine ⟨?_, by simp [dat, hE.dat], rfl⟩
      have := VR.sdat (C := C) (w := w) (O := O2) (B := B2) (M := M2) t i.info.size xs cap cb (base + off) c (fun i' j => (vs.drop off).getD (i' * i.info.size + j) undef) (fun _ => hlt) (fun _ => h1) (fun _ => h2) hE.dat (by rw [hE.len]; exact hle) hcap hE.szs
        (fun i' j hi' hj => by
          have hb : i' * i.info.size + j < (vs.drop off).length := by
            have := hE.fit
            have h5 : (i' + 1) * i.info.size ≤ len * i.info.size := Nat.mul_le_mul_right _ (by rw [← hE.len]; exact hi')
            rw [Nat.add_mul] at h5
            omega
          have := ha _ hb
          rw [Nat.add_assoc, this]
          simp [List.getD_eq_getElem?_getD, List.getElem?_eq_getElem hb])
        hE.cell
        (fun i' hi' j hj => by
          have hj2 : j < i.info.size := by rw [← hE.szs i' hi']; exact hj
          have hb : i' * i.info.size + j < (vs.drop off).length := by
            have := hE.fit
            have h5 : (i' + 1) * i.info.size ≤ len * i.info.size := Nat.mul_le_mul_right _ (by rw [← hE.len]; exact hi')
            rw [Nat.add_mul] at h5
            omega
          have := hE.rel i' hi' j hj hb
          simpa [List.getD_eq_getElem?_getD, List.getElem?_eq_getElem hb] using this)
      rw [hE.len] at this
      exact this
    | pref b off =>
      simp only [Option.bind_eq_some_iff, Option.some.injEq] at h
      obtain ⟨_, ht, ⟨e, cs⟩, hcs, xs, hxs, rfl⟩ := h
      have ht := chk_some ht
      cases hv with
      | pref _ _ cb base hM =>
        obtain ⟨hlt, vs, hcr, hat⟩ := hL.1 b e cs cb base hcs hM
        obtain ⟨h1, h2⟩ := hT.s3 b _ cb base (hcells_some hcs) hM
        have hd := hcr.drop off
        obtain ⟨h3, h4, h5⟩ := freezeL_sound hT hL d ⟨hd.len, hd.rel⟩ hxs
        exact ⟨VR.mk_pdat ⟨h3.len, fun j hj => by
          have hj2 : j < (cs.drop off).length := by rw [← h3.len, hd.len] at hj; exact hj
          rw [h5 j hj, getD_lt hj2]; exact hd.cell j hj2, h3.rel⟩ (hat.drop off) hlt h1 h2 h4, by subst ht; simp [dat, h4], rfl⟩
    | clo f cap =>
      simp only [Option.bind_eq_some_iff, Option.some.injEq] at h
      obtain ⟨xs, hxs, rfl⟩ := h
      cases hv with
      | clo _ _ vs hl hvv =>
        obtain ⟨h3, h4, _⟩ := freezeL_sound hT hL d ⟨hl, hvv⟩ hxs
        exact ⟨.clo f xs vs h3.len h3.rel, by simpa [dat] using h4, rfl⟩
    | ifc ty u =>
      simp only [Option.bind_eq_some_iff, Option.some.injEq] at h
      obtain ⟨x, hx, rfl⟩ := h
      cases hv with
      | ifc _ _ cu hvv =>
        obtain ⟨h3, h4, _⟩ := freeze_sound hT hL d hvv hx
        exact ⟨.ifc ty x cu h3, by simpa [dat] using h4, rfl⟩
    | agg cs =>
      simp only [Option.bind_eq_some_iff, Option.some.injEq] at h
      obtain ⟨xs, hxs, rfl⟩ := h
      cases hv with
      | agg _ vs hl hic hvv =>
        obtain ⟨h3, h4, h5⟩ := freezeL_sound hT hL d ⟨hl, hvv⟩ hxs
        have hlen : xs.length = cs.length := by rw [← h3.len, hl]
        exact ⟨.agg xs vs h3.len (fun j hj => by rw [h5 j hj, getD_lt (by omega)]; exact hic j (by omega)) h3.rel, by simpa [dat] using h4, rfl⟩
    | tup cs =>
      simp only [Option.bind_eq_some_iff, Option.some.injEq] at h
      obtain ⟨xs, hxs, rfl⟩ := h
      cases hv with
      | tup _ vs hl hvv =>
        obtain ⟨h3, h4, _⟩ := freezeL_sound hT hL d ⟨hl, hvv⟩ hxs
        exact ⟨.tup xs vs h3.len h3.rel, by simpa [dat] using h4, rfl⟩
theorem freezeL_sound (hT : Tgt t Oc B Mc H1 O2 B2) (hL : Lies C w Oc B Mc H1) : ∀ (d : Nat) {l l' : List AV} {vs : List Value}, LR C w Oc B Mc l vs → freezeL C H1 t d l = some l' →
    LR C w O2 B2 M2 l' vs ∧ datL t l' = true ∧ ∀ j (h : j < l'.length), l'[j].isCell = (l.getD j (.tup [])).isCell
  | 0, l, _, _, _, h => by cases l <;> simp [freezeL] at h
  | d + 1, [], l', vs, hl, h => by
    simp only [freezeL, Option.some.injEq] at h
    subst h
    exact ⟨⟨hl.len, fun j h => by simp at h⟩, rfl, fun j h => by simp at h⟩
  | d + 1, c :: r, l', vs, hl, h => by
    simp only [freezeL, Option.bind_eq_some_iff, Option.some.injEq] at h
    obtain ⟨x, hx, xs, hxs, rfl⟩ := h
    cases vs with
    | nil => have := hl.len; simp at this
    | cons u us =>
      have h0 := hl.rel 0 (by simp) (by simp)
      simp only [List.getElem_cons_zero] at h0
      obtain ⟨h1, h2, h3⟩ := freeze_sound hT hL d h0 hx
      obtain ⟨h4, h5, h6⟩ := freezeL_sound hT hL d (l := r) (vs := us) ⟨by have := hl.len; simpa using this, fun j a b => by have := hl.rel (j + 1) (by simp; omega) (by simp; omega); simpa using this⟩ hxs
      refine ⟨⟨by simp [h4.len], fun j a b => ?_⟩, by simp [datL, h2, h5], fun j hj => ?_⟩
      · cases j with
        | zero => exact h1
        | succ j => exact h4.rel j (by simpa using a) (by simpa using b)
      · cases j with
        | zero => simpa using h3
        | succ j => simpa using h6 j (by simpa using hj)
theorem freezeN_sound (hT : Tgt t Oc B Mc H1 O2 B2) (hL : Lies C w Oc B Mc H1) : ∀ (d : Nat) {i : TI} {n : Nat} {cs : List AV} {vs : List Value} {xs : List AV}, CR C w Oc B Mc cs vs → freezeN C H1 t d i n cs = some xs → ER C w O2 B2 M2 t i.info.size n xs vs
  | 0, _, n, _, _, _, _, h => by cases n <;> simp [freezeN] at h
  | d + 1, i, 0, cs, vs, xs, hc, h => by
    simp only [freezeN, Option.some.injEq] at h
    subst h
    exact ⟨rfl, fun i h => by simp at h, fun i h => by simp at h, rfl, by simp, fun i h => by simp at h⟩
  | d + 1, i, n + 1, cs, vs, xs, hc, h => by
    simp only [freezeN, Option.bind_eq_some_iff, Option.some.injEq] at h
    obtain ⟨v, hv, x, hx, ys, hys, rfl⟩ := h
    have hr := freezeN_sound hT hL d (hc.drop i.info.size) hys
    have first : VR C w O2 B2 M2 x (if i.agg then .agg (vs.take i.info.size).toArray else vs.getD 0 undef) ∧ dat t x = true ∧ x.cells.length = i.info.size ∧ i.info.size ≤ vs.length ∧ (∀ j (h : j < x.cells.length), (x.cells[j]).isCell = true) ∧
        (∀ j (h : j < x.cells.length) (h' : j < vs.length), VR C w O2 B2 M2 x.cells[j] vs[j]) := by
      rcases readAt_sound hc hv with ⟨ha, hle, hvr, rfl, hle2⟩ | ⟨ha, hlt, hvr, hcell, h1, hlt2, rfl⟩
      · obtain ⟨h1, h2, h3⟩ := freeze_sound hT hL d hvr hx
        cases d with
        | zero => simp [freeze] at hx
        | succ d =>
          simp only [freeze, Option.bind_eq_some_iff, Option.some.injEq] at hx
          obtain ⟨zs, hzs, rfl⟩ := hx
          obtain ⟨us, hus, hcr⟩ := h1.agg_cells
          have hus2 : us = vs.take i.info.size := by
            have := congrArg (fun v => match v with | Value.agg a => a.toList | _ => []) hus
            simpa using this.symm
          subst hus2
          have hl := hcr.len
          simp only [List.length_take] at hl
          refine ⟨by rw [ha]; exact h1, h2, by simp [AV.cells]; omega, hle, fun j hj => hcr.cell j hj, fun j hj h' => ?_⟩
          have h'' : j < (vs.take i.info.size).length := by simp [AV.cells] at hj; simp; omega
          have h3 := hcr.rel j hj h''
          rw [List.getElem_take] at h3
          exact h3
      · obtain ⟨h3, h4, h5⟩ := freeze_sound hT hL d hvr hx
        rw [hcell] at h5
        have hcells : x.cells = [x] := by cases x <;> first | rfl | cases h5
        refine ⟨by rw [ha]; simpa [hlt] using h3, h4, by rw [hcells, h1]; rfl, by omega, fun j hj => ?_, fun j hj h' => ?_⟩
        · have : j = 0 := by rw [hcells] at hj; simpa using hj
          subst this
          simpa [hcells] using h5
        · have : j = 0 := by rw [hcells] at hj; simpa using hj
          subst this
          simpa [hcells] using h3
    obtain ⟨_, f2, f3, f4, f5, f6⟩ := first
    have hfit := hr.fit
    rw [List.length_drop] at hfit
    refine ⟨by simp [hr.len], fun k hk => ?_, fun k hk j hj => ?_, by simp [datL, f2, hr.dat], by rw [Nat.add_mul]; omega, fun k hk j hj h' => ?_⟩
    · cases k with
      | zero => exact f3
      | succ k => exact hr.szs k (by simpa using hk)
    · cases k with
      | zero => exact f5 j hj
      | succ k => exact hr.cell k (by simpa using hk) j hj
    · cases k with
      | zero =>
        have := f6 j hj (by simpa using h')
        simpa using this
      | succ k =>
        have := hr.rel k (by simpa using hk) j hj (by rw [List.length_drop]; rw [Nat.add_mul] at h'; omega)
        simp only [List.getElem_cons_succ, List.getElem_drop] at this ⊢
        have e : i.info.size + (k * i.info.size + j) = (k + 1) * i.info.size + j := by rw [Nat.add_mul]; omega
        simp only [e] at this
        exact this
end

end
end Go.Ev
