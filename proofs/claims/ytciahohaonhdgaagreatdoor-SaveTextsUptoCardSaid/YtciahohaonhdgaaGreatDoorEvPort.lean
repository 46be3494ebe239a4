/- A PART OF THE PROOF THAT SAVETEXTS HOLDS FOR EVERY INPUT OF BULK AT MOST 1048576. No condition beyond the given statement. This part: EvPort. -/
import Derived.Test.YtciahohaonhdgaaGreatDoorEvMap
namespace Go.Ev
open Go
theorem getD_lt {α : Type} {l : List α} {j : Nat} {d : α} (h : j < l.length) : l.getD j d = l[j] := by
 simp [List.getD_eq_getElem?_getD, List.getElem?_eq_getElem h]
structure Tgt (t : Bool) (Oc B : Nat → Prop) (Mc : MapB) (H1 : Heap) (O2 B2 : Nat → Prop) : Prop where
 s1 : ∀ x, O2 x → Oc x ∨ B x
 s1t : t = true → ∀ x, O2 x → Oc x
 s2 : ∀ x, B2 x → Oc x ∨ B x
 s3 : ∀ b blk cb base, hget H1 b = some blk → Mc b = some (cb, base) → ¬ O2 cb ∧ (t = false → ¬ B2 cb)
section
variable {C : Ctx} {w : World} {Oc B : Nat → Prop} {Mc : MapB} {H1 : Heap} {O2 B2 : Nat → Prop} {M2 : MapB} {t : Bool}
theorem dat_up : ∀ {v : AV}, dat false v = true → dat true v = true := by
 intro v
 apply AV.rec (motive_1 := fun v => dat false v = true → dat true v = true) (motive_2 := fun l => datL false l = true → datL true l = true)
 all_goals intros
 all_goals simp_all [dat, datL]
theorem datL_up {l : List AV} (h : datL false l = true) : datL true l = true := by
 refine datL_of fun v hv => ?_
 obtain ⟨j, hj, rfl⟩ := List.getElem_of_mem hv
 exact dat_up (datL_get hj h)
theorem VR.conv (hs1 : ∀ x, O2 x → Oc x ∨ B x) (hs1t : t = true → ∀ x, O2 x → Oc x) (hs2 : ∀ x, B2 x → Oc x ∨ B x) {v : AV} {cv : Value} (h : VR C w Oc B Mc v cv) : dat t v = true → VR C w O2 B2 M2 v cv := by
 induction h with
 | bool b => intro _; exact .bool b
 | int k n => intro _; exact .int k n
 | flt k n => intro _; exact .flt k n
 | str s bs h => intro _; exact .str s bs h
 | pnil => intro _; exact .pnil
 | snil => intro _; exact .snil
 | mnil => intro _; exact .mnil
 | fnil => intro _; exact .fnil
 | inil => intro _; exact .inil
 | pref b off cb base hM => intro hd; simp [dat] at hd
 | sref b off len cap cb base c e i cc fz hM hblk hi hlen hfit hcap hfull => intro hd; simp [dat] at hd
 | pdat tg cs blk o vs hlt hO hB hc hcell hic hv ih =>
  intro hd
  simp only [dat, Bool.and_eq_true, Bool.or_eq_true, Bool.not_eq_true'] at hd
  refine .pdat tg cs blk o vs hlt (fun h2 => ?_) (fun ht h2 => ?_) hc hcell hic (fun j hj => ih j hj (datL_get hj hd.2))
  ·rcases hd.1 with h | h
   ·exact hO (hs1t h _ h2)
   ·exact (hs1 _ h2).elim hO (hB h)
  ·exact (hs2 _ h2).elim hO (hB ht)
 | sdat tg sz xs cap blk o c vs hlt hO hB hc hlen hcap hsz hcell hic hv ih =>
  intro hd
  simp only [dat, Bool.and_eq_true, Bool.or_eq_true, Bool.not_eq_true'] at hd
  refine .sdat tg sz xs cap blk o c vs hlt (fun hx h2 => ?_) (fun hx ht h2 => ?_) hc hlen hcap hsz hcell hic (fun i hi j hj => ih i hi j hj (datL_get hj ?_))
  ·rcases hd.1 with h | h
   ·exact hO hx (hs1t h _ h2)
   ·exact (hs1 _ h2).elim (hO hx) (hB hx h)
  ·exact (hs2 _ h2).elim (hO hx) (hB hx ht)
  ·have h3 := datL_get hi hd.2
   cases hq : xs[i] <;> simp_all [AV.cells, datL, dat]
 | mref b cb hM => intro hd; simp [dat] at hd
 | mdat tg ks us bs ck blk es hlt hO hB hck hcu hblk hlk hlu hlb hb hk hu ihk ihu =>
  intro hd
  simp only [dat, Bool.and_eq_true, Bool.or_eq_true, Bool.not_eq_true'] at hd
  refine .mdat tg ks us bs ck blk es hlt (fun h2 => ?_) (fun ht h2 => ?_) hck hcu hblk hlk hlu hlb hb (fun j a b => ihk j a b (datL_get b hd.1.2)) (fun j a b => ihu j a b (datL_get b hd.2))
  ·rcases hd.1.1 with h | h
   ·exact hO (hs1t h _ h2)
   ·exact (hs1 _ h2).elim hO (hB h)
  ·exact (hs2 _ h2).elim hO (hB ht)
 | bnd f first vs hl hv ih => intro hd; exact .bnd f first vs hl fun j h1 h2 => ih j h1 h2 (datL_get h1 (by simpa [dat] using hd))
 | clo f cap vs hl hv ih => intro hd; exact .clo f cap vs hl fun j h1 h2 => ih j h1 h2 (datL_get h1 (by simpa [dat] using hd))
 | ifc ty v cv hv ih => intro hd; exact .ifc ty v cv (ih (by simpa [dat] using hd))
 | agg cs vs hl hic hv ih => intro hd; exact .agg cs vs hl hic fun j h1 h2 => ih j h1 h2 (datL_get h1 (by simpa [dat] using hd))
 | tup cs vs hl hv ih => intro hd; exact .tup cs vs hl fun j h1 h2 => ih j h1 h2 (datL_get h1 (by simpa [dat] using hd))
def Lies (C : Ctx) (w : World) (Oc B : Nat → Prop) (Mc : MapB) (H1 : Heap) : Prop :=
 (∀ b e cs cb base, hcells H1 b = some (e, cs) → Mc b = some (cb, base) → CRat C w Oc B Mc cs cb base) ∧
 ∀ b ks us bs ck cb base, hmap H1 b = some (ks, us, bs, ck) → Mc b = some (cb, base) → cb < w.heap.size ∧ ∃ es : Array MapEntry, w.heap[cb]? = some (.map es ck) ∧ EL (VR C w Oc B Mc) ks us bs es.toList
where
 CRat (C : Ctx) (w : World) (Oc B : Nat → Prop) (Mc : MapB) (cs : List AV) (cb base : Nat) : Prop := cb < w.heap.size ∧ ∃ vs, CR C w Oc B Mc cs vs ∧ At w cb base vs
theorem Lies.of (hs : Sit C w Oc B Mc H1) : Lies C w Oc B Mc H1 := ⟨fun b e cs cb base h hM => by
 obtain ⟨cc, _, hblk, _, hfit, _, hcr, hat⟩ := hs.cells h hM
 exact ⟨(Array.getElem?_eq_some_iff.1 hblk).1, _, hcr, hat⟩, fun b ks us bs ck cb base h hM => by
 obtain ⟨cb', base', hM', _, hr⟩ := hs.own b _ (hmap_some h)
 rw [hM] at hM'
 obtain ⟨rfl, rfl⟩ := Prod.mk.inj (Option.some.inj hM')
 obtain ⟨_, es, h1, h2⟩ := hr.map_inv
 exact ⟨(Array.getElem?_eq_some_iff.1 h1).1, es, h1, h2⟩⟩
theorem EL.lrk {w : World} {O B : Nat → Prop} {M : MapB} {ks us : List AV} {bs : List Nat} {es : List MapEntry} (h : EL (VR C w O B M) ks us bs es) : LR C w O B M ks (es.map (·.key)) := by
 have i := h.to
 exact ⟨by simp [i.lk], fun j a b => by have := i.k j (by simpa using b) a; simpa using this⟩
theorem EL.lru {w : World} {O B : Nat → Prop} {M : MapB} {ks us : List AV} {bs : List Nat} {es : List MapEntry} (h : EL (VR C w O B M) ks us bs es) : LR C w O B M us (es.map (·.val)) := by
 have i := h.to
 exact ⟨by simp [i.lu], fun j a b => by have := i.u j (by simpa using b) a; simpa using this⟩
theorem EL.swap {R R' : AV → Value → Prop} {ks us ks' us' : List AV} {bs : List Nat} {es : List MapEntry} (h : EL R ks us bs es) (l1 : ks'.length = es.length) (l2 : us'.length = es.length) (h1 : ∀ j (a : j < es.length) (b : j < ks'.length), R' ks'[j] es[j].key) (h2 : ∀ j (a : j < es.length) (b : j < us'.length), R' us'[j] es[j].val) : EL R' ks' us' bs es := by
 have i := h.to
 exact .of l1 l2 i.lb i.b h1 h2
structure ER (C : Ctx) (w : World) (O2 B2 : Nat → Prop) (M2 : MapB) (t : Bool) (sz n : Nat) (xs : List AV) (vs : List Value) : Prop where
 len : xs.length = n
 szs : ∀ i (h : i < xs.length), xs[i].cells.length = sz
 cell : ∀ i (h : i < xs.length) j (h' : j < xs[i].cells.length), (xs[i].cells[j]).isCell = true
 dat : datL t xs = true
 fit : n * sz ≤ vs.length
 rel : ∀ i (h : i < xs.length) j (h' : j < xs[i].cells.length) (h'' : i * sz + j < vs.length), VR C w O2 B2 M2 (xs[i].cells[j]) vs[i * sz + j]
mutual
theorem freeze_sound (hT : Tgt t Oc B Mc H1 O2 B2) (hL : Lies C w Oc B Mc H1) : ∀ (d : Nat) {v v' : AV} {cv : Value}, VR C w Oc B Mc v cv → freeze C H1 t d v = some v' → VR C w O2 B2 M2 v' cv ∧ dat t v' = true ∧ v'.isCell = v.isCell
 | 0, _, _, _, _, h => by simp [freeze] at h
 | d + 1, v, v', cv, hv, h => by
  have plain : dat t v = true → v' = v → VR C w O2 B2 M2 v' cv ∧ dat t v' = true ∧ v'.isCell = v.isCell := fun hd e => by
   subst e
   exact ⟨hv.conv hT.s1 hT.s1t hT.s2 hd, hd, rfl⟩
  unfold freeze at h
  cases v with
  | bool b => exact plain rfl (Option.some.inj h).symm
  | int k n => exact plain rfl (Option.some.inj h).symm
  | flt k n => exact plain rfl (Option.some.inj h).symm
  | str s => exact plain rfl (Option.some.inj h).symm
  | pnil => exact plain rfl (Option.some.inj h).symm
  | snil => exact plain rfl (Option.some.inj h).symm
  | mnil => exact plain rfl (Option.some.inj h).symm
  | fnil => exact plain rfl (Option.some.inj h).symm
  | inil => exact plain rfl (Option.some.inj h).symm
  | sown e sz xs cap => cases h
  | mown ks us bs ck => cases h
  | mdat tg ks us bs ck =>
   simp only [Option.bind_eq_some_iff, Option.some.injEq] at h
   obtain ⟨_, hc, h⟩ := h
   have hc := chk_some hc
   refine plain ?_ h.symm
   obtain ⟨blk, es, rfl, hlt, hO, hB, hck, hcu, hblk, hl⟩ := hv.mdat_inv
   simp only [dat, hc, Bool.true_and, Bool.and_eq_true]
   cases t with
   | false => simp at hc; subst hc; exact ⟨hck, hcu⟩
   | true => cases tg with
    | true => exact ⟨hck, hcu⟩
    | false => exact ⟨datL_up hck, datL_up hcu⟩
  | mref b =>
   simp only [Option.bind_eq_some_iff, Option.some.injEq] at h
   obtain ⟨⟨ks, us, bs, ck⟩, hm, ks', hks, us', hus, rfl⟩ := h
   cases hv with
   | mref _ cb hM =>
    obtain ⟨hlt, es, hblk, hl⟩ := hL.2 b ks us bs ck cb 0 hm hM
    obtain ⟨h1, h2⟩ := hT.s3 b _ cb 0 (hmap_some hm) hM
    obtain ⟨k1, k2, _⟩ := freezeL_sound hT hL d hl.lrk hks
    obtain ⟨u1, u2, _⟩ := freezeL_sound hT hL d hl.lru hus
    refine ⟨VR.mk_mdat hlt h1 h2 k2 u2 hblk (hl.swap (by have := k1.len; simpa using this.symm) (by have := u1.len; simpa using this.symm) (fun j a b => ?_) fun j a b => ?_), by simp [dat, k2, u2], rfl⟩
    ·have := k1.rel j b (by simpa using a); simpa using this
    ·have := u1.rel j b (by simpa using a); simpa using this
  | bnd f first =>
   simp only [Option.bind_eq_some_iff, Option.some.injEq] at h
   obtain ⟨xs, hxs, rfl⟩ := h
   cases hv with
   | bnd _ _ vs hl hvv =>
    obtain ⟨h3, h4, _⟩ := freezeL_sound hT hL d ⟨hl, hvv⟩ hxs
    exact ⟨.bnd f xs vs h3.len h3.rel, by simpa [dat] using h4, rfl⟩
  | pdat tg cs =>
   simp only [Option.bind_eq_some_iff, Option.some.injEq] at h
   obtain ⟨_, hc, h⟩ := h
   have hc := chk_some hc
   refine plain ?_ h.symm
   cases hv with
   | pdat _ _ blk o vs hlt hO hB hcd hcell hic hvv =>
    simp only [dat, hc, Bool.true_and]
    cases t with
    | false => simp at hc; subst hc; exact hcd
    | true => cases tg with
     | true => exact hcd
     | false => exact datL_up hcd
  | sdat tg sz xs cap =>
   simp only [Option.bind_eq_some_iff, Option.some.injEq] at h
   obtain ⟨_, hc, h⟩ := h
   have hc := chk_some hc
   refine plain ?_ h.symm
   cases hv with
   | sdat _ _ _ _ blk o c vs hlt hO hB hcd hlen hcap hsz hcell hic hvv =>
    simp only [dat, hc, Bool.true_and]
    cases t with
    | false => simp at hc; subst hc; exact hcd
    | true => cases tg with
     | true => exact hcd
     | false => exact datL_up hcd
  | sref b off len cap =>
   simp only [Option.bind_eq_some_iff, Option.some.injEq] at h
   obtain ⟨⟨e, cs⟩, hcs, i, hi, _, hpos, xs, hxs, rfl⟩ := h
   have hpos : 0 < i.info.size := by simpa using chk_some hpos
   obtain ⟨cb, base, c, e1, i1, cc, fz, rfl, hM, hblk, hi1, hle, hfit, hcap, hfull⟩ := hv.sref_inv
   obtain ⟨hlt, vs, hcr, hat⟩ := hL.1 b e cs cb base hcs hM
   have hE := freezeN_sound hT hL d (hcr.drop off) hxs
   have ha := hat.drop off
   obtain ⟨h1, h2⟩ := hT.s3 b _ cb base (hcells_some hcs) hM
   refine ⟨?_, by simp [dat, hE.dat], rfl⟩
   have := VR.sdat (C := C) (w := w) (O := O2) (B := B2) (M := M2) t i.info.size xs cap cb (base + off) c (fun i' j => (vs.drop off).getD (i' * i.info.size + j) undef) (fun _ => hlt) (fun _ => h1) (fun _ => h2) hE.dat (by rw [hE.len]; exact hle) hcap hE.szs
    (fun i' j hi' hj => by
     have hb : i' * i.info.size + j < (vs.drop off).length := by
      have := hE.fit
      have h5 : (i' + 1) * i.info.size ≤ len * i.info.size := Nat.mul_le_mul_right _ (by rw [← hE.len]; exact hi')
      rw [Nat.add_mul] at h5
      omega
     have := ha _ hb
     rw [Nat.add_assoc, this]
     simp [List.getD_eq_getElem?_getD, List.getElem?_eq_getElem hb])
    hE.cell
    (fun i' hi' j hj => by
     have hj2 : j < i.info.size := by rw [← hE.szs i' hi']; exact hj
     have hb : i' * i.info.size + j < (vs.drop off).length := by
      have := hE.fit
      have h5 : (i' + 1) * i.info.size ≤ len * i.info.size := Nat.mul_le_mul_right _ (by rw [← hE.len]; exact hi')
      rw [Nat.add_mul] at h5
      omega
     have := hE.rel i' hi' j hj hb
     simpa [List.getD_eq_getElem?_getD, List.getElem?_eq_getElem hb] using this)
   rw [hE.len] at this
   exact this
  | pref b off =>
   simp only [Option.bind_eq_some_iff, Option.some.injEq] at h
   obtain ⟨_, ht, ⟨e, cs⟩, hcs, xs, hxs, rfl⟩ := h
   have ht := chk_some ht
   cases hv with
   | pref _ _ cb base hM =>
    obtain ⟨hlt, vs, hcr, hat⟩ := hL.1 b e cs cb base hcs hM
    obtain ⟨h1, h2⟩ := hT.s3 b _ cb base (hcells_some hcs) hM
    have hd := hcr.drop off
    obtain ⟨h3, h4, h5⟩ := freezeL_sound hT hL d ⟨hd.len, hd.rel⟩ hxs
    exact ⟨VR.mk_pdat ⟨h3.len, fun j hj => by
     have hj2 : j < (cs.drop off).length := by rw [← h3.len, hd.len] at hj; exact hj
     rw [h5 j hj, getD_lt hj2]; exact hd.cell j hj2, h3.rel⟩ (hat.drop off) hlt h1 h2 h4, by subst ht; simp [dat, h4], rfl⟩
  | clo f cap =>
   simp only [Option.bind_eq_some_iff, Option.some.injEq] at h
   obtain ⟨xs, hxs, rfl⟩ := h
   cases hv with
   | clo _ _ vs hl hvv =>
    obtain ⟨h3, h4, _⟩ := freezeL_sound hT hL d ⟨hl, hvv⟩ hxs
    exact ⟨.clo f xs vs h3.len h3.rel, by simpa [dat] using h4, rfl⟩
  | ifc ty u =>
   simp only [Option.bind_eq_some_iff, Option.some.injEq] at h
   obtain ⟨x, hx, rfl⟩ := h
   cases hv with
   | ifc _ _ cu hvv =>
    obtain ⟨h3, h4, _⟩ := freeze_sound hT hL d hvv hx
    exact ⟨.ifc ty x cu h3, by simpa [dat] using h4, rfl⟩
  | agg cs =>
   simp only [Option.bind_eq_some_iff, Option.some.injEq] at h
   obtain ⟨xs, hxs, rfl⟩ := h
   cases hv with
   | agg _ vs hl hic hvv =>
    obtain ⟨h3, h4, h5⟩ := freezeL_sound hT hL d ⟨hl, hvv⟩ hxs
    have hlen : xs.length = cs.length := by rw [← h3.len, hl]
    exact ⟨.agg xs vs h3.len (fun j hj => by rw [h5 j hj, getD_lt (by omega)]; exact hic j (by omega)) h3.rel, by simpa [dat] using h4, rfl⟩
  | tup cs =>
   simp only [Option.bind_eq_some_iff, Option.some.injEq] at h
   obtain ⟨xs, hxs, rfl⟩ := h
   cases hv with
   | tup _ vs hl hvv =>
    obtain ⟨h3, h4, _⟩ := freezeL_sound hT hL d ⟨hl, hvv⟩ hxs
    exact ⟨.tup xs vs h3.len h3.rel, by simpa [dat] using h4, rfl⟩
theorem freezeL_sound (hT : Tgt t Oc B Mc H1 O2 B2) (hL : Lies C w Oc B Mc H1) : ∀ (d : Nat) {l l' : List AV} {vs : List Value}, LR C w Oc B Mc l vs → freezeL C H1 t d l = some l' →
  LR C w O2 B2 M2 l' vs ∧ datL t l' = true ∧ ∀ j (h : j < l'.length), l'[j].isCell = (l.getD j (.tup [])).isCell
 | 0, l, _, _, _, h => by cases l <;> simp [freezeL] at h
 | d + 1, [], l', vs, hl, h => by
  simp only [freezeL, Option.some.injEq] at h
  subst h
  exact ⟨⟨hl.len, fun j h => by simp at h⟩, rfl, fun j h => by simp at h⟩
 | d + 1, c :: r, l', vs, hl, h => by
  simp only [freezeL, Option.bind_eq_some_iff, Option.some.injEq] at h
  obtain ⟨x, hx, xs, hxs, rfl⟩ := h
  cases vs with
  | nil => have := hl.len; simp at this
  | cons u us =>
   have h0 := hl.rel 0 (by simp) (by simp)
   simp only [List.getElem_cons_zero] at h0
   obtain ⟨h1, h2, h3⟩ := freeze_sound hT hL d h0 hx
   obtain ⟨h4, h5, h6⟩ := freezeL_sound hT hL d (l := r) (vs := us) ⟨by have := hl.len; simpa using this, fun j a b => by have := hl.rel (j + 1) (by simp; omega) (by simp; omega); simpa using this⟩ hxs
   refine ⟨⟨by simp [h4.len], fun j a b => ?_⟩, by simp [datL, h2, h5], fun j hj => ?_⟩
   ·cases j with
    | zero => exact h1
    | succ j => exact h4.rel j (by simpa using a) (by simpa using b)
   ·cases j with
    | zero => simpa using h3
    | succ j => simpa using h6 j (by simpa using hj)
theorem freezeN_sound (hT : Tgt t Oc B Mc H1 O2 B2) (hL : Lies C w Oc B Mc H1) : ∀ (d : Nat) {i : TI} {n : Nat} {cs : List AV} {vs : List Value} {xs : List AV}, CR C w Oc B Mc cs vs → freezeN C H1 t d i n cs = some xs → ER C w O2 B2 M2 t i.info.size n xs vs
 | 0, _, n, _, _, _, _, h => by cases n <;> simp [freezeN] at h
 | d + 1, i, 0, cs, vs, xs, hc, h => by
  simp only [freezeN, Option.some.injEq] at h
  subst h
  exact ⟨rfl, fun i h => by simp at h, fun i h => by simp at h, rfl, by simp, fun i h => by simp at h⟩
 | d + 1, i, n + 1, cs, vs, xs, hc, h => by
  simp only [freezeN, Option.bind_eq_some_iff, Option.some.injEq] at h
  obtain ⟨v, hv, x, hx, ys, hys, rfl⟩ := h
  have hr := freezeN_sound hT hL d (hc.drop i.info.size) hys
  have first : VR C w O2 B2 M2 x (if i.agg then .agg (vs.take i.info.size).toArray else vs.getD 0 undef) ∧ dat t x = true ∧ x.cells.length = i.info.size ∧ i.info.size ≤ vs.length ∧ (∀ j (h : j < x.cells.length), (x.cells[j]).isCell = true) ∧
    (∀ j (h : j < x.cells.length) (h' : j < vs.length), VR C w O2 B2 M2 x.cells[j] vs[j]) := by
   rcases readAt_sound hc hv with ⟨ha, hle, hvr, rfl, hle2⟩ | ⟨ha, hlt, hvr, hcell, h1, hlt2, rfl⟩
   ·obtain ⟨h1, h2, h3⟩ := freeze_sound hT hL d hvr hx
    cases d with
    | zero => simp [freeze] at hx
    | succ d =>
     simp only [freeze, Option.bind_eq_some_iff, Option.some.injEq] at hx
     obtain ⟨zs, hzs, rfl⟩ := hx
     obtain ⟨us, hus, hcr⟩ := h1.agg_cells
     have hus2 : us = vs.take i.info.size := by
      have := congrArg (fun v => match v with | Value.agg a => a.toList | _ => []) hus
      simpa using this.symm
     subst hus2
     have hl := hcr.len
     simp only [List.length_take] at hl
     refine ⟨by rw [ha]; exact h1, h2, by simp [AV.cells]; omega, hle, fun j hj => hcr.cell j hj, fun j hj h' => ?_⟩
     have h'' : j < (vs.take i.info.size).length := by simp [AV.cells] at hj; simp; omega
     have h3 := hcr.rel j hj h''
     rw [List.getElem_take] at h3
     exact h3
   ·obtain ⟨h3, h4, h5⟩ := freeze_sound hT hL d hvr hx
    rw [hcell] at h5
    have hcells : x.cells = [x] := by cases x <;> first | rfl | cases h5
    refine ⟨by rw [ha]; simpa [hlt] using h3, h4, by rw [hcells, h1]; rfl, by omega, fun j hj => ?_, fun j hj h' => ?_⟩
    ·have : j = 0 := by rw [hcells] at hj; simpa using hj
     subst this
     simpa [hcells] using h5
    ·have : j = 0 := by rw [hcells] at hj; simpa using hj
     subst this
     simpa [hcells] using h3
  obtain ⟨_, f2, f3, f4, f5, f6⟩ := first
  have hfit := hr.fit
  rw [List.length_drop] at hfit
  refine ⟨by simp [hr.len], fun k hk => ?_, fun k hk j hj => ?_, by simp [datL, f2, hr.dat], by rw [Nat.add_mul]; omega, fun k hk j hj h' => ?_⟩
  ·cases k with
   | zero => exact f3
   | succ k => exact hr.szs k (by simpa using hk)
  ·cases k with
   | zero => exact f5 j hj
   | succ k => exact hr.cell k (by simpa using hk) j hj
  ·cases k with
   | zero =>
    have := f6 j hj (by simpa using h')
    simpa using this
   | succ k =>
    have := hr.rel k (by simpa using hk) j hj (by rw [List.length_drop]; rw [Nat.add_mul] at h'; omega)
    simp only [List.getElem_cons_succ, List.getElem_drop] at this ⊢
    have e : i.info.size + (k * i.info.size + j) = (k + 1) * i.info.size + j := by rw [Nat.add_mul]; omega
    simp only [e] at this
    exact this
end
end
end Go.Ev
namespace Go.Ev
open Go
theorem hget_append (a b : Heap) (k : Nat) : hget (a ++ b) k = match hget a k with | some x => some x | none => hget b k := by
 induction a with
 | nil => rfl
 | cons p a ih =>
  obtain ⟨n, x⟩ := p
  rw [List.cons_append, hget_cons, hget_cons]
  by_cases h : n = k
  ·rw [if_pos h, if_pos h]
  ·rw [if_neg h, if_neg h]; exact ih
theorem hget_fresh {lim : Nat} : ∀ {H : Heap} {b : Nat} {blk : Blk}, hget (fresh lim H) b = some blk → hget H b = some blk ∧ lim ≤ b
 | [], b, blk, h => by simp [fresh, hget] at h
 | (k, x) :: r, b, blk, h => by
  unfold fresh at h
  cases hq : Nat.ble lim k with
  | true =>
   rw [hq] at h
   simp only [cond_true, hget_cons] at h
   rw [hget_cons]
   by_cases e : k = b
   ·rw [if_pos e] at h ⊢
    exact ⟨h, by rw [← e]; simpa using hq⟩
   ·rw [if_neg e] at h ⊢
    exact hget_fresh h
  | false =>
   rw [hq] at h
   simp [hget] at h
theorem hget_hdels : ∀ {l : List Nat} {H : Heap} {b : Nat} {blk : Blk}, hget (hdels H l) b = some blk → hget H b = some blk ∧ b ∉ l
 | [], H, b, blk, h => ⟨h, by simp⟩
 | x :: r, H, b, blk, h => by
  obtain ⟨h1, h2⟩ := hget_hdels (l := r) h
  rw [hget_hdel] at h1
  split at h1
  ·cases h1
  ·rename_i hne; exact ⟨h1, by simp [hne, h2]⟩
theorem noDup_iff : ∀ {l : List Nat}, noDup l = true → l.Nodup
 | [], _ => List.nodup_nil
 | x :: r, h => by
  simp only [noDup, Bool.and_eq_true, List.all_eq_true, Bool.not_eq_true'] at h
  refine List.nodup_cons.2 ⟨fun hm => ?_, noDup_iff h.2⟩
  have := h.1 x hm
  rw [(beq_iff x x).2 rfl] at this
  cases this
def imgs (lim : Nat) (Mc : MapB) : List AV → List (Nat × Nat)
 | [] => []
 | .sref b off _ _ :: r => bif Nat.ble lim b then (match Mc b with | some (cb, base) => (cb, base + off) | none => (0, 0)) :: imgs lim Mc r else imgs lim Mc r
 | .mref b :: r => bif Nat.ble lim b then (match Mc b with | some (cb, base) => (cb, base) | none => (0, 0)) :: imgs lim Mc r else imgs lim Mc r
 | _ :: r => imgs lim Mc r
theorem tops_append (lim : Nat) : ∀ (a b : List AV), tops lim (a ++ b) = tops lim a ++ tops lim b
 | [], b => rfl
 | v :: r, b => by
  cases v with
  | sref b' off len cap => simp only [List.cons_append, tops, tops_append lim r b]; cases Nat.ble lim b' <;> rfl
  | mref b' => simp only [List.cons_append, tops, tops_append lim r b]; cases Nat.ble lim b' <;> rfl
  | _ => simp only [List.cons_append, tops, tops_append lim r b]
theorem imgs_append (lim : Nat) (Mc : MapB) : ∀ (a b : List AV), imgs lim Mc (a ++ b) = imgs lim Mc a ++ imgs lim Mc b
 | [], b => rfl
 | v :: r, b => by
  cases v with
  | sref b' off len cap => simp only [List.cons_append, imgs, imgs_append lim Mc r b]; cases Nat.ble lim b' <;> rfl
  | mref b' => simp only [List.cons_append, imgs, imgs_append lim Mc r b]; cases Nat.ble lim b' <;> rfl
  | _ => simp only [List.cons_append, imgs, imgs_append lim Mc r b]
section
variable {C : Ctx} {w : World} {Oc Bc : Nat → Prop} {Mc : MapB} {Hc H1 : Heap} {O2 B2 : Nat → Prop} {M2 : MapB} {lim : Nat}
structure NewR (C : Ctx) (w : World) (O2 B2 : Nat → Prop) (M2 : MapB) (n n' : Nat) (h : Heap) : Prop where
 rng : ∀ p ∈ h, n ≤ p.1 ∧ p.1 < n'
 blk : ∀ b x, hget h b = some x → ∃ cb base, M2 b = some (cb, base) ∧ BlkR C w O2 B2 M2 cb base x
 all : ∀ b, n ≤ b → b < n' → ∃ x, hget h b = some x
 len : h.length = n' - n
 le : n ≤ n'
theorem hget_mem : ∀ {h : Heap} {b : Nat} {x : Blk}, hget h b = some x → (b, x) ∈ h
 | (k, y) :: r, b, x, hh => by
  rw [hget_cons] at hh
  by_cases e : k = b
  ·rw [if_pos e] at hh; cases hh; subst e; simp
  ·rw [if_neg e] at hh; exact List.mem_cons_of_mem _ (hget_mem hh)
theorem NewR.nil (n : Nat) : NewR C w O2 B2 M2 n n [] :=
 ⟨fun p h => (by cases h), fun b x h => (by simp [hget] at h), fun b h1 h2 => (by omega), by simp, Nat.le_refl _⟩
theorem NewR.append {n n' n'' : Nat} {h h' : Heap} (a : NewR C w O2 B2 M2 n n' h) (b : NewR C w O2 B2 M2 n' n'' h') : NewR C w O2 B2 M2 n n'' (h' ++ h) := by
 have h1 := a.le
 have h2 := b.le
 refine ⟨fun p hp => ?_, fun k x hk => ?_, fun k hk1 hk2 => ?_, by simp [a.len, b.len]; omega, by omega⟩
 ·rcases List.mem_append.1 hp with hp | hp
  ·have := b.rng p hp; omega
  ·have := a.rng p hp; omega
 ·rw [hget_append] at hk
  split at hk
  ·rename_i y hy; cases hk; exact b.blk k _ hy
  ·exact a.blk k x hk
 ·rw [hget_append]
  by_cases hlt : k < n'
  ·obtain ⟨x, hx⟩ := a.all k hk1 hlt
   cases hq : hget h' k with
   | some y => exact ⟨y, rfl⟩
   | none => exact ⟨x, hx⟩
  ·obtain ⟨x, hx⟩ := b.all k (by omega) hk2
   exact ⟨x, by rw [hx]⟩
theorem ER.flat {t : Bool} {sz : Nat} {O2 B2 : Nat → Prop} {M2 : MapB} : ∀ {n : Nat} {xs : List AV} {vs : List Value}, ER C w O2 B2 M2 t sz n xs vs → CR C w O2 B2 M2 (flat xs) (vs.take (n * sz))
 | n, [], vs, h => by
  have := h.len
  simp at this
  subst this
  simpa [Ev.flat] using CR.nil
 | n, x :: r, vs, h => by
  obtain ⟨m, rfl⟩ : ∃ m, n = m + 1 := ⟨r.length, by have := h.len; simpa using this.symm⟩
  have h0 := h.szs 0 (by simp)
  simp only [List.getElem_cons_zero] at h0
  have hfit := h.fit
  rw [Nat.add_mul, Nat.one_mul] at hfit
  have hr : ER C w O2 B2 M2 t sz m r (vs.drop sz) := by
   refine ⟨by have := h.len; simpa using this, fun i hi => h.szs (i + 1) (by simpa using hi), fun i hi => h.cell (i + 1) (by simpa using hi), by have := h.dat; simp only [datL, Bool.and_eq_true] at this; exact this.2, by rw [List.length_drop]; omega, fun i hi j hj h'' => ?_⟩
   rw [List.length_drop] at h''
   have := h.rel (i + 1) (by simpa using hi) j hj (by rw [Nat.add_mul]; omega)
   simp only [List.getElem_cons_succ, List.getElem_drop] at this ⊢
   have e : sz + (i * sz + j) = (i + 1) * sz + j := by rw [Nat.add_mul]; omega
   simp only [e]
   exact this
  have ih := hr.flat
  have hc0 : CR C w O2 B2 M2 x.cells (vs.take sz) := by
   refine ⟨by simp [h0]; omega, fun j hj => h.cell 0 (by simp) j hj, fun j hj h' => ?_⟩
   have := h.rel 0 (by simp) j hj (by simp at h'; omega)
   rw [List.getElem_take]
   simpa using this
  have e1 : vs.take ((m + 1) * sz) = vs.take sz ++ (vs.drop sz).take (m * sz) := by
   rw [Nat.add_mul, Nat.one_mul, Nat.add_comm, List.take_add]
  rw [e1]
  simpa [Ev.flat] using hc0.append ih
theorem impC_plain (n : Nat) {v : AV} (h : ∀ e sz xs cap, v ≠ .sown e sz xs cap) (h2 : ∀ ks us bs ck, v ≠ .mown ks us bs ck) : impC n v = (v, [], n) := by
 cases v <;> first | rfl | exact absurd rfl (h _ _ _ _) | exact absurd rfl (h2 _ _ _ _)
theorem portC_sound (hs : Sit C w Oc Bc Mc Hc) (hT : Tgt false Oc Bc Mc H1 O2 B2) (hL : Lies C w Oc Bc Mc H1) (hold : ∀ b x, b < lim → Mc b = some x → M2 b = some x) {v v' : AV} {cv : Value} (hv : VR C w Oc Bc Mc v cv)
  (h : portC C Hc H1 lim v = some v') (n : Nat) (hM2 : ∀ k (hk : k < (imgs lim Mc [v]).length), M2 (n + k) = some (imgs lim Mc [v])[k]) :
  VR C w O2 B2 M2 (impC n v').1 cv ∧ (impC n v').2.2 = n + (imgs lim Mc [v]).length ∧ NewR C w O2 B2 M2 n (impC n v').2.2 (impC n v').2.1 ∧ (v.isCell = true → (impC n v').1.isCell = true) := by
 have other : ∀ u, freeze C H1 false deep v = some u → (∀ b off len cap, v ≠ .sref b off len cap) → (∀ b, v ≠ .mref b) → v' = u → VR C w O2 B2 M2 (impC n v').1 cv ∧ (impC n v').2.2 = n + (imgs lim Mc [v]).length ∧ NewR C w O2 B2 M2 n (impC n v').2.2 (impC n v').2.1 ∧ (v.isCell = true → (impC n v').1.isCell = true) := fun u hu hne hne2 e => by
  subst e
  obtain ⟨h1, h2, h3⟩ := freeze_sound (M2 := M2) hT hL deep hv hu
  have hp : impC n v' = (v', [], n) := impC_plain n (fun e sz xs cap he => by subst he; simp [dat] at h2) (fun ks us bs ck he => by subst he; simp [dat] at h2)
  have hi : imgs lim Mc [v] = [] := by cases v <;> first | rfl | exact absurd rfl (hne _ _ _ _) | exact absurd rfl (hne2 _)
  rw [hp, hi]
  exact ⟨h1, rfl, .nil n, fun hc => by rw [h3]; exact hc⟩
 unfold portC at h
 split at h
 ·rename_i b off len cap
  cases hq : Nat.ble lim b with
  | true =>
   rw [hq] at h
   simp only [cond_true, Option.bind_eq_some_iff, Option.some.injEq] at h
   obtain ⟨⟨e, cs⟩, hcs, i, hi, _, hpos, xs, hxs, rfl⟩ := h
   have hpos : 0 < i.info.size := by simpa using chk_some hpos
   obtain ⟨cb, base, c, e1, i1, cc, fz, rfl, hM, hblk, hi1, hle, hfit, hcap, hfull⟩ := hv.sref_inv
   obtain ⟨cc', fz', hblk', hfz, hfit', hO, hcr, hat⟩ := hs.cells hcs hM
   rw [hblk] at hblk'
   cases hblk'
   rw [hi] at hi1
   obtain rfl := Option.some.inj hi1
   have hE := freezeN_sound (M2 := M2) hT hL deep (hcr.drop off) hxs
   have him : imgs lim Mc [.sref b off len cap] = [(cb, base + off)] := by simp [imgs, hq, hM]
   have hn : M2 n = some (cb, base + off) := by
    have := hM2 0 (by rw [him]; simp)
    simpa [him] using this
   have hf := hE.flat
   have hfitE := hE.fit
   have hlen : (flat xs).length = len * i.info.size := by
    have := hf.len
    rw [List.length_take] at this
    omega
   refine ⟨?_, by rw [him]; rfl, ⟨fun p hp => ?_, fun b' x hx => ?_, fun b' h1 h2 => ⟨.cells e (flat xs), ?_⟩, by simp [impC], by simp [impC]⟩, fun _ => rfl⟩
   ·have := VR.sref (C := C) (w := w) (O := O2) (B := B2) (M := M2) n 0 len cap cb (base + off) c e i cc _ hn hblk hi hle (by omega) hcap (fun h => by have := hfull h; omega)
    simp only [impC, hE.len]
    simpa using this
   ·simp only [impC, List.mem_singleton] at hp
    subst hp
    simp [impC]
   ·simp only [impC, hget_cons] at hx
    split at hx
    ·rename_i e2; subst e2
     cases hx
     refine ⟨cb, base + off, hn, .ofCRf hblk hfz ?_ ?_⟩
     ·rw [hlen]
      have : ((((cc.toList.drop base).take cs.length)).drop off).length ≤ cs.length - off := by simp; omega
      by_cases h0 : len * i.info.size = 0
      ·have : len * i.info.size ≤ c * i.info.size := Nat.mul_le_mul_right _ hle
       omega
      ·omega
     ·have e3 : (cc.toList.drop (base + off)).take (flat xs).length = ((((cc.toList.drop base).take cs.length).drop off)).take (len * i.info.size) := by
       rw [hlen, List.drop_take, List.drop_drop, List.take_take]
       congr 1
       have : ((((cc.toList.drop base).take cs.length)).drop off).length = min cs.length (cc.size - base) - off := by simp
       omega
      rw [e3]
      exact hf
    ·simp [hget] at hx
   ·have : b' = n := by simp [impC] at h2; omega
    subst this
    simp [impC, hget_cons]
  | false =>
   rw [hq] at h
   simp only [cond_false, Option.some.injEq] at h
   subst h
   have hlt : b < lim := by
    apply Nat.lt_of_not_le
    intro hle
    rw [Nat.ble_eq_true_of_le hle] at hq; cases hq
   have hi : imgs lim Mc [.sref b off len cap] = [] := by simp [imgs, hq]
   obtain ⟨cb, base, c, e1, i1, cc, fz, rfl, hM, hblk, hi1, hle, hfit, hcap, hfull⟩ := hv.sref_inv
   rw [hi]
   exact ⟨.sref b off len cap cb base c e1 i1 cc fz (hold _ _ hlt hM) hblk hi1 hle hfit hcap hfull, rfl, .nil n, fun h => h⟩
 ·rename_i b
  cases hq : Nat.ble lim b with
  | true =>
   rw [hq] at h
   simp only [cond_true, Option.bind_eq_some_iff, Option.some.injEq] at h
   obtain ⟨⟨ks, us, bs, ck⟩, hm, ks', hks, us', hus, rfl⟩ := h
   cases hv with
   | mref _ cb hM =>
    obtain ⟨cb', base, hM', _, hr⟩ := hs.own b _ (hmap_some hm)
    rw [hM] at hM'
    obtain ⟨rfl, rfl⟩ := Prod.mk.inj (Option.some.inj hM')
    obtain ⟨_, es, hblk, hl⟩ := hr.map_inv
    have him : imgs lim Mc [.mref b] = [(cb, 0)] := by simp [imgs, hq, hM]
    have hn : M2 n = some (cb, 0) := by
     have := hM2 0 (by rw [him]; simp)
     simpa [him] using this
    obtain ⟨k1, k2, _⟩ := freezeL_sound (M2 := M2) hT hL deep hl.lrk hks
    obtain ⟨u1, u2, _⟩ := freezeL_sound (M2 := M2) hT hL deep hl.lru hus
    have hl2 : EL (VR C w O2 B2 M2) ks' us' bs es.toList := hl.swap (by have := k1.len; simpa using this.symm) (by have := u1.len; simpa using this.symm) (fun j a b => by have := k1.rel j b (by simpa using a); simpa using this) fun j a b => by have := u1.rel j b (by simpa using a); simpa using this
    refine ⟨.mref n cb hn, by rw [him]; rfl, ⟨fun p hp => ?_, fun b' x hx => ?_, fun b' h1 h2 => ⟨.map ks' us' bs ck, ?_⟩, by simp [impC], by simp [impC]⟩, fun _ => rfl⟩
    ·simp only [impC, List.mem_singleton] at hp
     subst hp
     simp [impC]
    ·simp only [impC, hget_cons] at hx
     split at hx
     ·rename_i e2; subst e2
      cases hx
      exact ⟨cb, 0, hn, .mk_map hblk hl2⟩
     ·simp [hget] at hx
    ·have : b' = n := by simp [impC] at h2; omega
     subst this
     simp [impC, hget_cons]
  | false =>
   rw [hq] at h
   simp only [cond_false, Option.some.injEq] at h
   subst h
   have hlt : b < lim := by
    apply Nat.lt_of_not_le
    intro hle
    rw [Nat.ble_eq_true_of_le hle] at hq; cases hq
   have hi : imgs lim Mc [.mref b] = [] := by simp [imgs, hq]
   cases hv with
   | mref _ cb hM =>
    rw [hi]
    exact ⟨.mref b cb (hold _ _ hlt hM), rfl, .nil n, fun h => h⟩
 ·rename_i b off
  simp only [Option.bind_eq_some_iff, Option.some.injEq] at h
  obtain ⟨_, hq, rfl⟩ := h
  have hq := chk_some hq
  have hlt : b < lim := by
   apply Nat.lt_of_not_le
   intro hle
   rw [Nat.ble_eq_true_of_le hle] at hq; cases hq
  cases hv with
  | pref _ _ cb base hM => exact ⟨.pref b off cb base (hold _ _ hlt hM), rfl, .nil n, fun h => h⟩
 ·rename_i hne1 hne2 hne3
  exact other v' h (fun b off len cap e => hne1 b off len cap e) (fun b e => hne2 b e) rfl
theorem imgs_cons (v : AV) (r : List AV) : imgs lim Mc (v :: r) = imgs lim Mc [v] ++ imgs lim Mc r := imgs_append lim Mc [v] r
theorem portL_sound (hs : Sit C w Oc Bc Mc Hc) (hT : Tgt false Oc Bc Mc H1 O2 B2) (hL : Lies C w Oc Bc Mc H1) (hold : ∀ b x, b < lim → Mc b = some x → M2 b = some x) : ∀ {l l' : List AV} {vs : List Value} (n : Nat), LR C w Oc Bc Mc l vs →
  portL C Hc H1 lim l = some l' → (∀ k (hk : k < (imgs lim Mc l).length), M2 (n + k) = some (imgs lim Mc l)[k]) →
  LR C w O2 B2 M2 (impL n l').1 vs ∧ (impL n l').2.2 = n + (imgs lim Mc l).length ∧ NewR C w O2 B2 M2 n (impL n l').2.2 (impL n l').2.1 ∧ ((∀ j (h : j < l.length), l[j].isCell = true) → ∀ j (h : j < (impL n l').1.length), (impL n l').1[j].isCell = true)
 | [], l', vs, n, hl, h, _ => by
  simp only [portL, Option.some.injEq] at h
  subst h
  exact ⟨⟨hl.len, fun j h => by simp [impL] at h⟩, rfl, .nil n, fun _ j h => by simp [impL] at h⟩
 | v :: r, l', vs, n, hl, h, hM2 => by
  simp only [portL, Option.bind_eq_some_iff, Option.some.injEq] at h
  obtain ⟨x, hx, xs, hxs, rfl⟩ := h
  cases vs with
  | nil => have := hl.len; simp at this
  | cons u us =>
   have h0 := hl.rel 0 (by simp) (by simp)
   simp only [List.getElem_cons_zero] at h0
   rw [imgs_cons] at hM2
   have h1 := portC_sound (M2 := M2) hs hT hL hold h0 hx n (fun k hk => by
    have := hM2 k (by simp; omega)
    rw [List.getElem_append_left hk] at this
    exact this)
   have h2 := portL_sound hs hT hL hold (l := r) (vs := us) (n + (imgs lim Mc [v]).length) ⟨by have := hl.len; simpa using this, fun j a b => by have := hl.rel (j + 1) (by simp; omega) (by simp; omega); simpa using this⟩ hxs (fun k hk => by
    have := hM2 ((imgs lim Mc [v]).length + k) (by simp; omega)
    rw [List.getElem_append_right (by omega)] at this
    simpa [Nat.add_assoc] using this)
   obtain ⟨a1, a2, a3, a4⟩ := h1
   obtain ⟨b1, b2, b3, b4⟩ := h2
   have e : impL n (x :: xs) = ((impC n x).1 :: (impL (impC n x).2.2 xs).1, (impL (impC n x).2.2 xs).2.1 ++ (impC n x).2.1, (impL (impC n x).2.2 xs).2.2) := rfl
   rw [e, a2]
   rw [a2] at a3
   refine ⟨⟨by simp [b1.len], fun j h1 h2 => ?_⟩, by rw [b2, imgs_cons v r, List.length_append]; omega, a3.append b3, fun hc j hj => ?_⟩
   ·cases j with
    | zero => exact a1
    | succ j => exact b1.rel j (by simpa using h1) (by simpa using h2)
   ·cases j with
    | zero => exact a4 (hc 0 (by simp))
    | succ j => exact b4 (fun k hk => by have := hc (k + 1) (by simp; omega); simpa using this) j (by simpa using hj)
end
end Go.Ev
