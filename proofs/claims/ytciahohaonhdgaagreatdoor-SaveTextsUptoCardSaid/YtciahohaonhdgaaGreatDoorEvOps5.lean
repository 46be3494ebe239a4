/- A PART OF THE PROOF THAT SAVETEXTS HOLDS FOR EVERY INPUT OF BULK AT MOST 1048576. No condition beyond the given statement. This part: EvOps5. -/
import Derived.Test.YtciahohaonhdgaaGreatDoorEvOps2
import Derived.Laws.RangeString
namespace Go.Ev
open Go
section
variable {P : Program} {C : Ctx} {w : World} {O B : Nat → Prop} {M : MapB} {H : Heap}
theorem Step.moveOut {st : St} (hs : Sit C w O B M st.heap) (hn : M st.nxt = none) {b cb base : Nat} {blk : Blk} (hb : hget st.heap b = some blk) (hM : M b = some (cb, base)) (o : Obj) {blk' : Blk}
  (hr : BlkR C (w.alloc o) (fun x => (O x ∧ x ≠ cb) ∨ x = w.heap.size) B (upd M st.nxt (w.heap.size, 0)) w.heap.size 0 blk') :
  Step C B true w O M st (w.alloc o) (fun x => (O x ∧ x ≠ cb) ∨ x = w.heap.size) (upd M st.nxt (w.heap.size, 0)) ((st.kill b).new blk') := by
 have hcb := hs.lt hb hM
 have hx0 : Ext w O M (w.alloc o) (fun x => O x ∨ x = w.heap.size) (upd M st.nxt (w.heap.size, 0)) := Ext.alloc o hn 0
 have hx : Ext w O M (w.alloc o) (fun x => (O x ∧ x ≠ cb) ∨ x = w.heap.size) (upd M st.nxt (w.heap.size, 0)) :=
  ⟨hx0.os, hx0.tape, hx0.output, hx0.size, hx0.keep, hx0.shp, fun x hx => hx0.own x (hx.imp (·.1) id), hx0.sub⟩
 have hne : ∀ b blk, hget st.heap b = some blk → b ≠ st.nxt := fun b blk hb e => by
  obtain ⟨cb, base, hM, _⟩ := hs.own b blk hb
  rw [e, hn] at hM; cases hM
 have hold : ∀ x bx, hget ((st.kill b).new blk').heap x = some bx → x ≠ st.nxt → x ≠ b ∧ hget st.heap x = some bx := fun x bx hx hxn => by
  simp only [St.new, St.kill, hget_cons] at hx
  rw [if_neg (Ne.symm hxn), hget_hdel] at hx
  split at hx
  ·cases hx
  ·rename_i h; exact ⟨h, hx⟩
 refine ⟨hx, ⟨fun x bx hxb => ?_, fun x y bx by' c1 b1 b2 hxb hyb h1 h2 => ?_, fun g cs hg => (hs.glob g cs hg).mono hx, hx.sep hs.sep hs.bl, hx.bl hs.bl⟩, fun x hx => ?_, by simp [St.new, St.kill], Nat.min_le_left _ _, fun x hx hlow => ?_, fun c hO hlt hni => ?_, fun h x hx => ?_, fun h => by cases h⟩
 ·by_cases hxn : x = st.nxt
  ·subst hxn
   simp only [St.new, St.kill, hget_cons, if_true, Option.some.injEq] at hxb
   subst hxb
   exact ⟨w.heap.size, 0, by simp [upd], .inr rfl, hr⟩
  ·obtain ⟨h1, h2⟩ := hold x bx hxb hxn
   obtain ⟨c1, b1, hM1, hO1, hr1⟩ := hs.own x bx h2
   exact ⟨c1, b1, hx.sub _ _ hM1, .inl ⟨hO1, fun e => h1 (hs.inj x b bx blk c1 b1 base h2 hb hM1 (e ▸ hM))⟩, hr1.mono hx (alloc_old w o c1 (hs.lt h2 hM1))⟩
 ·by_cases hxn : x = st.nxt <;> by_cases hyn : y = st.nxt
  ·exact hxn.trans hyn.symm
  ·obtain ⟨_, h3⟩ := hold y by' hyb hyn
   have h4 : M y = some (c1, b2) := by simpa [upd, hyn] using h2
   have := hs.lt h3 h4
   subst hxn
   simp [upd] at h1
   omega
  ·obtain ⟨_, h3⟩ := hold x bx hxb hxn
   have h4 : M x = some (c1, b1) := by simpa [upd, hxn] using h1
   have := hs.lt h3 h4
   subst hyn
   simp [upd] at h2
   omega
  ·obtain ⟨_, h3⟩ := hold x bx hxb hxn
   obtain ⟨_, h4⟩ := hold y by' hyb hyn
   exact hs.inj x y bx by' c1 b1 b2 h3 h4 (by simpa [upd, hxn] using h1) (by simpa [upd, hyn] using h2)
 ·unfold upd
  rw [if_neg (by simp [St.new, St.kill] at hx; omega)]
 ·simp only [St.new, St.kill] at hlow
  simp only [St.new, St.kill, hget_cons]
  rw [if_neg (by omega), hget_hdel, if_neg (by omega)]
 ·refine ⟨alloc_old w o c hlt, .inl ⟨hO, fun e => hni ⟨b, blk, base, hb, by rw [hM, e]⟩⟩, fun ⟨b1, bx, base1, h1, h2⟩ => ?_⟩
  by_cases hxn : b1 = st.nxt
  ·subst hxn
   simp [upd] at h2
   omega
  ·obtain ⟨_, h3⟩ := hold b1 bx h1 hxn
   exact hni ⟨b1, bx, base1, h3, by simpa [upd, hxn] using h2⟩
 ·rw [size_alloc']
  rcases hx with hx | rfl
  ·have := h x hx.1; omega
  ·omega
theorem Step.moveIn {st : St} (hs : Sit C w O B M st.heap) (hn : M st.nxt = none) {b cb base base' : Nat} {blk : Blk} (hb : hget st.heap b = some blk) (hM : M b = some (cb, base)) {w' : World} (hx0 : Ext w O M w' O M)
  (ho : ∀ k, k ≠ cb → w'.heap[k]? = w.heap[k]?) {blk' : Blk} (hr : BlkR C w' O B (upd M st.nxt (cb, base')) cb base' blk') :
  Step C B true w O M st w' O (upd M st.nxt (cb, base')) ((st.kill b).new blk') := by
 have hx : Ext w O M w' O (upd M st.nxt (cb, base')) := ⟨hx0.os, hx0.tape, hx0.output, hx0.size, hx0.keep, hx0.shp, hx0.own, fun x y h => by
  unfold upd
  by_cases e : x = st.nxt
  ·subst e; rw [hn] at h; cases h
  ·rw [if_neg e]; exact h⟩
 have hOcb : O cb := by
  obtain ⟨c1, b1, h1, h2, _⟩ := hs.own b blk hb
  rw [hM] at h1; cases h1; exact h2
 have hne : ∀ b blk, hget st.heap b = some blk → b ≠ st.nxt := fun b blk hb e => by
  obtain ⟨cb, base, hM, _⟩ := hs.own b blk hb
  rw [e, hn] at hM; cases hM
 have hold : ∀ x bx, hget ((st.kill b).new blk').heap x = some bx → x ≠ st.nxt → x ≠ b ∧ hget st.heap x = some bx := fun x bx hx hxn => by
  simp only [St.new, St.kill, hget_cons] at hx
  rw [if_neg (Ne.symm hxn), hget_hdel] at hx
  split at hx
  ·cases hx
  ·rename_i h; exact ⟨h, hx⟩
 have apart : ∀ x bx c1 b1, x ≠ b → hget st.heap x = some bx → M x = some (c1, b1) → c1 ≠ cb := fun x bx c1 b1 hxb h hM1 e => hxb (hs.inj x b bx blk c1 b1 base h hb hM1 (e ▸ hM))
 refine ⟨hx, ⟨fun x bx hxb => ?_, fun x y bx by' c1 b1 b2 hxb hyb h1 h2 => ?_, fun g cs hg => (hs.glob g cs hg).mono hx, hx.sep hs.sep hs.bl, hx.bl hs.bl⟩, fun x hx => ?_, by simp [St.new, St.kill], Nat.min_le_left _ _, fun x hx hlow => ?_, fun c hO hlt hni => ?_, fun h x hx => ?_, fun h => by cases h⟩
 ·by_cases hxn : x = st.nxt
  ·subst hxn
   simp only [St.new, St.kill, hget_cons, if_true, Option.some.injEq] at hxb
   subst hxb
   exact ⟨cb, base', by simp [upd], hOcb, hr⟩
  ·obtain ⟨h1, h2⟩ := hold x bx hxb hxn
   obtain ⟨c1, b1, hM1, hO1, hr1⟩ := hs.own x bx h2
   exact ⟨c1, b1, hx.sub _ _ hM1, hO1, hr1.mono hx (ho c1 (apart x bx c1 b1 h1 h2 hM1))⟩
 ·by_cases hxn : x = st.nxt <;> by_cases hyn : y = st.nxt
  ·exact hxn.trans hyn.symm
  ·obtain ⟨h0, h3⟩ := hold y by' hyb hyn
   have h4 : M y = some (c1, b2) := by simpa [upd, hyn] using h2
   subst hxn
   simp [upd] at h1
   exact absurd h1.1.symm (apart y by' c1 b2 h0 h3 h4)
  ·obtain ⟨h0, h3⟩ := hold x bx hxb hxn
   have h4 : M x = some (c1, b1) := by simpa [upd, hxn] using h1
   subst hyn
   simp [upd] at h2
   exact absurd h2.1.symm (apart x bx c1 b1 h0 h3 h4)
  ·obtain ⟨_, h3⟩ := hold x bx hxb hxn
   obtain ⟨_, h4⟩ := hold y by' hyb hyn
   exact hs.inj x y bx by' c1 b1 b2 h3 h4 (by simpa [upd, hxn] using h1) (by simpa [upd, hyn] using h2)
 ·unfold upd
  rw [if_neg (by simp [St.new, St.kill] at hx; omega)]
 ·simp only [St.new, St.kill] at hlow
  simp only [St.new, St.kill, hget_cons]
  rw [if_neg (by omega), hget_hdel, if_neg (by omega)]
 ·have hc : c ≠ cb := fun e => hni ⟨b, blk, base, hb, by rw [hM, e]⟩
  refine ⟨ho c hc, hO, fun ⟨b1, bx, base1, h1, h2⟩ => ?_⟩
  by_cases hxn : b1 = st.nxt
  ·subst hxn
   simp [upd] at h2
   exact hc h2.1.symm
  ·obtain ⟨_, h3⟩ := hold b1 bx h1 hxn
   exact hni ⟨b1, bx, base1, h3, by simpa [upd, hxn] using h2⟩
 ·exact Nat.lt_of_lt_of_le (h x hx) hx0.size
theorem append_kind {d2 : TypeDesc} {t2 : TypeId} (h : (match d2 with | .slice _ => true | .string => true | _ => false) = true) (hd : P.underlying t2 = some d2) : (∃ e', P.underlying t2 = some (.slice e')) ∨ P.underlying t2 = some .string := by
 cases d2 <;> first | exact .inl ⟨_, hd⟩ | exact .inr hd | cases h
theorem seg_eq (l us : List Value) (p q : Nat) (h : p + q ≤ l.length) : ((l.take (p + q) ++ us ++ l.drop (p + q + us.length)).drop p).take (q + us.length) = (l.drop p).take q ++ us := by
 apply List.ext_getElem?
 intro j
 simp only [List.getElem?_take, List.getElem?_drop, List.append_assoc, List.getElem?_append, List.length_take, List.length_drop]
 by_cases h1 : j < q
 ·simp only [show j < q + us.length by omega, if_true, show p + j < min (p + q) l.length by omega, show j < min q (l.length - p) by omega, show p + j < p + q by omega, h1]
 ·by_cases h2 : j < q + us.length
  ·simp only [h2, if_true, show ¬ (p + j < min (p + q) l.length) by omega, show ¬ (j < min q (l.length - p)) by omega, if_false, show p + j - min (p + q) l.length = j - q by omega, show j - min q (l.length - p) = j - q by omega, show j - q < us.length by omega]
  ·simp only [h2, if_false, show ¬ (j < min q (l.length - p)) by omega]
   rw [List.getElem?_eq_none (by omega)]
theorem take_front (l r : List Value) : ((l ++ r).toArray.toList.drop 0).take l.length = l := by simp
theorem take_all {us : List Value} {n : Nat} (h : us.length = n) : us.take n = us := by subst h; exact List.take_length
theorem mAppend_sound (hT : TyOk P C) {serial : Bool} {st st' : St} (hs : Sit C w O B M st.heap) (hn : M st.nxt = none) {t t2 ty : TypeId} {s x v : AV} {cs cx : Value} (hsv : VR C w O B M s cs) (hxv : VR C w O B M x cx) (h : mAppend C serial t t2 s x st = some (v, st')) :
  ∃ cv w' O' M', (Builtin.append_ #[t, t2] ty #[cs, cx]).run P w = .ok cv w' ∧ VR C w' O' B M' v cv ∧ Step C B serial w O M st w' O' M' st' := by
 unfold mAppend at h
 simp only [Option.bind_eq_some_iff] at h
 obtain ⟨e, hte, i, hie, z, hz, d2, hd2, _, hkd, _, hpos, ⟨n, new⟩, hsrc, h⟩ := h
 have hk := append_kind (P := P) (chk_some hkd) (hT.under hd2)
 have hpos : 0 < i.info.size := by simpa using chk_some hpos
 obtain ⟨hu1, hu2⟩ := hT.ty e i hie
 have hut := hT.elem hte
 obtain ⟨us, hcn, hnl, hlen, hfc⟩ := source_sound (P := P) hs hxv hsrc
 have hul : us.length = n * i.info.size := by rw [hcn.len, hnl]
 obtain ⟨hf1, hf2⟩ := hfc n (Nat.le_refl _)
 rw [take_all hul] at hf1 hf2
 have hz0 : ∀ (b : Option Addr) (l c : Nat), n = 0 → l ≤ c → (Builtin.append_ #[t, t2] ty #[.slice b l c, cx]).run P w = .ok (.slice b l c) w := fun b l c h0 hlc => by
  subst h0
  have hus : us = [] := List.eq_nil_of_length_eq_zero (by omega)
  subst hus
  exact run_append_zero hut hu2 hk hlen (by simpa using hf1) hlc
 split at h
 ·-- nil
  cases hsv
  cases hb : Nat.beq n 0 with
  | true =>
   rw [hb] at h
   simp only [cond_true, Option.some.injEq, Prod.mk.injEq] at h
   obtain ⟨rfl, rfl⟩ := h
   exact ⟨_, w, O, M, hz0 none 0 0 ((beq_iff _ _).1 hb) (Nat.le_refl _), .snil, .refl hs⟩
  | false =>
   rw [hb] at h
   simp only [cond_false, Option.bind_eq_some_iff, Option.some.injEq, Prod.mk.injEq] at h
   obtain ⟨_, hroom, rfl, rfl⟩ := h
   have hn0 : n ≠ 0 := fun e => by rw [e] at hb; cases hb
   have := append_grow (ty := ty) (base := none) (sLen := 0) (sCap := 0) hT (serial := serial) hs hn hte hie hz hk (olds := []) (ov := []) CR.nil hcn (by simp) hul hlen hf1 hf2 (by simp [Builtin.firstCells]) (by omega) (by simpa using chk_some hroom)
   simpa using this
 ·-- frozen
  rename_i t' z' xs c
  obtain ⟨blk, o, c', ov, rfl, hle, hcap, hol, hco, hat⟩ := hsv.sdat_cells
  obtain rfl := hcap c rfl
  simp only [Option.bind_eq_some_iff] at h
  obtain ⟨_, hz', h⟩ := h
  obtain rfl := (beq_iff _ _).1 (chk_some hz')
  cases hb : Nat.ble (xs.length + n) c' with
  | true =>
   rw [hb] at h
   simp only [cond_true, Option.bind_eq_some_iff, Option.some.injEq, Prod.mk.injEq] at h
   obtain ⟨_, h0, rfl, rfl⟩ := h
   exact ⟨_, w, O, M, hz0 _ _ _ ((beq_iff _ _).1 (chk_some h0)) hle, hsv, .refl hs⟩
  | false =>
   rw [hb] at h
   simp only [cond_false, Option.bind_eq_some_iff, Option.some.injEq, Prod.mk.injEq] at h
   obtain ⟨_, hroom, rfl, rfl⟩ := h
   have hgt : c' < xs.length + n := by
    have : ¬ (xs.length + n ≤ c') := fun hh => by rw [Nat.ble_eq_true_of_le hh] at hb; cases hb
    omega
   refine append_grow (ty := ty) hT (serial := serial) hs hn hte hie hz hk hco hcn hol hul hlen hf1 hf2 ?_ hgt (chk_some hroom)
   have := run_loadCells_at (P := P) (w := w.drew) (n := xs.length * i.info.size) hat (by omega)
   rw [take_all hol] at this
   simpa [Builtin.firstCells] using this
 ·-- the call's own
  rename_i b off len cap
  obtain ⟨cb, base, c, e1, i1, cc, fz, rfl, hM, hblk, hi1, hle, hfit, hcap, hfull⟩ := hsv.sref_inv
  cases hb : Nat.beq n 0 with
  | true =>
   rw [hb] at h
   simp only [cond_true, Option.some.injEq, Prod.mk.injEq] at h
   obtain ⟨rfl, rfl⟩ := h
   exact ⟨_, w, O, M, hz0 _ _ _ ((beq_iff _ _).1 hb) hle, hsv, .refl hs⟩
  | false =>
   rw [hb] at h
   simp only [cond_false, Option.bind_eq_some_iff] at h
   obtain ⟨⟨e', acs⟩, hcs, _, hchk, h⟩ := h
   have hchk := chk_some hchk
   simp only [Bool.and_eq_true, beq_iff, Nat.ble_eq] at hchk
   obtain ⟨he, hlen'⟩ := hchk
   have he := he.symm
   subst he
   obtain ⟨cc', fz', hblk', hfz, hfit', hO, hcr, hat⟩ := hs.cells hcs hM
   rw [hblk] at hblk'
   cases hblk'
   rw [hie] at hi1
   obtain rfl := Option.some.inj hi1
   have hco := (hcr.drop off).take (len * i.info.size)
   have hol : (((((cc.toList.drop base).take acs.length)).drop off).take (len * i.info.size)).length = len * i.info.size := by simp; omega
   have hold : (Builtin.firstCells i.info.size len (.slice (some ⟨cb, base + off, none⟩) len c)).run P w.drew = .ok (((((cc.toList.drop base).take acs.length)).drop off).take (len * i.info.size)).toArray w.drew := by
    simp only [Builtin.firstCells]
    exact run_loadCells_at (w := w.drew) (hat.drop off) (by simp; omega)
   have inplace : len + n ≤ c → off + (len + n) * i.info.size ≤ acs.length ∨ True → (Builtin.append_ #[t, t2] ty #[.slice (some ⟨cb, base + off, none⟩) len c, cx]).run P w =
     .ok (.slice (some ⟨cb, base + off, none⟩) (len + n) c) (w.setRow cb (cc.toList.take (base + off + len * i.info.size) ++ us ++ cc.toList.drop (base + off + len * i.info.size + us.length)).toArray) := fun hr _ => by
    refine run_append_in hut hu2 hk hlen hf1 hblk hfz.or hr ?_ hcn.one
    have : (len + n) * i.info.size ≤ c * i.info.size := Nat.mul_le_mul_right _ hr
    rw [Nat.add_mul] at this
    omega
   have hOb : O cb := hO
   cases hc : cap with
   | some c0 =>
    rw [hc] at h
    obtain rfl := hcap c0 hc
    simp only at h
    cases hb2 : Nat.ble (len + n) c with
    | true =>
     rw [hb2] at h
     simp only [cond_true, Option.bind_eq_some_iff, Option.some.injEq, Prod.mk.injEq] at h
     obtain ⟨_, hch, rfl, rfl⟩ := h
     have hch := chk_some hch
     simp only [Bool.and_eq_true, Nat.ble_eq] at hch
     obtain ⟨rfl, hfk⟩ := hch
     have hlc : len + n ≤ c := by simpa using hb2
     have hrun := inplace hlc (.inr trivial)
     have hw := step_write hs hcs hM hblk hcn (off := off + len * i.info.size) (by rw [hnl]; rw [Nat.add_mul] at hfk; omega)
     rw [show base + (off + len * i.info.size) = base + off + len * i.info.size by omega] at hw
     refine ⟨_, _, O, M, hrun, ?_, hw⟩
     obtain ⟨c', h1, h2⟩ := hw.ext.shp cb cc e fz hblk
     exact .sref b off (len + n) (some c) cb base c e i c' fz hM h1 hie hlc (by omega) (fun k hk => by cases hk; rfl) (fun hk => by cases hk)
    | false =>
     rw [hb2] at h
     simp only [cond_false, Option.bind_eq_some_iff, Option.some.injEq, Prod.mk.injEq] at h
     obtain ⟨_, hroom, rfl, rfl⟩ := h
     have hgt : c < len + n := by
      have : ¬ (len + n ≤ c) := fun hh => by rw [Nat.ble_eq_true_of_le hh] at hb2; cases hb2
      omega
     exact append_grow (ty := ty) hT (serial := serial) hs hn hte hie hz hk hco hcn hol hul hlen hf1 hf2 hold hgt (chk_some hroom)
   | none =>
    rw [hc] at h
    have hfl := hfull hc
    simp only [Option.bind_eq_some_iff] at h
    obtain ⟨_, hser, h⟩ := h
    obtain rfl := chk_some hser
    cases hb2 : Nat.ble (off + (len + n) * i.info.size) acs.length with
    | true =>
     rw [hb2] at h
     simp only [cond_true, Option.some.injEq, Prod.mk.injEq] at h
     obtain ⟨rfl, rfl⟩ := h
     have hfk : off + (len + n) * i.info.size ≤ acs.length := by simpa using hb2
     have hlc : len + n ≤ c := Nat.le_of_mul_le_mul_right (c := i.info.size) (by omega) hpos
     have hrun := inplace hlc (.inr trivial)
     have hw := step_write hs hcs hM hblk hcn (off := off + len * i.info.size) (by rw [hnl]; rw [Nat.add_mul] at hfk; omega)
     rw [show base + (off + len * i.info.size) = base + off + len * i.info.size by omega] at hw
     refine ⟨_, _, O, M, hrun, ?_, hw⟩
     obtain ⟨c', h1, h2⟩ := hw.ext.shp cb cc e fz hblk
     exact .sref b off (len + n) none cb base c e i c' fz hM h1 hie hlc (by omega) (fun k hk => by cases hk) (fun _ => by omega)
    | false =>
     rw [hb2] at h
     simp only [cond_false, Option.bind_eq_some_iff, Option.some.injEq, Prod.mk.injEq] at h
     obtain ⟨_, hch, rfl, rfl⟩ := h
     have hch := chk_some hch
     simp only [Bool.and_eq_true, beq_iff] at hch
     obtain ⟨hend, hroom⟩ := hch
     by_cases hlc : len + n ≤ c
     ·have hrun := inplace hlc (.inr trivial)
      have hmul : (len + n) * i.info.size ≤ c * i.info.size := Nat.mul_le_mul_right _ hlc
      rw [Nat.add_mul] at hmul
      have hsize : (cc.toList.take (base + off + len * i.info.size) ++ us ++ cc.toList.drop (base + off + len * i.info.size + us.length)).toArray.size = cc.size := by simp; omega
      have hx := Ext.setRow (M := M) hO hblk hsize
      have hrow := setRow_same w cb cc (cc.toList.take (base + off + len * i.info.size) ++ us ++ cc.toList.drop (base + off + len * i.info.size + us.length)).toArray e fz hblk
      have hx2 : Ext w O M (w.setRow cb (cc.toList.take (base + off + len * i.info.size) ++ us ++ cc.toList.drop (base + off + len * i.info.size + us.length)).toArray) O (upd M st.nxt (cb, base + off)) :=
       ⟨hx.os, hx.tape, hx.output, hx.size, hx.keep, hx.shp, hx.own, fun x y h => by
        unfold upd
        by_cases e : x = st.nxt
        ·subst e; rw [hn] at h; cases h
        ·rw [if_neg e]; exact h⟩
      have hseg := seg_eq cc.toList us (base + off) (len * i.info.size) (by simp; omega)
      have e0 : (((cc.toList.drop base).take acs.length).drop off).take (len * i.info.size) = (cc.toList.drop (base + off)).take (len * i.info.size) := by
       rw [List.drop_take, List.drop_drop, List.take_take, Nat.min_eq_left (by omega)]
      rw [e0] at hco
      have hlenA : (List.take (len * i.info.size) (List.drop off acs) ++ new).length = len * i.info.size + us.length := by simp [hcn.len]; omega
      refine ⟨_, _, O, upd M st.nxt (cb, base + off), hrun, ?_, Step.moveIn hs hn (hcells_some hcs) hM hx (fun k hk => setRow_at w cb k _ hk) (.ofCRf hrow (by rw [hsize]; exact hfz) ?_ ?_)⟩
      ·have := VR.sref (C := C) (w := w.setRow cb (cc.toList.take (base + off + len * i.info.size) ++ us ++ cc.toList.drop (base + off + len * i.info.size + us.length)).toArray) (O := O) (B := B) (M := upd M st.nxt (cb, base + off)) st.nxt 0 (len + n) none cb (base + off) c e i _ fz
        (by simp [upd]) hrow hie hlc (by omega) (fun k hk => by cases hk) (fun _ => by omega)
       simpa using this
      ·rw [hsize, hlenA]; omega
      ·rw [hlenA]
       dsimp only
       rw [hseg]
       exact (hco.append hcn).mono hx2
     ·have hgt : c < len + n := by omega
      obtain ⟨cap', rest, hrun, hge, hfull'⟩ := append_grow_run (ty := ty) hT hte hie hz hk hcn.one hol hul hlen hf1 hf2 hold hgt hroom
      have hnew := heap_alloc_new w.drew (.cells ((((((cc.toList.drop base).take acs.length).drop off).take (len * i.info.size)) ++ us) ++ rest).toArray e)
      have hsz : w.drew.heap.size = w.heap.size := rfl
      have hx0 : Ext w.drew O M (w.drew.alloc (.cells ((((((cc.toList.drop base).take acs.length).drop off).take (len * i.info.size)) ++ us) ++ rest).toArray e)) (fun x => O x ∨ x = w.drew.heap.size) (upd M st.nxt (w.drew.heap.size, 0)) := Ext.alloc _ hn 0
      have hx : Ext w.drew O M (w.drew.alloc (.cells ((((((cc.toList.drop base).take acs.length).drop off).take (len * i.info.size)) ++ us) ++ rest).toArray e)) (fun x => (O x ∧ x ≠ cb) ∨ x = w.drew.heap.size) (upd M st.nxt (w.drew.heap.size, 0)) :=
       ⟨hx0.os, hx0.tape, hx0.output, hx0.size, hx0.keep, hx0.shp, fun x hx => hx0.own x (hx.imp (·.1) id), hx0.sub⟩
      have hcr2 := (hco.append hcn).mono (Ext.toDrew.trans hx)
      have hl2 := hcr2.len
      have hstep := Step.moveOut (st := st) hs.drew hn (hcells_some hcs) hM (.cells ((((((cc.toList.drop base).take acs.length).drop off).take (len * i.info.size)) ++ us) ++ rest).toArray e) (blk' := .cells e (List.take (len * i.info.size) (List.drop off acs) ++ new))
       (.ofCR hnew (by rw [Nat.zero_add, ← hl2]; simp) (by
        rw [← hl2, take_front]
        exact hcr2))
      refine ⟨_, _, _, _, hrun, ?_, hstep.undrew⟩
      have := VR.sref (C := C) (w := w.drew.alloc (.cells ((((((cc.toList.drop base).take acs.length).drop off).take (len * i.info.size)) ++ us) ++ rest).toArray e)) (O := fun x => (O x ∧ x ≠ cb) ∨ x = w.drew.heap.size) (B := B) (M := upd M st.nxt (w.drew.heap.size, 0)) st.nxt 0 (len + n) none w.drew.heap.size 0 cap' e i _ (0, 0)
       (by simp [upd]) hnew hie hge (by rw [List.size_toArray, hfull']; omega) (fun k hk => by cases hk) (fun _ => by rw [List.size_toArray, hfull']; omega)
      simpa using this
 ·cases h
end
end Go.Ev
namespace Go.Ev
open Go
section
variable {P : Program} {C : Ctx} {w : World} {O B : Nat → Prop} {M : MapB} {H : Heap}
theorem asNat_sound {hi n : Nat} {x : AV} {cx : Value} (hx : VR C w O B M x cx) (h : asNat hi x = some n) : ∃ k, cx = .int k (n : Int) ∧ n ≤ hi := by
 unfold asNat at h
 split at h
 ·rename_i k m
  simp only [Option.bind_eq_some_iff, Option.some.injEq] at h
  obtain ⟨_, hc, rfl⟩ := h
  cases hx
  exact ⟨k, rfl, by simpa using chk_some hc⟩
 ·cases h
inductive OVR (C : Ctx) (w : World) (O B : Nat → Prop) (M : MapB) : Option AV → Option Value → Prop
 | none : OVR C w O B M none none
 | some (v : AV) (cv : Value) (h : VR C w O B M v cv) : OVR C w O B M (some v) (some cv)
theorem optV_sound (hs : Sit C w O B M H) {ts : List AV} {a : Act} (ht : TR C w O B M ts a) {o : Option Operand} {v : Option AV} (h : optV (opVal C ts) o = some v) : OVR C w O B M v (o.map a.eval) := by
 cases o with
 | none => simp [optV] at h; subst h; exact .none
 | some o =>
  simp only [optV, Option.map_eq_some_iff] at h
  obtain ⟨x, hx, rfl⟩ := h
  exact .some _ _ (opVal_sound hs ht hx)
theorem bound_sound {d hi n : Nat} {o : Option AV} {co : Option Value} (ho : OVR C w O B M o co) (h : bound d hi o = some n) :
  (co = none ∧ n = d) ∨ (∃ k, co = some (.int k (n : Int)) ∧ n ≤ hi) := by
 cases ho with
 | none => simp [bound] at h; exact .inl ⟨rfl, h.symm⟩
 | some v cv hv =>
  obtain ⟨k, rfl, hle⟩ := asNat_sound hv h
  exact .inr ⟨k, rfl, hle⟩
theorem run_bound_at {k : IntKind} {n y : Nat} (code : BoundsCode) (h : n ≤ y) : (Instr.sliceBound (.int k (n : Int)) y code).run P w = .ok n w := by
 have h2 : ((n : Int) ≤ (y : Int)) := by exact_mod_cast h
 simp [Instr.sliceBound, asIntOf, h2]
theorem run_bounds {isS : Bool} {len cap m h l : Nat} {lo hi mx : Option Value} (hm : (mx = none ∧ m = cap) ∨ (∃ k, mx = some (.int k (m : Int)) ∧ m ≤ cap))
  (hh : (hi = none ∧ mx = none ∧ h = len) ∨ (∃ k, hi = some (.int k (h : Int)) ∧ h ≤ m)) (hl : (lo = none ∧ l = 0) ∨ (∃ k, lo = some (.int k (l : Int)) ∧ l ≤ h)) :
  (Instr.sliceBounds isS len cap lo hi mx).run P w = .ok (l, h, m) w := by
 unfold Instr.sliceBounds
 rcases hm with ⟨rfl, rfl⟩ | ⟨k1, rfl, hm⟩ <;> rcases hh with ⟨rfl, h0, rfl⟩ | ⟨k2, rfl, hh⟩ <;> rcases hl with ⟨rfl, rfl⟩ | ⟨k3, rfl, hl⟩ <;> first | cases h0 | skip
 all_goals simp [run_bound_at, *]
theorem datL_drop {t : Bool} : ∀ {l : List AV} (n : Nat), datL t l = true → datL t (l.drop n) = true
 | l, 0, h => by simpa using h
 | [], _ + 1, _ => rfl
 | v :: r, n + 1, h => by simp only [datL, Bool.and_eq_true] at h; simpa using datL_drop n h.2
theorem datL_take {t : Bool} : ∀ {l : List AV} (n : Nat), datL t l = true → datL t (l.take n) = true
 | _, 0, _ => by simp [datL]
 | [], _ + 1, _ => rfl
 | v :: r, n + 1, h => by simp only [datL, Bool.and_eq_true] at h ⊢; simpa [datL] using ⟨h.1, datL_take n h.2⟩
theorem run_sliceAt {t e : TypeId} {i : TypeInfo} (ht : P.underlying t = some (.slice e)) (hi : P.info? e = some i) {a : Option Addr} {len cap l h m : Nat} {lo hi' mx : Option Value}
  (hb : (Instr.sliceBounds true len cap lo hi' mx).run P w = .ok (l, h, m) w) :
  (Instr.sliceAt t (.slice a len cap) lo hi' mx).run P w = .ok (.slice (if m = l then a else a.map (·.add (l * i.size))) (h - l) (m - l)) w := by
 simp [Instr.sliceAt, Instr.slice, run_underlying ht, hb, run_sizeOf hi]
theorem VR.sdat_slice {t : Bool} {sz : Nat} {xs : List AV} {cap ncap : Option Nat} {a : Option Addr} {len c l h m : Nat} (hv : VR C w O B M (.sdat t sz xs cap) (.slice a len c)) (hh : h ≤ xs.length) (hl : l ≤ h) (hm : h ≤ m) (hn : ∀ k, ncap = some k → m - l = k) :
  VR C w O B M (.sdat t sz ((xs.drop l).take (h - l)) ncap) (.slice (if m = l then a else a.map (·.add (l * sz))) (h - l) (m - l)) := by
 cases hv with
 | sdat _ _ _ _ blk o _ vs hlt hO hB hc hlen hcap hsz hcell hic hv =>
  have hlen' : ((xs.drop l).take (h - l)).length = h - l := by simp; omega
  have hne : (xs.drop l).take (h - l) ≠ [] → xs ≠ [] ∧ m ≠ l := fun hx => by
   constructor
   ·intro e; subst e; simp at hx
   ·intro e
    have : h - l = 0 := by omega
    rw [this] at hx; simp at hx
  have hget : ∀ j (hj : j < ((xs.drop l).take (h - l)).length), ((xs.drop l).take (h - l))[j] = xs[l + j]'(by rw [hlen'] at hj; omega) := fun j hj => by simp [List.getElem_take, List.getElem_drop]
  by_cases hml : m = l
  ·have h0 : (xs.drop l).take (h - l) = [] := by
    have h00 : h - l = 0 := by omega
    rw [h00]; simp
   rw [if_pos hml]
   have := VR.sdat (C := C) (w := w) (O := O) (B := B) (M := M) t sz [] ncap blk o (m - l) (fun _ _ => undef) (fun h => absurd rfl h) (fun h => absurd rfl h) (fun h => absurd rfl h) rfl (by simp) hn (fun i hi => by simp at hi) (fun i j hi => by simp at hi) (fun i hi => by simp at hi) (fun i hi => by simp at hi)
   rw [h0, show h - l = 0 by omega]
   exact this
  ·rw [if_neg hml]
   simp only [Option.map_some, add_lit]
   have := VR.sdat (C := C) (w := w) (O := O) (B := B) (M := M) t sz ((xs.drop l).take (h - l)) ncap blk (o + l * sz) (m - l) (fun i j => vs (l + i) j) (fun hx => hlt (hne hx).1) (fun hx => hO (hne hx).1) (fun hx => hB (hne hx).1)
    (datL_take _ (datL_drop _ hc)) (by rw [hlen']; omega) hn (fun i hi => by rw [hget i hi]; exact hsz _ _)
    (fun i j hi hj => by
     rw [hlen'] at hi
     have := hcell (l + i) j (by omega) hj
     rw [← this]; congr 2; rw [Nat.add_mul]; omega)
    (fun i hi j hj => by
     have e := hget i hi
     have := hic (l + i) (by rw [hlen'] at hi; omega) j (by rw [← e]; exact hj)
     simpa [e] using this)
    (fun i hi j hj => by
     have e := hget i hi
     have := hv (l + i) (by rw [hlen'] at hi; omega) j (by rw [← e]; exact hj)
     simpa [e] using this)
   rw [hlen'] at this
   exact this
theorem VR.sdat_empty (t : Bool) (sz : Nat) {cap : Option Nat} {blk o c : Nat} (hcap : ∀ k, cap = some k → c = k) : VR C w O B M (.sdat t sz [] cap) (.slice (some ⟨blk, o, none⟩) 0 c) :=
 .sdat t sz [] cap blk o c (fun _ _ => undef) (fun h => absurd rfl h) (fun h => absurd rfl h) (fun h => absurd rfl h) rfl (by simp) hcap (fun i hi => by simp at hi) (fun i j hi => by simp at hi) (fun i hi => by simp at hi) (fun i hi => by simp at hi)
theorem mSlice_sound (hT : TyOk P C) (hs : Sit C w O B M H) {t : TypeId} {x v : AV} {cx : Value} {lo hi mx : Option AV} {clo chi cmx : Option Value} (hx : VR C w O B M x cx) (hlo : OVR C w O B M lo clo) (hhi : OVR C w O B M hi chi) (hmx : OVR C w O B M mx cmx)
    (h : mSlice C t x lo hi mx H = some v) : ∃ cv, (Instr.sliceAt t cx clo chi cmx).run P w = .ok cv w ∧ VR C w O B M v cv := by
  unfold mSlice at h
  split at h
  · -- a string
    rename_i s
    simp only [Option.bind_eq_some_iff, Option.some.injEq] at h
    obtain ⟨d, hd, _, hch, h, hh, l, hl, rfl⟩ := h
    have hch := chk_some hch
    simp only [Bool.and_eq_true] at hch
    have hmn : cmx = none := by
      cases hmx with
      | none => rfl
      | some _ _ _ => simp at hch
    subst hmn
    have hd2 : d = .string := by
      have := hch.2
      cases d <;> first | rfl | cases this
    subst hd2
    cases hx with
    | str _ bs hb =>
      subst hb
      have hlen : bs.data.toList.length = bs.size := by simp
      have hb := run_bounds (P := P) (w := w) (isS := false) (len := bs.size) (cap := bs.size) (m := bs.size) (h := h) (l := l) (lo := clo) (hi := chi) (mx := none) (.inl ⟨rfl, rfl⟩)
        (by rcases bound_sound hhi hh with ⟨h1, h2⟩ | ⟨k, h1, h2⟩
            · exact .inl ⟨h1, rfl, by omega⟩
            · exact .inr ⟨k, h1, by omega⟩)
        (bound_sound hlo hl)
      refine ⟨.string (bs.extract l h), by simp [Instr.sliceAt, Instr.slice, run_underlying (hT.under hd), hb], .str _ _ ?_⟩
      rw [ByteArray.data_extract]
      simp [List.extract_eq_take_drop]
  · -- nil
    simp only [Option.bind_eq_some_iff, Option.some.injEq] at h
    obtain ⟨e, he, sz, hsz, m, hm, _, hch, h, hh, l, hl, rfl⟩ := h
    have hch := chk_some hch
    cases hx
    obtain ⟨i, hi', hd⟩ := elem_some he
    have hue := hT.elem he
    have hm2 := bound_sound hmx hm
    have hh2 := bound_sound hhi hh
    have hl2 := bound_sound hlo hl
    have hm0 : m = 0 := by rcases hm2 with ⟨_, h⟩ | ⟨_, _, h⟩ <;> omega
    have hh0 : h = 0 := by rcases hh2 with ⟨_, h⟩ | ⟨_, _, h⟩ <;> omega
    have hl0 : l = 0 := by rcases hl2 with ⟨_, h⟩ | ⟨_, _, h⟩ <;> omega
    subst hm0; subst hh0; subst hl0
    have hb := run_bounds (P := P) (w := w) (isS := true) (len := 0) (cap := 0) (m := 0) (h := 0) (l := 0) (lo := clo) (hi := chi) (mx := cmx) hm2
      (by rcases hh2 with ⟨h1, _⟩ | ⟨k, h1, h2⟩
          · subst h1
            cases hhi
            simp at hch
            cases hmx with
            | none => exact .inl ⟨rfl, rfl, rfl⟩
            | some _ _ _ => simp at hch
          · exact .inr ⟨k, h1, h2⟩) hl2
    obtain ⟨i2, hi2, _⟩ := size_some hsz
    exact ⟨_, run_sliceAt hue (hT.ty e i2 hi2).2 hb, by simpa using VR.snil⟩
  · -- frozen
    rename_i tg z xs cap
    simp only [Option.bind_eq_some_iff] at h
    obtain ⟨e, he, sz, hsz, _, hz, h⟩ := h
    obtain rfl := (beq_iff _ _).1 (chk_some hz)
    obtain ⟨i2, hi2, hi3⟩ := size_some hsz
    have hue := hT.elem he
    have hie := (hT.ty e i2 hi2).2
    obtain ⟨blk, o, c, vs, rfl, hle, hcap, _⟩ := hx.sdat_cells
    cases hmx with
    | none =>
      simp only [Option.bind_eq_some_iff, Option.some.injEq] at h
      obtain ⟨h, hh, l, hl, rfl⟩ := h
      have hh2 := bound_sound hhi hh
      have hl2 := bound_sound hlo hl
      have hhle : h ≤ xs.length := by rcases hh2 with ⟨_, h2⟩ | ⟨_, _, h2⟩ <;> omega
      have hlle : l ≤ h := by rcases hl2 with ⟨_, h2⟩ | ⟨_, _, h2⟩ <;> omega
      have hb := run_bounds (P := P) (w := w) (isS := true) (len := xs.length) (cap := c) (m := c) (h := h) (l := l) (lo := clo) (hi := chi) (mx := none) (.inl ⟨rfl, rfl⟩)
        (by rcases hh2 with ⟨h1, h2⟩ | ⟨k, h1, h2⟩
            · exact .inl ⟨h1, rfl, h2⟩
            · exact .inr ⟨k, h1, by omega⟩) hl2
      refine ⟨_, run_sliceAt hue hie hb, ?_⟩
      rw [hi3]
      refine hx.sdat_slice hhle hlle (by omega) (fun k hk => ?_)
      simp only [Option.map_eq_some_iff] at hk
      obtain ⟨k', hk', rfl⟩ := hk
      rw [hcap k' hk']
    | some mv cmv hmv =>
      simp only [Option.bind_eq_some_iff, Option.some.injEq] at h
      obtain ⟨m, hm, hiv, hhs, h, hh, l, hl, rfl⟩ := h
      subst hhs
      obtain ⟨k1, rfl, hm2⟩ := asNat_sound hmv hm
      cases hhi with
      | some _ chv hhv =>
        obtain ⟨k2, rfl, hh2⟩ := asNat_sound hhv hh
        have hl2 := bound_sound hlo hl
        have hlle : l ≤ h := by rcases hl2 with ⟨_, h2⟩ | ⟨_, _, h2⟩ <;> omega
        have hb := run_bounds (P := P) (w := w) (isS := true) (len := xs.length) (cap := c) (m := m) (h := h) (l := l) (lo := clo) (hi := some (.int k2 (h : Int))) (mx := some (.int k1 (m : Int))) (.inr ⟨k1, rfl, by omega⟩) (.inr ⟨k2, rfl, hh2⟩) hl2
        refine ⟨_, run_sliceAt hue hie hb, ?_⟩
        rw [hi3]
        exact hx.sdat_slice (by omega) hlle hh2 (fun k hk => by cases hk; rfl)
  · -- the call's own
    rename_i b off len cap
    simp only [Option.bind_eq_some_iff] at h
    obtain ⟨e, he, sz, hsz, ⟨e', cs⟩, hcs, _, hch, h⟩ := h
    have hch := chk_some hch
    simp only [Bool.and_eq_true, beq_iff, Nat.blt_eq] at hch
    obtain ⟨rfl, hpos⟩ := hch
    obtain ⟨i2, hi2, hi3⟩ := size_some hsz
    have hue := hT.elem he
    have hie := (hT.ty e i2 hi2).2
    obtain ⟨cb, base, c, e1, i1, cc, fz, rfl, hM, hblk, hi1, hle, hfit, hcap, hfull⟩ := hx.sref_inv
    obtain ⟨cc', fz', hblk', _, hfit', hO, hcr, hat⟩ := hs.cells hcs hM
    rw [hblk] at hblk'
    cases hblk'
    rw [hi2] at hi1
    obtain rfl := Option.some.inj hi1
    rw [hi3] at hfit hfull
    have hknown : cap = none → ∀ h, h ≤ (cs.length - off) / sz → h ≤ c := fun hc h hh => by
      have h1 := hfull hc
      have h2 : h * sz ≤ cs.length - off := Nat.le_trans (Nat.mul_le_mul_right _ hh) (Nat.div_mul_le_self _ _)
      by_cases h0 : h = 0
      · omega
      · have h3 : sz ≤ h * sz := Nat.le_mul_of_pos_left _ (by omega)
        exact Nat.le_of_mul_le_mul_right (c := sz) (by omega) hpos
    have mk : ∀ (l h m : Nat) (ncap : Option Nat), l ≤ h → h ≤ m → m ≤ c → (m = l → l = 0) → (∀ k, ncap = some k → m - l = k) → (ncap = none → cap = none ∧ m = c) →
        VR C w O B M (.sref b (off + l * sz) (h - l) ncap) (.slice (if m = l then (some ⟨cb, base + off, none⟩ : Option Addr) else (some ⟨cb, base + off, none⟩ : Option Addr).map (·.add (l * sz))) (h - l) (m - l)) :=
      fun l h m ncap h1 h2 h3 h4 h5 h6 => by
        have e1 : (if m = l then (some ⟨cb, base + off, none⟩ : Option Addr) else (some ⟨cb, base + off, none⟩ : Option Addr).map (·.add (l * sz))) = some ⟨cb, base + (off + l * sz), none⟩ := by
          split
          · rename_i e; rw [h4 e]; simp
          · simp [add_lit, Nat.add_assoc]
        rw [e1]
        have hm1 : (m - l) * sz ≤ m * sz - l * sz := by rw [Nat.sub_mul]; exact Nat.le_refl _
        have hm2 : m * sz ≤ c * sz := Nat.mul_le_mul_right _ h3
        have hm3 : l * sz ≤ m * sz := Nat.mul_le_mul_right _ (by omega)
        refine .sref b (off + l * sz) (h - l) ncap cb base (m - l) e i2 cc _ hM hblk hi2 (by omega) (by rw [hi3]; omega) h5 (fun hn => ?_)
        obtain ⟨hc, rfl⟩ := h6 hn
        have := hfull hc
        rw [hi3, Nat.sub_mul]
        omega
    have empty : ∀ (l m : Nat) (ncap : Option Nat), (∀ k, ncap = some k → m - l = k) → ∃ blk o, VR C w O B M (.sdat false sz [] ncap) (.slice (some ⟨blk, o, none⟩) 0 (m - l)) ∧
        (if m = l then (some ⟨cb, base + off, none⟩ : Option Addr) else (some ⟨cb, base + off, none⟩ : Option Addr).map (·.add (l * sz))) = some ⟨blk, o, none⟩ := fun l m ncap h => by
      by_cases e : m = l
      · exact ⟨cb, base + off, VR.sdat_empty false sz h, by rw [if_pos e]⟩
      · exact ⟨cb, base + off + l * sz, VR.sdat_empty false sz h, by rw [if_neg e]; simp [add_lit]⟩
    cases hmx with
    | none =>
      cases hcc : cap with
      | none =>
        rw [hcc] at h
        simp only [Option.bind_eq_some_iff] at h
        obtain ⟨h', hh, l, hl, h⟩ := h
        have hh2 := bound_sound hhi hh
        have hl2 := bound_sound hlo hl
        have hlle : l ≤ h' := by rcases hl2 with ⟨_, h2⟩ | ⟨_, _, h2⟩ <;> omega
        have hhc : h' ≤ c := by
          rcases hh2 with ⟨_, rfl⟩ | ⟨_, _, h2⟩
          · exact hle
          · exact hknown hcc _ h2
        have hb := run_bounds (P := P) (w := w) (isS := true) (len := len) (cap := c) (m := c) (h := h') (l := l) (lo := clo) (hi := chi) (mx := none) (.inl ⟨rfl, rfl⟩)
          (by rcases hh2 with ⟨h1, h2⟩ | ⟨k, h1, h2⟩
              · exact .inl ⟨h1, rfl, h2⟩
              · exact .inr ⟨k, h1, hhc⟩) hl2
        refine ⟨_, run_sliceAt hue hie hb, ?_⟩
        rw [hi3]
        cases hq : (Nat.blt l ((cs.length - off) / sz) || Nat.beq l 0) with
        | true =>
          rw [hq] at h
          simp only [cond_true, Option.some.injEq] at h
          subst h
          simp only [Bool.or_eq_true, Nat.blt_eq, beq_iff] at hq
          refine mk l h' c none hlle hhc (Nat.le_refl _) (fun e => ?_) (fun k hk => by cases hk) (fun _ => ⟨hcc, rfl⟩)
          rcases hq with hq | hq
          · have := hknown hcc (l + 1) hq
            omega
          · exact hq
        | false =>
          rw [hq] at h
          simp only [cond_false, Option.bind_eq_some_iff, Option.some.injEq] at h
          obtain ⟨_, hhl, rfl⟩ := h
          obtain rfl := (beq_iff _ _).1 (chk_some hhl)
          obtain ⟨blk, o, h1, h2⟩ := empty h' c none (fun k hk => by cases hk)
          rw [h2, show h' - h' = 0 by omega]
          exact h1
      | some c0 =>
        rw [hcc] at h
        obtain rfl := hcap c0 hcc
        simp only [Option.bind_eq_some_iff] at h
        obtain ⟨h', hh, l, hl, h⟩ := h
        have hh2 := bound_sound hhi hh
        have hl2 := bound_sound hlo hl
        have hlle : l ≤ h' := by rcases hl2 with ⟨_, h2⟩ | ⟨_, _, h2⟩ <;> omega
        have hhc : h' ≤ c := by rcases hh2 with ⟨_, rfl⟩ | ⟨_, _, h2⟩ <;> omega
        have hb := run_bounds (P := P) (w := w) (isS := true) (len := len) (cap := c) (m := c) (h := h') (l := l) (lo := clo) (hi := chi) (mx := none) (.inl ⟨rfl, rfl⟩)
          (by rcases hh2 with ⟨h1, h2⟩ | ⟨k, h1, h2⟩
              · exact .inl ⟨h1, rfl, h2⟩
              · exact .inr ⟨k, h1, hhc⟩) hl2
        refine ⟨_, run_sliceAt hue hie hb, ?_⟩
        rw [hi3]
        cases hq : Nat.beq l c with
        | true =>
          rw [hq] at h
          simp only [cond_true, Option.bind_eq_some_iff, Option.some.injEq] at h
          obtain ⟨_, hhl, rfl⟩ := h
          obtain rfl := (beq_iff _ _).1 (chk_some hhl)
          obtain rfl := (beq_iff _ _).1 hq
          obtain ⟨blk, o, h1, h2⟩ := empty h' h' (some 0) (fun k hk => by cases hk; omega)
          rw [h2]
          simpa using h1
        | false =>
          rw [hq] at h
          simp only [cond_false, Option.some.injEq] at h
          subst h
          exact mk l h' c (some (c - l)) hlle hhc (Nat.le_refl _) (fun e => by rw [e, (beq_iff l l).2 rfl] at hq; cases hq) (fun k hk => by cases hk; rfl) (fun hk => by cases hk)
    | some mv cmv hmv =>
      have h' : ∃ m, asNat (match cap with | some c => c | none => (cs.length - off) / sz) mv = some m ∧ ∃ hv, hi = some hv ∧ ∃ h', asNat m hv = some h' ∧ ∃ l, bound 0 h' lo = some l ∧ (bif Nat.beq l m then some (AV.sdat false sz [] (some 0)) else some (.sref b (off + l * sz) (h' - l) (some (m - l)))) = some v := by
        cases cap <;> simp only [Option.bind_eq_some_iff] at h <;> exact h
      obtain ⟨m, hm, hv, rfl, h', hh, l, hl, h⟩ := h'
      obtain ⟨k1, rfl, hm2⟩ := asNat_sound hmv hm
      have hmc : m ≤ c := by
        cases hcc : cap with
        | none => rw [hcc] at hm2; exact hknown hcc _ hm2
        | some c0 => rw [hcc] at hm2; rw [hcap c0 hcc]; exact hm2
      cases hhi with
      | some _ chv hhv =>
        obtain ⟨k2, rfl, hh2⟩ := asNat_sound hhv hh
        have hl2 := bound_sound hlo hl
        have hlle : l ≤ h' := by rcases hl2 with ⟨_, h2⟩ | ⟨_, _, h2⟩ <;> omega
        have hb := run_bounds (P := P) (w := w) (isS := true) (len := len) (cap := c) (m := m) (h := h') (l := l) (lo := clo) (hi := some (.int k2 (h' : Int))) (mx := some (.int k1 (m : Int))) (.inr ⟨k1, rfl, hmc⟩) (.inr ⟨k2, rfl, hh2⟩) hl2
        refine ⟨_, run_sliceAt hue hie hb, ?_⟩
        rw [hi3]
        cases hq : Nat.beq l m with
        | true =>
          rw [hq] at h
          simp only [cond_true, Option.some.injEq] at h
          subst h
          obtain rfl := (beq_iff _ _).1 hq
          obtain rfl : h' = l := by omega
          obtain ⟨blk, o, h1, h2⟩ := empty h' h' (some 0) (fun k hk => by cases hk; omega)
          rw [h2]
          simpa using h1
        | false =>
          rw [hq] at h
          simp only [cond_false, Option.some.injEq] at h
          subst h
          exact mk l h' m (some (m - l)) hlle hh2 hmc (fun e => by rw [e, (beq_iff l l).2 rfl] at hq; cases hq) (fun k hk => by cases hk; rfl) (fun hk => by cases hk)
  · cases h
end
end Go.Ev
namespace Go.Ev
open Go
section
variable {P : Program} {C : Ctx} {w : World} {O B : Nat → Prop} {M : MapB} {H : Heap}
theorem dat_cells {t : Bool} {v : AV} (h : dat t v = true) : datL t v.cells = true := by
 cases v <;> simp_all [AV.cells, datL, dat]
theorem mIndexAddr_sound (hT : TyOk P C) {t : TypeId} {x ix v : AV} {cx ci : Value} (hx : VR C w O B M x cx) (hix : VR C w O B M ix ci) (h : mIndexAddr C t x ix = some v) :
  ∃ cv, (Instr.indexAt t cx ci).run P w = .ok cv w ∧ VR C w O B M v cv := by
 unfold mIndexAddr at h
 simp only [Option.bind_eq_some_iff] at h
 obtain ⟨d, hd, h⟩ := h
 have hu := hT.under hd
 split at h
 ·rename_i e
  simp only [Option.bind_eq_some_iff] at h
  obtain ⟨sz, hsz, h⟩ := h
  obtain ⟨i2, hi2, hi3⟩ := size_some hsz
  have hie := (hT.ty e i2 hi2).2
  split at h
  ·rename_i b off len cap
   simp only [Option.bind_eq_some_iff, Option.some.injEq] at h
   obtain ⟨i, hi, _, hch, rfl⟩ := h
   have hch := chk_some hch
   simp only [Bool.and_eq_true, Nat.blt_eq] at hch
   obtain ⟨k, rfl, _⟩ := asNat_sound hix hi
   obtain ⟨cb, base, c, e1, i1, cc, fz, rfl, hM, _⟩ := hx.sref_inv
   have h2 : ((i : Int) < (len : Int)) := by exact_mod_cast hch.1
   refine ⟨.pointer (some ⟨cb, base + (off + i * sz), none⟩), ?_, .pref _ _ _ _ hM⟩
   simp [Instr.indexAt, asIntOf, run_underlying hu, hch.1, run_sizeOf hie, hi3, add_lit, Nat.add_assoc]
  ·rename_i tg z xs cap
   simp only [Option.bind_eq_some_iff, Option.some.injEq] at h
   obtain ⟨_, hch, i, hi, v', hg, rfl⟩ := h
   have hch := chk_some hch
   simp only [Bool.and_eq_true, Nat.blt_eq, beq_iff] at hch
   obtain ⟨rfl, hpos⟩ := hch
   obtain ⟨k, rfl, _⟩ := asNat_sound hix hi
   obtain ⟨h1, h2⟩ := getL_some hg
   subst h2
   cases hx with
   | sdat _ _ _ _ blk o c vs hlt hO hB hc hlen hcap hsz' hcell hic hv =>
    have hne : xs ≠ [] := fun e => by subst e; simp at h1
    have h3 : ((i : Int) < (xs.length : Int)) := by exact_mod_cast h1
    refine ⟨.pointer (some ⟨blk, o + i * z, none⟩), ?_, .pdat tg _ blk (o + i * z) (fun j => vs i j) (hlt hne) (hO hne) (hB hne) (dat_cells (datL_get h1 hc)) (fun j hj => ?_) (fun j hj => hic i h1 j hj) (fun j hj => hv i h1 j hj)⟩
    ·simp [Instr.indexAt, asIntOf, run_underlying hu, h1, run_sizeOf hie, hi3, add_lit]
    ·exact hcell i j h1 (by rw [← hsz' i h1]; exact hj)
  ·cases h
 ·rename_i n e
  simp only [Option.bind_eq_some_iff] at h
  obtain ⟨sz, hsz, i, hi, _, hch, h⟩ := h
  obtain ⟨i2, hi2, hi3⟩ := size_some hsz
  have hie := (hT.ty e i2 hi2).2
  have hch := chk_some hch
  simp only [Bool.and_eq_true, Nat.blt_eq] at hch
  obtain ⟨k, rfl, _⟩ := asNat_sound hix hi
  have h3 : ((i : Int) < (n : Int)) := by exact_mod_cast hch.1
  split at h
  ·rename_i b off
   obtain rfl := Option.some.inj h
   cases hx with
   | pref _ _ cb base hM =>
    refine ⟨.pointer (some ⟨cb, base + (off + i * sz), none⟩), ?_, .pref _ _ _ _ hM⟩
    simp [Instr.indexAt, Instr.sureAddr, asIntOf, run_underlying hu, hch.1, run_sizeOf hie, hi3, add_lit, Nat.add_assoc]
  ·rename_i tg cs
   simp only [Option.bind_eq_some_iff, Option.some.injEq] at h
   obtain ⟨_, hle, rfl⟩ := h
   obtain ⟨blk, o, vs, rfl, hcr, hat, hlt, hO, hB, hcl⟩ := hx.pdat_cells
   refine ⟨.pointer (some ⟨blk, o + i * sz, none⟩), ?_, .mk_pdat (hcr.drop _) (hat.drop _) hlt hO hB (datL_drop _ hcl)⟩
   simp [Instr.indexAt, Instr.sureAddr, asIntOf, run_underlying hu, hch.1, run_sizeOf hie, hi3, add_lit]
  ·cases h
 ·cases h
theorem fields_some {t : TypeId} {fs : Array Field} (h : C.fields t = some fs) : C.desc t = some (.struct fs) := by
 unfold Ctx.fields at h
 split at h
 ·rename_i fs' hh; obtain rfl := Option.some.inj h; exact hh
 ·cases h
theorem fieldPlace_some {fs : Array Field} {f off sz : Nat} (h : fieldPlace C fs f = some (off, sz)) : ∃ fd i, fs[f]? = some fd ∧ C.ti fd.type = some i ∧ fd.offset = off ∧ i.info.size = sz := by
 unfold fieldPlace at h
 simp only [Option.bind_eq_some_iff, Option.some.injEq, Prod.mk.injEq] at h
 obtain ⟨fd, h1, s, h2, h3, h4⟩ := h
 obtain ⟨i, h5, h6⟩ := size_some h2
 exact ⟨fd, i, h1, h5, h3, h6.trans h4⟩
theorem mFieldAddr_sound (hT : TyOk P C) {s : TypeId} {x v : AV} {f : Nat} {cx : Value} (hx : VR C w O B M x cx) (h : mFieldAddr C s x f = some v) :
  ∃ cv, (Instr.fieldAt s cx f).run P w = .ok cv w ∧ VR C w O B M v cv := by
 unfold mFieldAddr at h
 simp only [Option.bind_eq_some_iff] at h
 obtain ⟨fs, hfs, ⟨off, sz⟩, hp, _, hch, h⟩ := h
 have hu := hT.under (fields_some hfs)
 obtain ⟨fd, i, hf, hi, ho, hs⟩ := fieldPlace_some hp
 have hie := (hT.ty _ i hi).2
 have hpos : 0 < sz := by simpa using chk_some hch
 have hne : ¬ (i.info.size = 0) := by omega
 split at h
 ·rename_i b o
  obtain rfl := Option.some.inj h
  cases hx with
  | pref _ _ cb base hM =>
   refine ⟨.pointer (some ⟨cb, base + (o + off), none⟩), ?_, .pref _ _ _ _ hM⟩
   simp [Instr.fieldAt, Go.fieldPlace, Instr.sureAddr, run_underlying hu, hf, run_sizeOf hie, hne, add_lit, ho, Nat.add_assoc]
 ·rename_i tg cs
  simp only [Option.bind_eq_some_iff, Option.some.injEq] at h
  obtain ⟨_, hle, rfl⟩ := h
  obtain ⟨blk, o, vs, rfl, hcr, hat, hlt, hO, hB, hcl⟩ := hx.pdat_cells
  refine ⟨.pointer (some ⟨blk, o + off, none⟩), ?_, .mk_pdat (hcr.drop _) (hat.drop _) hlt hO hB (datL_drop _ hcl)⟩
  simp [Instr.fieldAt, Go.fieldPlace, Instr.sureAddr, run_underlying hu, hf, run_sizeOf hie, hne, add_lit, ho]
 ·cases h
theorem part_sound (hT : TyOk P C) {t : TypeId} {i : TI} (hi : C.ti t = some i) {cs : List AV} {vs : List Value} (hc : CR C w O B M cs vs) {off : Nat} {v : AV} (h : readAt i (cs.drop off) = some v) :
  ∃ cv, (part t vs.toArray off).run P w = .ok cv w ∧ VR C w O B M v cv := by
 obtain ⟨h1, h2⟩ := hT.ty t i hi
 rcases readAt_sound (hc.drop off) h with ⟨ha, hle, hv, _⟩ | ⟨ha, hlt, hv, _⟩
 ·refine ⟨.agg ((vs.drop off).take i.info.size).toArray, ?_, hv⟩
  simp only [part, Sem.run_bind, run_isAgg h1, Result.andThen_ok, ha, if_true, run_sizeOf h2, Sem.run_pure]
  congr 2
  apply Array.ext'
  simp [List.extract_eq_take_drop]
 ·have h3 : vs.toArray[off]? = some (vs.drop off)[0] := by simp at hlt ⊢
  refine ⟨(vs.drop off)[0], ?_, hv⟩
  simp only [part, Sem.run_bind, run_isAgg h1, Result.andThen_ok, ha, h3]
  rfl
theorem VR.agg_cells {cs : List AV} {cv : Value} (h : VR C w O B M (.agg cs) cv) : ∃ vs : List Value, cv = .agg vs.toArray ∧ CR C w O B M cs vs := by
 cases h with
 | agg _ vs hl hic hv => exact ⟨vs, rfl, hl, hic, hv⟩
theorem mField_sound (hT : TyOk P C) {s : TypeId} {x v : AV} {f : Nat} {cx : Value} (hx : VR C w O B M x cx) (h : mField C s x f = some v) :
  ∃ cv, (Instr.field s cx f).run P w = .ok cv w ∧ VR C w O B M v cv := by
 unfold mField at h
 simp only [Option.bind_eq_some_iff] at h
 obtain ⟨fs, hfs, fd, hf, i, hi, h⟩ := h
 have hu := hT.under (fields_some hfs)
 split at h
 ·rename_i cs
  obtain ⟨vs, rfl, hc⟩ := hx.agg_cells
  obtain ⟨cv, hr, hv⟩ := part_sound hT hi hc h
  exact ⟨cv, by simp [Instr.field, run_underlying hu, hf, asAgg, hr], hv⟩
 ·cases h
theorem mIndex_sound (hT : TyOk P C) {t : TypeId} {x ix v : AV} {cx ci : Value} (hx : VR C w O B M x cx) (hix : VR C w O B M ix ci) (h : mIndex C t x ix = some v) :
  ∃ cv, (Instr.index t cx ci).run P w = .ok cv w ∧ VR C w O B M v cv := by
 unfold mIndex at h
 simp only [Option.bind_eq_some_iff] at h
 obtain ⟨d, hd, h⟩ := h
 have hu := hT.under hd
 split at h
 ·rename_i s
  simp only [Option.bind_eq_some_iff, Option.some.injEq] at h
  obtain ⟨i, hi, c, hc, rfl⟩ := h
  obtain ⟨k, rfl, _⟩ := asNat_sound hix hi
  obtain ⟨h1, rfl⟩ := getL_some hc
  cases hx with
  | str _ bs hb =>
   subst hb
   have h2 : bs[i]? = some (bs.data.toList[i]) := by
    simp at h1
    simp [h1]
    rfl
   exact ⟨_, by simp [Instr.index, asIntOf, run_underlying hu, h2], .int _ _⟩
 ·rename_i n e cs
  simp only [Option.bind_eq_some_iff] at h
  obtain ⟨ei, hei, i, hi, _, hch, h⟩ := h
  obtain ⟨k, rfl, _⟩ := asNat_sound hix hi
  have hlt : i < n := by simpa using chk_some hch
  have h3 : ((i : Int) < (n : Int)) := by exact_mod_cast hlt
  obtain ⟨vs, rfl, hc⟩ := hx.agg_cells
  obtain ⟨cv, hr, hv⟩ := part_sound hT hei hc h
  exact ⟨cv, by simp [Instr.index, asIntOf, run_underlying hu, hlt, run_sizeOf (hT.ty e ei hei).2, hr], hv⟩
 ·cases h
end
end Go.Ev
