/- A PART OF THE PROOF THAT ONE CALL OF A LAW OF LAYER 46 (which of any patches have a line with any word) returns true, whatever the input; the input reads as it did. No condition beyond the given statement. This part: EvOps5. -/
import Derived.Test.YtklmbhogclaieaaGreatDoorEvOps2
namespace Go.Ev
open Go

section
variable {P : Program} {C : Ctx} {w : World} {O B : Nat → Prop} {M : MapB} {H : Heap}

/-- A BLOCK GOES, ANOTHER ONE COMES IN ITS PLACE: where the new row was made. -/
theorem Step.moveOut {st : St} (hs : Sit C w O B M st.heap) (hn : M st.nxt = none) {b cb base : Nat} {blk : Blk} (hb : hget st.heap b = some blk) (hM : M b = some (cb, base)) (o : Obj) {blk' : Blk}
    (hr : BlkR C (w.alloc o) (fun x => (O x ∧ x ≠ cb) ∨ x = w.heap.size) B (upd M st.nxt (w.heap.size, 0)) w.heap.size 0 blk') :
    Step C B true w O M st (w.alloc o) (fun x => (O x ∧ x ≠ cb) ∨ x = w.heap.size) (upd M st.nxt (w.heap.size, 0)) ((st.kill b).new blk') := by
  have hcb := hs.lt hb hM
  have hx0 : Ext w O M (w.alloc o) (fun x => O x ∨ x = w.heap.size) (upd M st.nxt (w.heap.size, 0)) := Ext.alloc o hn 0
  have hx : Ext w O M (w.alloc o) (fun x => (O x ∧ x ≠ cb) ∨ x = w.heap.size) (upd M st.nxt (w.heap.size, 0)) :=
    ⟨hx0.os, hx0.tape, hx0.output, hx0.size, hx0.keep, hx0.shp, fun x hx => hx0.own x (hx.imp (·.1) id), hx0.sub⟩
  have hne : ∀ b blk, hget st.heap b = some blk → b ≠ st.nxt := fun b blk hb e => by
    obtain ⟨cb, base, hM, _⟩ := hs.own b blk hb
    rw [e, hn] at hM; cases hM
  have hold : ∀ x bx, hget ((st.kill b).new blk').heap x = some bx → x ≠ st.nxt → x ≠ b ∧ hget st.heap x = some bx := fun x bx hx hxn => by
    simp only [St.new, St.kill, hget_cons] at hx
    rw [if_neg (Ne.symm hxn), hget_hdel] at hx
    split at hx
    · cases hx
    · rename_i h; exact ⟨h, hx⟩
  refine ⟨hx, ⟨fun x bx hxb => ?_, fun x y bx by' c1 b1 b2 hxb hyb h1 h2 => ?_, fun g cs hg => (hs.glob g cs hg).mono hx, hx.sep hs.sep hs.bl, hx.bl hs.bl⟩, fun x hx => ?_, by simp [St.new, St.kill], Nat.min_le_left _ _, fun x hx hlow => ?_, fun c hO hlt hni => ?_, fun h x hx => ?_, fun h => by cases h⟩
  · by_cases hxn : x = st.nxt
    · subst hxn
      simp only [St.new, St.kill, hget_cons, if_true, Option.some.injEq] at hxb
      subst hxb
      exact ⟨w.heap.size, 0, by simp [upd], .inr rfl, hr⟩
    · obtain ⟨h1, h2⟩ := hold x bx hxb hxn
      obtain ⟨c1, b1, hM1, hO1, hr1⟩ := hs.own x bx h2
      exact ⟨c1, b1, hx.sub _ _ hM1, .inl ⟨hO1, fun e => h1 (hs.inj x b bx blk c1 b1 base h2 hb hM1 (e ▸ hM))⟩, hr1.mono hx (alloc_old w o c1 (hs.lt h2 hM1))⟩
  · by_cases hxn : x = st.nxt <;> by_cases hyn : y = st.nxt
    · exact hxn.trans hyn.symm
    · obtain ⟨_, h3⟩ := hold y by' hyb hyn
      have h4 : M y = some (c1, b2) := by simpa [upd, hyn] using h2
      have := hs.lt h3 h4
      subst hxn
      simp [upd] at h1
      omega
    · obtain ⟨_, h3⟩ := hold x bx hxb hxn
      have h4 : M x = some (c1, b1) := by simpa [upd, hxn] using h1
      have := hs.lt h3 h4
      subst hyn
      simp [upd] at h2
      omega
    · obtain ⟨_, h3⟩ := hold x bx hxb hxn
      obtain ⟨_, h4⟩ := hold y by' hyb hyn
      exact hs.inj x y bx by' c1 b1 b2 h3 h4 (by simpa [upd, hxn] using h1) (by simpa [upd, hyn] using h2)
  · unfold upd
    rw [if_neg (by simp [St.new, St.kill] at hx; omega)]
  · simp only [St.new, St.kill] at hlow
    simp only [St.new, St.kill, hget_cons]
    rw [if_neg (by omega), hget_hdel, if_neg (by omega)]
  · refine ⟨alloc_old w o c hlt, .inl ⟨hO, fun e => hni ⟨b, blk, base, hb, by rw [hM, e]⟩⟩, fun ⟨b1, bx, base1, h1, h2⟩ => ?_⟩
    by_cases hxn : b1 = st.nxt
    · subst hxn
      simp [upd] at h2
      omega
    · obtain ⟨_, h3⟩ := hold b1 bx h1 hxn
      exact hni ⟨b1, bx, base1, h3, by simpa [upd, hxn] using h2⟩
  · rw [size_alloc']
    rcases hx with hx | rfl
    · have := h x hx.1; omega
    · omega

/-- .., and where it was written in place. -/
theorem Step.moveIn {st : St} (hs : Sit C w O B M st.heap) (hn : M st.nxt = none) {b cb base base' : Nat} {blk : Blk} (hb : hget st.heap b = some blk) (hM : M b = some (cb, base)) {w' : World} (hx0 : Ext w O M w' O M)
    (ho : ∀ k, k ≠ cb → w'.heap[k]? = w.heap[k]?) {blk' : Blk} (hr : BlkR C w' O B (upd M st.nxt (cb, base')) cb base' blk') :
    Step C B true w O M st w' O (upd M st.nxt (cb, base')) ((st.kill b).new blk') := by
  have hx : Ext w O M w' O (upd M st.nxt (cb, base')) := ⟨hx0.os, hx0.tape, hx0.output, hx0.size, hx0.keep, hx0.shp, hx0.own, fun x y h => by
    unfold upd
    by_cases e : x = st.nxt
    · subst e; rw [hn] at h; cases h
    · rw [if_neg e]; exact h⟩
  have hOcb : O cb := by
    obtain ⟨c1, b1, h1, h2, _⟩ := hs.own b blk hb
    rw [hM] at h1; cases h1; exact h2
  have hne : ∀ b blk, hget st.heap b = some blk → b ≠ st.nxt := fun b blk hb e => by
    obtain ⟨cb, base, hM, _⟩ := hs.own b blk hb
    rw [e, hn] at hM; cases hM
  have hold : ∀ x bx, hget ((st.kill b).new blk').heap x = some bx → x ≠ st.nxt → x ≠ b ∧ hget st.heap x = some bx := fun x bx hx hxn => by
    simp only [St.new, St.kill, hget_cons] at hx
    rw [if_neg (Ne.symm hxn), hget_hdel] at hx
    split at hx
    · cases hx
    · rename_i h; exact ⟨h, hx⟩
  have apart : ∀ x bx c1 b1, x ≠ b → hget st.heap x = some bx → M x = some (c1, b1) → c1 ≠ cb := fun x bx c1 b1 hxb h hM1 e => hxb (hs.inj x b bx blk c1 b1 base h hb hM1 (e ▸ hM))
  refine ⟨hx, ⟨fun x bx hxb => ?_, fun x y bx by' c1 b1 b2 hxb hyb h1 h2 => ?_, fun g cs hg => (hs.glob g cs hg).mono hx, hx.sep hs.sep hs.bl, hx.bl hs.bl⟩, fun x hx => ?_, by simp [St.new, St.kill], Nat.min_le_left _ _, fun x hx hlow => ?_, fun c hO hlt hni => ?_, fun h x hx => ?_, fun h => by cases h⟩
  · by_cases hxn : x = st.nxt
    · subst hxn
      simp only [St.new, St.kill, hget_cons, if_true, Option.some.injEq] at hxb
      subst hxb
      exact ⟨cb, base', by simp [upd], hOcb, hr⟩
    · obtain ⟨h1, h2⟩ := hold x bx hxb hxn
      obtain ⟨c1, b1, hM1, hO1, hr1⟩ := hs.own x bx h2
      exact ⟨c1, b1, hx.sub _ _ hM1, hO1, hr1.mono hx (ho c1 (apart x bx c1 b1 h1 h2 hM1))⟩
  · by_cases hxn : x = st.nxt <;> by_cases hyn : y = st.nxt
    · exact hxn.trans hyn.symm
    · obtain ⟨h0, h3⟩ := hold y by' hyb hyn
      have h4 : M y = some (c1, b2) := by simpa [upd, hyn] using h2
      subst hxn
      simp [upd] at h1
      exact absurd h1.1.symm (apart y by' c1 b2 h0 h3 h4)
    · obtain ⟨h0, h3⟩ := hold x bx hxb hxn
      have h4 : M x = some (c1, b1) := by simpa [upd, hxn] using h1
      subst hyn
      simp [upd] at h2
      exact absurd h2.1.symm (apart x bx c1 b1 h0 h3 h4)
    · obtain ⟨_, h3⟩ := hold x bx hxb hxn
      obtain ⟨_, h4⟩ := hold y by' hyb hyn
      exact hs.inj x y bx by' c1 b1 b2 h3 h4 (by simpa [upd, hxn] using h1) (by simpa [upd, hyn] using h2)
  · unfold upd
    rw [if_neg (by simp [St.new, St.kill] at hx; omega)]
  · simp only [St.new, St.kill] at hlow
    simp only [St.new, St.kill, hget_cons]
    rw [if_neg (by omega), hget_hdel, if_neg (by omega)]
  · have hc : c ≠ cb := fun e => hni ⟨b, blk, base, hb, by rw [hM, e]⟩
    refine ⟨ho c hc, hO, fun ⟨b1, bx, base1, h1, h2⟩ => ?_⟩
    by_cases hxn : b1 = st.nxt
    · subst hxn
      simp [upd] at h2
      exact hc h2.1.symm
    · obtain ⟨_, h3⟩ := hold b1 bx h1 hxn
      exact hni ⟨b1, bx, base1, h3, by simpa [upd, hxn] using h2⟩
  · exact Nat.lt_of_lt_of_le (h x hx) hx0.size

theorem tup_row {z : AV} (h : z = .tup []) : z.row = none := by subst h; rfl

theorem append_kind {d2 : TypeDesc} {t2 : TypeId} (h : (match d2 with | .slice _ => true | .string => true | _ => false) = true) (hd : P.underlying t2 = some d2) : (∃ e', P.underlying t2 = some (.slice e')) ∨ P.underlying t2 = some .string := by
  cases d2 <;> first | exact .inl ⟨_, hd⟩ | exact .inr hd | cases h

theorem seg_eq (l us : List Value) (p q : Nat) (h : p + q ≤ l.length) : ((l.take (p + q) ++ us ++ l.drop (p + q + us.length)).drop p).take (q + us.length) = (l.drop p).take q ++ us := by
  apply List.ext_getElem?
  intro j
  simp only [List.getElem?_take, List.getElem?_drop, List.append_assoc, List.getElem?_append, List.length_take, List.length_drop]
  by_cases h1 : j < q
  · simp only [show j < q + us.length by omega, if_true, show p + j < min (p + q) l.length by omega, show j < min q (l.length - p) by omega, show p + j < p + q by omega, h1]
  · by_cases h2 : j < q + us.length
    · simp only [h2, if_true, show ¬ (p + j < min (p + q) l.length) by omega, show ¬ (j < min q (l.length - p)) by omega, if_false, show p + j - min (p + q) l.length = j - q by omega, show j - min q (l.length - p) = j - q by omega, show j - q < us.length by omega]
    · simp only [h2, if_false, show ¬ (j < min q (l.length - p)) by omega]
      rw [List.getElem?_eq_none (by omega)]

theorem take_front (l r : List Value) : ((l ++ r).toArray.toList.drop 0).take l.length = l := by simp

theorem take_all {us : List Value} {n : Nat} (h : us.length = n) : us.take n = us := by subst h; exact List.take_length

theorem mAppend_sound (hT : TyOk P C) {serial : Bool} {st st' : St} (hs : Sit C w O B M st.heap) (hn : M st.nxt = none) {t t2 ty : TypeId} {s x v : AV} {cs cx : Value} (hsv : VR C w O B M s cs) (hxv : VR C w O B M x cx) (h : mAppend C serial t t2 s x st = some (v, st')) :
    ∃ cv w' O' M', (Builtin.append_ #[t, t2] ty #[cs, cx]).run P w = .ok cv w' ∧ VR C w' O' B M' v cv ∧ Step C B serial w O M st w' O' M' st' := by
  unfold mAppend at h
  simp only [Option.bind_eq_some_iff] at h
  obtain ⟨e, hte, i, hie, z, hz, d2, hd2, _, hkd, _, hpos, ⟨n, new⟩, hsrc, h⟩ := h
  have hk := append_kind (P := P) (chk_some hkd) (hT.under hd2)
  have hpos : 0 < i.info.size := by simpa using chk_some hpos
  obtain ⟨hu1, hu2⟩ := hT.ty e i hie
  have hut := hT.elem hte
  obtain ⟨us, hcn, hnl, hlen, hfc⟩ := source_sound (P := P) hs hxv hsrc
  have hul : us.length = n * i.info.size := by rw [hcn.len, hnl]
  obtain ⟨hf1, hf2⟩ := hfc n (Nat.le_refl _)
  rw [take_all hul] at hf1 hf2
  have hz0 : ∀ (b : Option Addr) (l c : Nat), n = 0 → l ≤ c → (Builtin.append_ #[t, t2] ty #[.slice b l c, cx]).run P w = .ok (.slice b l c) w := fun b l c h0 hlc => by
    subst h0
    have hus : us = [] := List.eq_nil_of_length_eq_zero (by omega)
    subst hus
    exact run_append_zero hut hu2 hk hlen (by simpa using hf1) hlc
  split at h
  · -- nil
    cases hsv
    cases hb : Nat.beq n 0 with
    | true =>
      rw [hb] at h
      simp only [cond_true, Option.some.injEq, Prod.mk.injEq] at h
      obtain ⟨rfl, rfl⟩ := h
      exact ⟨_, w, O, M, hz0 none 0 0 ((beq_iff _ _).1 hb) (Nat.le_refl _), .snil, .refl hs⟩
    | false =>
      rw [hb] at h
      simp only [cond_false, Option.bind_eq_some_iff, Option.some.injEq, Prod.mk.injEq] at h
      obtain ⟨_, hroom, rfl, rfl⟩ := h
      have hn0 : n ≠ 0 := fun e => by rw [e] at hb; cases hb
      have := append_grow (ty := ty) (base := none) (sLen := 0) (sCap := 0) hT (serial := serial) hs hn hte hie hz hk (olds := []) (ov := []) CR.nil hcn (by simp) hul hlen hf1 hf2 (by simp [Builtin.firstCells]) (by omega) (by simpa using chk_some hroom)
      simpa using this
  · -- frozen
    rename_i t' z' xs c
    obtain ⟨blk, o, c', ov, rfl, hle, hcap, hol, hco, hat⟩ := hsv.sdat_cells
    obtain rfl := hcap c rfl
    simp only [Option.bind_eq_some_iff] at h
    obtain ⟨_, hz', h⟩ := h
    obtain rfl := (beq_iff _ _).1 (chk_some hz')
    cases hb : Nat.ble (xs.length + n) c' with
    | true =>
      rw [hb] at h
      simp only [cond_true, Option.bind_eq_some_iff, Option.some.injEq, Prod.mk.injEq] at h
      obtain ⟨_, h0, rfl, rfl⟩ := h
      exact ⟨_, w, O, M, hz0 _ _ _ ((beq_iff _ _).1 (chk_some h0)) hle, hsv, .refl hs⟩
    | false =>
      rw [hb] at h
      simp only [cond_false, Option.bind_eq_some_iff, Option.some.injEq, Prod.mk.injEq] at h
      obtain ⟨_, hroom, rfl, rfl⟩ := h
      have hgt : c' < xs.length + n := by
        have : ¬ (xs.length + n ≤ c') := fun hh => by rw [Nat.ble_eq_true_of_le hh] at hb; cases hb
        omega
      refine append_grow (ty := ty) hT (serial := serial) hs hn hte hie hz hk hco hcn hol hul hlen hf1 hf2 ?_ hgt (chk_some hroom)
      have := run_loadCells_at (P := P) (w := w.drew) (n := xs.length * i.info.size) hat (by omega)
      rw [take_all hol] at this
      simpa [Builtin.firstCells] using this
  · -- the call's own
    rename_i b off len cap
    obtain ⟨cb, base, c, e1, i1, cc, fz, rfl, hM, hblk, hi1, hle, hfit, hcap, hfull⟩ := hsv.sref_inv
    cases hb : Nat.beq n 0 with
    | true =>
      rw [hb] at h
      simp only [cond_true, Option.some.injEq, Prod.mk.injEq] at h
      obtain ⟨rfl, rfl⟩ := h
      exact ⟨_, w, O, M, hz0 _ _ _ ((beq_iff _ _).1 hb) hle, hsv, .refl hs⟩
    | false =>
      rw [hb] at h
      simp only [cond_false, Option.bind_eq_some_iff] at h
      obtain ⟨⟨e', acs⟩, hcs, _, hchk, h⟩ := h
      have hchk := chk_some hchk
      simp only [Bool.and_eq_true, beq_iff, Nat.ble_eq] at hchk
      obtain ⟨he, hlen'⟩ := hchk
      have he := he.symm
      subst he
      obtain ⟨cc', fz', hblk', hfz, hfit', hO, hcr, hat⟩ := hs.cells hcs hM
      rw [hblk] at hblk'
      cases hblk'
      rw [hie] at hi1
      obtain rfl := Option.some.inj hi1
      have hco := (hcr.drop off).take (len * i.info.size)
      have hol : (((((cc.toList.drop base).take acs.length)).drop off).take (len * i.info.size)).length = len * i.info.size := by simp; omega
      have hold : (Builtin.firstCells i.info.size len (.slice (some ⟨cb, base + off, none⟩) len c)).run P w.drew = .ok (((((cc.toList.drop base).take acs.length)).drop off).take (len * i.info.size)).toArray w.drew := by
        simp only [Builtin.firstCells]
        exact run_loadCells_at (w := w.drew) (hat.drop off) (by simp; omega)
      have inplace : len + n ≤ c → off + (len + n) * i.info.size ≤ acs.length ∨ True → (Builtin.append_ #[t, t2] ty #[.slice (some ⟨cb, base + off, none⟩) len c, cx]).run P w =
          .ok (.slice (some ⟨cb, base + off, none⟩) (len + n) c) (w.setRow cb (cc.toList.take (base + off + len * i.info.size) ++ us ++ cc.toList.drop (base + off + len * i.info.size + us.length)).toArray) := fun hr _ => by
        refine run_append_in hut hu2 hk hlen hf1 hblk hfz.or hr ?_ hcn.one
        have : (len + n) * i.info.size ≤ c * i.info.size := Nat.mul_le_mul_right _ hr
        rw [Nat.add_mul] at this
        omega
      have hOb : O cb := hO
      cases hc : cap with
      | some c0 =>
        rw [hc] at h
        obtain rfl := hcap c0 hc
        simp only at h
        cases hb2 : Nat.ble (len + n) c with
        | true =>
          rw [hb2] at h
          simp only [cond_true, Option.bind_eq_some_iff, Option.some.injEq, Prod.mk.injEq] at h
          obtain ⟨_, hch, rfl, rfl⟩ := h
          have hch := chk_some hch
          simp only [Bool.and_eq_true, Nat.ble_eq] at hch
          obtain ⟨rfl, hfk⟩ := hch
          have hlc : len + n ≤ c := by simpa using hb2
          have hrun := inplace hlc (.inr trivial)
          have hw := step_write hs hcs hM hblk hcn (off := off + len * i.info.size) (by rw [hnl]; rw [Nat.add_mul] at hfk; omega)
          rw [show base + (off + len * i.info.size) = base + off + len * i.info.size by omega] at hw
          refine ⟨_, _, O, M, hrun, ?_, hw⟩
          obtain ⟨c', h1, h2⟩ := hw.ext.shp cb cc e fz hblk
          exact .sref b off (len + n) (some c) cb base c e i c' fz hM h1 hie hlc (by omega) (fun k hk => by cases hk; rfl) (fun hk => by cases hk)
        | false =>
          rw [hb2] at h
          simp only [cond_false, Option.bind_eq_some_iff, Option.some.injEq, Prod.mk.injEq] at h
          obtain ⟨_, hroom, rfl, rfl⟩ := h
          have hgt : c < len + n := by
            have : ¬ (len + n ≤ c) := fun hh => by rw [Nat.ble_eq_true_of_le hh] at hb2; cases hb2
            omega
          exact append_grow (ty := ty) hT (serial := serial) hs hn hte hie hz hk hco hcn hol hul hlen hf1 hf2 hold hgt (chk_some hroom)
      | none =>
        rw [hc] at h
        have hfl := hfull hc
        simp only [Option.bind_eq_some_iff] at h
        obtain ⟨_, hser, h⟩ := h
        obtain rfl := chk_some hser
        cases hb2 : Nat.ble (off + (len + n) * i.info.size) acs.length with
        | true =>
          rw [hb2] at h
          simp only [cond_true, Option.some.injEq, Prod.mk.injEq] at h
          obtain ⟨rfl, rfl⟩ := h
          have hfk : off + (len + n) * i.info.size ≤ acs.length := by simpa using hb2
          have hlc : len + n ≤ c := Nat.le_of_mul_le_mul_right (c := i.info.size) (by omega) hpos
          have hrun := inplace hlc (.inr trivial)
          have hw := step_write hs hcs hM hblk hcn (off := off + len * i.info.size) (by rw [hnl]; rw [Nat.add_mul] at hfk; omega)
          rw [show base + (off + len * i.info.size) = base + off + len * i.info.size by omega] at hw
          refine ⟨_, _, O, M, hrun, ?_, hw⟩
          obtain ⟨c', h1, h2⟩ := hw.ext.shp cb cc e fz hblk
          exact .sref b off (len + n) none cb base c e i c' fz hM h1 hie hlc (by omega) (fun k hk => by cases hk) (fun _ => by omega)
        | false =>
          rw [hb2] at h
          simp only [cond_false, Option.bind_eq_some_iff, Option.some.injEq, Prod.mk.injEq] at h
          obtain ⟨_, hch, rfl, rfl⟩ := h
          have hch := chk_some hch
          simp only [Bool.and_eq_true, beq_iff] at hch
          obtain ⟨hend, hroom⟩ := hch
          by_cases hlc : len + n ≤ c
          · have hrun := inplace hlc (.inr trivial)
            have hmul : (len + n) * i.info.size ≤ c * i.info.size := Nat.mul_le_mul_right _ hlc
            rw [Nat.add_mul] at hmul
            have hsize : (cc.toList.take (base + off + len * i.info.size) ++ us ++ cc.toList.drop (base + off + len * i.info.size + us.length)).toArray.size = cc.size := by simp; omega
            have hx := Ext.setRow (M := M) hO hblk hsize
            have hrow := setRow_same w cb cc (cc.toList.take (base + off + len * i.info.size) ++ us ++ cc.toList.drop (base + off + len * i.info.size + us.length)).toArray e fz hblk
            have hx2 : Ext w O M (w.setRow cb (cc.toList.take (base + off + len * i.info.size) ++ us ++ cc.toList.drop (base + off + len * i.info.size + us.length)).toArray) O (upd M st.nxt (cb, base + off)) :=
              ⟨hx.os, hx.tape, hx.output, hx.size, hx.keep, hx.shp, hx.own, fun x y h => by
                unfold upd
                by_cases e : x = st.nxt
                · subst e; rw [hn] at h; cases h
                · rw [if_neg e]; exact h⟩
            have hseg := seg_eq cc.toList us (base + off) (len * i.info.size) (by simp; omega)
            have e0 : (((cc.toList.drop base).take acs.length).drop off).take (len * i.info.size) = (cc.toList.drop (base + off)).take (len * i.info.size) := by
              rw [List.drop_take, List.drop_drop, List.take_take, Nat.min_eq_left (by omega)]
            rw [e0] at hco
            have hlenA : (List.take (len * i.info.size) (List.drop off acs) ++ new).length = len * i.info.size + us.length := by simp [hcn.len]; omega
            refine ⟨_, _, O, upd M st.nxt (cb, base + off), hrun, ?_, Step.moveIn hs hn (hcells_some hcs) hM hx (fun k hk => setRow_at w cb k _ hk) (.ofCRf hrow (by rw [hsize]; exact hfz) ?_ ?_)⟩
            · have := VR.sref (C := C) (w := w.setRow cb (cc.toList.take (base + off + len * i.info.size) ++ us ++ cc.toList.drop (base + off + len * i.info.size + us.length)).toArray) (O := O) (B := B) (M := upd M st.nxt (cb, base + off)) st.nxt 0 (len + n) none cb (base + off) c e i _ fz
                (by simp [upd]) hrow hie hlc (by omega) (fun k hk => by cases hk) (fun _ => by omega)
              simpa using this
            · rw [hsize, hlenA]; omega
            · rw [hlenA]
              dsimp only
              rw [hseg]
              exact (hco.append hcn).mono hx2
          · have hgt : c < len + n := by omega
            obtain ⟨cap', rest, hrun, hge, hfull'⟩ := append_grow_run (ty := ty) hT hte hie hz hk hcn.one hol hul hlen hf1 hf2 hold hgt hroom
            have hnew := heap_alloc_new w.drew (.cells ((((((cc.toList.drop base).take acs.length).drop off).take (len * i.info.size)) ++ us) ++ rest).toArray e)
            have hsz : w.drew.heap.size = w.heap.size := rfl
            have hx0 : Ext w.drew O M (w.drew.alloc (.cells ((((((cc.toList.drop base).take acs.length).drop off).take (len * i.info.size)) ++ us) ++ rest).toArray e)) (fun x => O x ∨ x = w.drew.heap.size) (upd M st.nxt (w.drew.heap.size, 0)) := Ext.alloc _ hn 0
            have hx : Ext w.drew O M (w.drew.alloc (.cells ((((((cc.toList.drop base).take acs.length).drop off).take (len * i.info.size)) ++ us) ++ rest).toArray e)) (fun x => (O x ∧ x ≠ cb) ∨ x = w.drew.heap.size) (upd M st.nxt (w.drew.heap.size, 0)) :=
              ⟨hx0.os, hx0.tape, hx0.output, hx0.size, hx0.keep, hx0.shp, fun x hx => hx0.own x (hx.imp (·.1) id), hx0.sub⟩
            have hcr2 := (hco.append hcn).mono (Ext.toDrew.trans hx)
            have hl2 := hcr2.len
            have hstep := Step.moveOut (st := st) hs.drew hn (hcells_some hcs) hM (.cells ((((((cc.toList.drop base).take acs.length).drop off).take (len * i.info.size)) ++ us) ++ rest).toArray e) (blk' := .cells e (List.take (len * i.info.size) (List.drop off acs) ++ new))
              (.ofCR hnew (by rw [Nat.zero_add, ← hl2]; simp) (by
                rw [← hl2, take_front]
                exact hcr2))
            refine ⟨_, _, _, _, hrun, ?_, hstep.undrew⟩
            have := VR.sref (C := C) (w := w.drew.alloc (.cells ((((((cc.toList.drop base).take acs.length).drop off).take (len * i.info.size)) ++ us) ++ rest).toArray e)) (O := fun x => (O x ∧ x ≠ cb) ∨ x = w.drew.heap.size) (B := B) (M := upd M st.nxt (w.drew.heap.size, 0)) st.nxt 0 (len + n) none w.drew.heap.size 0 cap' e i _ (0, 0)
              (by simp [upd]) hnew hie hge (by rw [List.size_toArray, hfull']; omega) (fun k hk => by cases hk) (fun _ => by rw [List.size_toArray, hfull']; omega)
            simpa using this
  · cases h

end
end Go.Ev
