/- A PART OF THE PROOF THAT SAVETEXTS HOLDS FOR EVERY INPUT OF BULK AT MOST 1048576. No condition beyond the given statement. This part: EvHand. -/
import Derived.Test.YtciahohaonhdgaaGreatDoorEvImp2
import Derived.Lib.Overlaps
namespace Go.Ev
open Go
theorem hget_none {H : Heap} {b : Nat} (h : ∀ p ∈ H, p.1 ≠ b) : hget H b = none := by
 cases hq : hget H b with
 | none => rfl
 | some x => exact absurd rfl (h _ (hget_mem hq))
theorem tops_liveP {C : Ctx} {H H1 : Heap} {lim : Nat} : ∀ {l l' : List AV}, portP C H H1 lim l = some l' → ∀ b ∈ tops lim (flat l), ∃ blk, hget H b = some blk
 | [], l', h, b, hb => by simp [flat, tops] at hb
 | v :: r, l', h, b, hb => by
  by_cases hagg : ∃ cs, v = .agg cs
  ·obtain ⟨cs, rfl⟩ := hagg
   simp only [portP, Option.bind_eq_some_iff, Option.some.injEq] at h
   obtain ⟨x, hx, xs, hxs, rfl⟩ := h
   have hfl : flat (.agg cs :: r) = cs ++ flat r := rfl
   rw [hfl, tops_append] at hb
   rcases List.mem_append.1 hb with hb | hb
   ·exact tops_live hx b hb
   ·exact tops_liveP hxs b hb
  ·have hne : ∀ cs, v ≠ .agg cs := fun cs e => hagg ⟨cs, e⟩
   rw [portP_cons r hne] at h
   simp only [Option.bind_eq_some_iff, Option.some.injEq] at h
   obtain ⟨x, hx, xs, hxs, rfl⟩ := h
   rw [flat_cons r hne, tops_append] at hb
   rcases List.mem_append.1 hb with hb | hb
   ·refine tops_live (l := [v]) (l' := [x]) (H1 := H1) (C := C) ?_ b hb
    simp [portL, hx]
   ·exact tops_liveP hxs b hb
theorem impC_shift (v : AV) (n m : Nat) : (impC (n + m) v).2.2 = (impC n v).2.2 + m := by
 cases v <;> simp only [impC] <;> omega
theorem impL_shift : ∀ (l : List AV) (n m : Nat), (impL (n + m) l).2.2 = (impL n l).2.2 + m
 | [], _, _ => rfl
 | v :: r, n, m => by
  simp only [impL]
  rw [impC_shift, impL_shift]
theorem impP_shift : ∀ (l : List AV) (n m : Nat), (impP (n + m) l).2.2 = (impP n l).2.2 + m
 | [], _, _ => rfl
 | v :: r, n, m => by
  by_cases hagg : ∃ cs, v = .agg cs
  ·obtain ⟨cs, rfl⟩ := hagg
   simp only [impP]
   rw [impL_shift, impP_shift]
  ·have hne : ∀ cs, v ≠ .agg cs := fun cs e => hagg ⟨cs, e⟩
   rw [impP_cons _ r hne, impP_cons _ r hne]
   simp only
   rw [impC_shift, impP_shift]
def mapI (M : MapB) (n : Nat) (is : List (Nat × Nat)) : MapB := fun b => if n ≤ b ∧ b < n + is.length then is[b - n]? else M b
def ownI (O : Nat → Prop) (is : List (Nat × Nat)) : Nat → Prop := fun x => O x ∨ ∃ p ∈ is, p.1 = x
section
variable {P : Program} {C : Ctx}
theorem hand_sound {serial : Bool} {w w' : World} {O B Oc Bc : Nat → Prop} {M Mc : MapB} {Hc : Heap} {lim : Nat} {st st2 : St} {r u : AV} {cv : Value}
  (hs : Sit C w O B M st.heap) (hc : Sit C w' Oc Bc Mc Hc) (hv : VR C w' Oc Bc Mc r cv) (h : hand C Hc lim r st = some (u, st2))
  (hx : Ext w O M w' O M) (hO : ∀ x, O x → Oc x ∨ Bc x) (hB : ∀ x, B x → Bc x) (hOc : ∀ x, Oc x → O x ∨ w.heap.size ≤ x)
  (hfar : ∀ b blk cb base, lim ≤ b → hget Hc b = some blk → Mc b = some (cb, base) → ¬ O cb)
  (hMc : ∀ b x, b < lim → Mc b = some x → b < st.nxt ∧ M b = some x)
  (hMn : ∀ b, st.nxt ≤ b → b < st2.nxt → M b = none)
  (hcal : ∀ (O2 : Nat → Prop) (M2 : MapB), (∀ x, O2 x → Oc x ∨ Bc x) → (∀ x, O2 x → O x ∨ w.heap.size ≤ x) → (∀ x, O x → O2 x) → (∀ b x, M b = some x → M2 b = some x) → ∀ b blk, hget st.heap b = some blk → ∃ cb base, M b = some (cb, base) ∧ BlkR C w' O2 B M2 cb base blk)
  (hst : serial = false → (∀ b, b < w.heap.size → w'.heap[b]? = w.heap[b]?) ∧ ∀ x, Oc x → w.heap.size ≤ x)
  (hrest : ∀ cb, O cb → cb < w.heap.size → ¬ Image M st.heap cb → w'.heap[cb]? = w.heap[cb]?) :
  ∃ O2 M2, VR C w' O2 B M2 u cv ∧ Step C B serial w O M st w' O2 M2 st2 := by
 unfold hand at h
 simp only [Option.bind_eq_some_iff, Option.some.injEq, Prod.mk.injEq] at h
 obtain ⟨_, hnd, l, hl, u', hu, rfl, rfl⟩ := h
 have hnd := noDup_iff (chk_some hnd)
 obtain ⟨vs, hlr, hback⟩ := parts_rel hv
 have hlive := tops_liveP hl
 generalize hI : imgs lim Mc (flat (parts r)) = is at *
 have hlenI : is.length = (tops lim (flat (parts r))).length := by rw [← hI]; exact imgs_length lim Mc _
 have himg : ∀ k (hk : k < is.length), ∃ b blk base, ∃ hk' : k < (tops lim (flat (parts r))).length, (tops lim (flat (parts r)))[k] = b ∧ lim ≤ b ∧ hget Hc b = some blk ∧ Mc b = some (is[k].1, base) ∧ Oc is[k].1 := by
  intro k hk
  have hk' : k < (tops lim (flat (parts r))).length := by rw [← hlenI]; exact hk
  obtain ⟨blk, hb⟩ := hlive _ (List.getElem_mem hk')
  obtain ⟨cb, base, hM, hOc', _⟩ := hc.own _ _ hb
  obtain ⟨h1, h2⟩ := imgs_get lim Mc (flat (parts r)) k (by rw [hI]; exact hk) hk'
  have h3 := h2 cb base hM
  have h4 : is[k].1 = cb := by rw [← h3]; congr 1; simp only [hI]
  exact ⟨_, blk, base, hk', rfl, h1, hb, by rw [h4]; exact hM, by rw [h4]; exact hOc'⟩
 have hO2c : ∀ x, ownI O is x → Oc x ∨ Bc x := fun x hx => by
  rcases hx with hx | ⟨p, hp, rfl⟩
  ·exact hO x hx
  ·obtain ⟨k, hk, rfl⟩ := List.getElem_of_mem hp
   obtain ⟨_, _, _, _, _, _, _, _, h⟩ := himg k hk
   exact .inl h
 have hO2o : ∀ x, ownI O is x → O x ∨ w.heap.size ≤ x := fun x hx => by
  rcases hx with hx | ⟨p, hp, rfl⟩
  ·exact .inl hx
  ·obtain ⟨k, hk, rfl⟩ := List.getElem_of_mem hp
   obtain ⟨_, _, _, _, _, _, _, _, h⟩ := himg k hk
   exact hOc _ h
 have hT : Tgt false Oc Bc Mc (hdels (fresh lim Hc) (tops lim (flat (parts r)))) (ownI O is) B := by
  refine ⟨hO2c, fun h => (by cases h), fun x hx => .inr (hB x hx), fun b blk cb base hb hM => ?_⟩
  obtain ⟨hb, hnot⟩ := hget_hdels hb
  obtain ⟨hb, hle⟩ := hget_fresh hb
  obtain ⟨cb', base', hM', hOb, _⟩ := hc.own b blk hb
  rw [hM] at hM'
  obtain ⟨rfl, rfl⟩ := Prod.mk.inj (Option.some.inj hM')
  refine ⟨fun h2 => ?_, fun _ hBb => hc.sep cb hOb (hB _ hBb)⟩
  rcases h2 with h2 | ⟨p, hp, he⟩
  ·exact hfar b blk cb base hle hb hM h2
  ·obtain ⟨k, hk, rfl⟩ := List.getElem_of_mem hp
   obtain ⟨b1, blk1, base1, hk', e1, _, hb1, hM1, _⟩ := himg k hk
   rw [he] at hM1
   have := hc.inj b b1 blk blk1 cb base base1 hb hb1 hM hM1
   exact hnot (by rw [this, ← e1]; exact List.getElem_mem hk')
 have hLies : Lies C w' Oc Bc Mc (hdels (fresh lim Hc) (tops lim (flat (parts r)))) := by
  refine ⟨fun b e cs cb base hb hM => ?_, fun b ks us bs ck cb base hb hM => ?_⟩
  ·have h1 := hcells_some hb
   have h2 := (hget_fresh (hget_hdels h1).1).1
   have : hcells Hc b = some (e, cs) := by unfold hcells; rw [h2]
   exact (Lies.of hc).1 b e cs cb base this hM
  ·have h1 := hmap_some hb
   have h2 := (hget_fresh (hget_hdels h1).1).1
   have : hmap Hc b = some (ks, us, bs, ck) := by unfold hmap; rw [h2]
   exact (Lies.of hc).2 b ks us bs ck cb base this hM
 have hM2 : ∀ k (hk : k < (imgs lim Mc (flat (parts r))).length), mapI M st.nxt is (st.nxt + k) = some (imgs lim Mc (flat (parts r)))[k] := by
  intro k hk
  have hk2 : k < is.length := by rw [← hI]; exact hk
  have e1 : st.nxt + k - st.nxt = k := by omega
  simp only [mapI, hI]
  rw [if_pos (by omega), e1, List.getElem?_eq_getElem hk2]
 have hn' : (impP st.nxt l).2.2 = st.nxt + is.length → ∀ b x, M b = some x → mapI M st.nxt is b = some x := fun hn b x hb => by
  unfold mapI
  rw [if_neg]
  ·exact hb
  ·intro hc
   have := hMn b hc.1 (by rw [hn]; exact hc.2)
   rw [this] at hb; cases hb
 have hlenP : (impP st.nxt l).2.2 = st.nxt + is.length := by
  have hT0 : Tgt false Oc Bc Mc (hdels (fresh lim Hc) (tops lim (flat (parts r)))) (fun x => ∃ p ∈ is, p.1 = x) B := ⟨fun x hx => hO2c x (.inr hx), fun h => (by cases h), hT.s2, fun b blk cb base hb hM => ⟨fun h => (hT.s3 b blk cb base hb hM).1 (.inr h), (hT.s3 b blk cb base hb hM).2⟩⟩
  have := (portP_sound (M2 := fun b => if b < lim then Mc b else (if st.nxt + lim ≤ b then is[b - (st.nxt + lim)]? else none)) hc hT0 hLies (fun b x hb hm => by rw [if_pos hb]; exact hm) (st.nxt + lim) hlr hl (fun k hk => by
   have hk2 : k < is.length := by rw [← hI]; exact hk
   simp only [hI]
   rw [if_neg (by omega), if_pos (by omega)]
   have : st.nxt + lim + k - (st.nxt + lim) = k := by omega
   rw [this, List.getElem?_eq_getElem hk2])).2.1
  rw [hI] at this
  have hsh := impP_shift l st.nxt lim
  rw [this] at hsh
  omega
 have hsub := hn' hlenP
 have hold : ∀ b x, b < lim → Mc b = some x → mapI M st.nxt is b = some x := fun b x hb hm => hsub b x (hMc b x hb hm).2
 obtain ⟨hLR, _, hNew⟩ := portP_sound (M2 := mapI M st.nxt is) hc hT hLies hold st.nxt hlr hl hM2
 have hxf : Ext w O M w' (ownI O is) (mapI M st.nxt is) := ⟨hx.os, hx.tape, hx.output, hx.size, hx.keep, hx.shp, hO2o, hsub⟩
 have hold' : ∀ b blk, hget st.heap b = some blk → hget (impP st.nxt l).2.1 b = none := fun b blk hb => by
  obtain ⟨cb, base, hM, _⟩ := hs.own b blk hb
  refine hget_none fun p hp he => ?_
  have := hNew.rng p hp
  subst he
  rw [hMn p.1 this.1 this.2] at hM
  cases hM
 have hgetB : ∀ b blk, hget st.heap b = some blk → hget ((impP st.nxt l).2.1 ++ st.heap) b = some blk := fun b blk hb => by
  rw [hget_append, hold' b blk hb]; exact hb
 have hnew2 : ∀ b, st.nxt ≤ b → b < st.nxt + is.length → ∃ hk : b - st.nxt < is.length, mapI M st.nxt is b = some is[b - st.nxt] := fun b h1 h2 => by
  have hk : b - st.nxt < is.length := by omega
  exact ⟨hk, by unfold mapI; rw [if_pos ⟨h1, h2⟩, List.getElem?_eq_getElem hk]⟩
 have hcase : ∀ b blk, hget ((impP st.nxt l).2.1 ++ st.heap) b = some blk → (∃ cb base, (st.nxt ≤ b ∧ b < st.nxt + is.length) ∧ hget (impP st.nxt l).2.1 b = some blk ∧ mapI M st.nxt is b = some (cb, base) ∧ BlkR C w' (ownI O is) B (mapI M st.nxt is) cb base blk) ∨ hget st.heap b = some blk := fun b blk hb => by
  rw [hget_append] at hb
  cases hq : hget (impP st.nxt l).2.1 b with
  | some y =>
   rw [hq] at hb
   cases hb
   obtain ⟨cb, base, h1, h2⟩ := hNew.blk b blk hq
   have := hNew.rng _ (hget_mem hq)
   exact .inl ⟨cb, base, by rw [← hlenP]; exact this, rfl, h1, h2⟩
  | none => rw [hq] at hb; exact .inr hb
 have hSit : Sit C w' (ownI O is) B (mapI M st.nxt is) ((impP st.nxt l).2.1 ++ st.heap) := by
  refine ⟨fun b blk hb => ?_, fun b b' blk blk' cb base base' hb hb' hM hM' => ?_, fun g cs hg => ?_, fun x hx hBx => ?_, fun x hx => hc.bl x (hB x hx)⟩
  ·rcases hcase b blk hb with ⟨cb, base, hr, _, hM, hR⟩ | hb
   ·refine ⟨cb, base, hM, ?_, hR⟩
    obtain ⟨hk, h2⟩ := hnew2 b hr.1 hr.2
    rw [hM] at h2
    exact .inr ⟨_, List.getElem_mem hk, by rw [← Option.some.inj h2]⟩
   ·obtain ⟨cb, base, hM, hR⟩ := hcal (ownI O is) (mapI M st.nxt is) hO2c hO2o (fun x h => .inl h) hsub b blk hb
    obtain ⟨cb', base', hM', hOb, _⟩ := hs.own b blk hb
    rw [hM] at hM'
    obtain ⟨rfl, rfl⟩ := Prod.mk.inj (Option.some.inj hM')
    exact ⟨cb, base, hsub b _ hM, .inl hOb, hR⟩
  ·rcases hcase b blk hb with ⟨_, _, hr, _, _, _⟩ | hb1 <;> rcases hcase b' blk' hb' with ⟨_, _, hr', _, _, _⟩ | hb1'
   ·obtain ⟨hk, h2⟩ := hnew2 b hr.1 hr.2
    obtain ⟨hk', h2'⟩ := hnew2 b' hr'.1 hr'.2
    rw [hM] at h2; rw [hM'] at h2'
    obtain ⟨b1, blk1, base1, hk1, e1, _, hb1, hM1, _⟩ := himg _ hk
    obtain ⟨b2, blk2, base2, hk2, e2, _, hb2, hM2', _⟩ := himg _ hk'
    rw [← Option.some.inj h2] at hM1
    rw [← Option.some.inj h2'] at hM2'
    have := hc.inj b1 b2 blk1 blk2 cb base1 base2 hb1 hb2 hM1 hM2'
    rw [← e1, ← e2] at this
    have := (List.getElem_inj hnd).1 this
    omega
   ·exfalso
    obtain ⟨hk, h2⟩ := hnew2 b hr.1 hr.2
    rw [hM] at h2
    obtain ⟨b1, blk1, base1, hk1, e1, hle1, hbb1, hM1, _⟩ := himg _ hk
    rw [← Option.some.inj h2] at hM1
    obtain ⟨cb', bs', hM2', hOb, _⟩ := hs.own b' blk' hb1'
    have := hsub b' _ hM2'
    rw [hM'] at this
    obtain ⟨rfl, rfl⟩ := Prod.mk.inj (Option.some.inj this)
    exact hfar b1 blk1 cb base1 hle1 hbb1 hM1 hOb
   ·exfalso
    obtain ⟨hk, h2⟩ := hnew2 b' hr'.1 hr'.2
    rw [hM'] at h2
    obtain ⟨b1, blk1, base1, hk1, e1, hle1, hbb1, hM1, _⟩ := himg _ hk
    rw [← Option.some.inj h2] at hM1
    obtain ⟨cb', bs', hM2', hOb, _⟩ := hs.own b blk hb1
    have := hsub b _ hM2'
    rw [hM] at this
    obtain ⟨rfl, rfl⟩ := Prod.mk.inj (Option.some.inj this)
    exact hfar b1 blk1 cb base1 hle1 hbb1 hM1 hOb
   ·obtain ⟨c1, bs1, hM1, _⟩ := hs.own b blk hb1
    obtain ⟨c2, bs2, hM2', _⟩ := hs.own b' blk' hb1'
    have e1 := hsub b _ hM1
    have e2 := hsub b' _ hM2'
    rw [hM] at e1; rw [hM'] at e2
    obtain ⟨rfl, rfl⟩ := Prod.mk.inj (Option.some.inj e1)
    obtain ⟨rfl, rfl⟩ := Prod.mk.inj (Option.some.inj e2)
    exact hs.inj b b' blk blk' _ _ _ hb1 hb1' hM1 hM2'
  ·have hg1 := hc.glob g cs hg
   obtain ⟨_, _, _, _, _, _, _, _, _, hd⟩ := hg1.pdat_cells
   exact hg1.conv (t := false) hO2c (fun h => (by cases h)) (fun x hx => .inr (hB x hx)) (by simp [dat, hd])
  ·rcases hx with hx | ⟨p, hp, rfl⟩
   ·exact hs.sep x hx hBx
   ·obtain ⟨k, hk, rfl⟩ := List.getElem_of_mem hp
    obtain ⟨_, _, _, _, _, _, _, _, h⟩ := himg k hk
    exact hc.sep _ h (hB _ hBx)
 refine ⟨ownI O is, mapI M st.nxt is, hback _ _ _ _ _ hLR hu, hxf, hSit, fun b hb => ?_, ?_, Nat.le_refl _, fun b hb _ => ?_, fun cb hO1 hlt hni => ⟨hrest cb hO1 hlt hni, .inl hO1, fun ⟨b, blk, base, hb, hM⟩ => ?_⟩, fun h x hx1 => ?_, fun hse => ?_⟩
 ·unfold mapI
  simp only [hlenP] at hb
  rw [if_neg (by omega)]
 ·simp only [hlenP]; omega
 ·show hget ((impP st.nxt l).2.1 ++ st.heap) b = _
  rw [hget_append, hget_none fun p hp he => by have := hNew.rng p hp; omega]
 ·have hb : hget ((impP st.nxt l).2.1 ++ st.heap) b = some blk := hb
  rcases hcase b blk hb with ⟨_, _, hr, _, _, _⟩ | hb1
  ·obtain ⟨hk, h2⟩ := hnew2 b hr.1 hr.2
   rw [hM] at h2
   obtain ⟨b1, blk1, base1, hk1, e1, hle1, hbb1, hM1, _⟩ := himg _ hk
   rw [← Option.some.inj h2] at hM1
   exact hfar b1 blk1 cb base1 hle1 hbb1 hM1 hO1
  ·obtain ⟨c1, bs1, hM1, _⟩ := hs.own b blk hb1
   have e1 := hsub b _ hM1
   rw [hM] at e1
   obtain ⟨rfl, rfl⟩ := Prod.mk.inj (Option.some.inj e1)
   exact hni ⟨b, blk, _, hb1, hM1⟩
 ·rcases hx1 with hx1 | ⟨p, hp, rfl⟩
  ·exact Nat.lt_of_lt_of_le (h x hx1) hx.size
  ·obtain ⟨k, hk, rfl⟩ := List.getElem_of_mem hp
   obtain ⟨b1, blk1, base1, _, _, _, hbb1, hM1, _⟩ := himg k hk
   exact hc.lt hbb1 hM1
 ·obtain ⟨h1, h2⟩ := hst hse
  refine ⟨h1, fun x h => .inl h, ⟨(impP st.nxt l).2.1, rfl, hNew.len, hNew.rng⟩, fun b cb base blk hb1 hb2 _ hM => ?_, fun cb hcb => ?_⟩
  ·simp only [hlenP] at hb2
   obtain ⟨hk, h3⟩ := hnew2 b hb1 hb2
   rw [hM] at h3
   obtain ⟨_, _, _, _, _, _, _, _, h4⟩ := himg _ hk
   rw [← Option.some.inj h3] at h4
   exact h2 _ h4
  ·rcases hcb with hcb | ⟨p, hp, rfl⟩
   ·exact .inl hcb
   ·obtain ⟨k, hk, rfl⟩ := List.getElem_of_mem hp
    obtain ⟨x, hx2⟩ := hNew.all (st.nxt + k) (by omega) (by omega)
    obtain ⟨hk2, h3⟩ := hnew2 (st.nxt + k) (by omega) (by omega)
    refine .inr ⟨st.nxt + k, x, is[k].2, by omega, by simp only [hlenP]; omega, by show hget (_ ++ _) _ = _; rw [hget_append, hx2], ?_⟩
    rw [h3]
    congr 2
    simp
end
end Go.Ev
namespace Go.Ev
open Go
section
variable {P : Program} {C : Ctx} {w : World} {O B : Nat → Prop} {M : MapB}
theorem list_two {α : Type} : ∀ {l : List α}, l.length = 2 → ∃ x y, l = [x, y]
 | [x, y], _ => ⟨x, y, rfl⟩
theorem run_v {s : Sem Value} {cv : Value} {w' : World} (h : s.run P w = .ok cv w') : (do pure (Next.value (← s)) : Sem Next).run P w = .ok (.value cv) w' := by
 simp [h]
theorem run_u {s : Sem Unit} {w' : World} (h : s.run P w = .ok () w') : (do s; pure Next.skip : Sem Next).run P w = .ok .skip w' := by
 simp [h]
theorem mConvert_int {src dst : TypeId} {x : AV} {H H' : Heap} (hd : isInt C dst = true) : mConvert C src dst x H = mConvert C src dst x H' := by
 obtain ⟨k, hk⟩ := isInt_some hd
 unfold mConvert
 cases C.desc src with
 | none => rfl
 | some s => rw [hk]; cases x <;> rfl
theorem quiet_sound (hT : TyOk P C) {call : CallF} {serial : Bool} {ts : List AV} {a : Act} {o : Oper} {st st2 : St} {v : AV} (hs : Sit C w O B M []) (ht : TR C w O B M ts a) (hq : quiet C o.op = true)
  (h : evOp C call serial (opVal C ts) o st = some (v, st2)) : st2 = st ∧ ∃ cv, (execOp a.eval o).run P w = .ok (.value cv) w ∧ VR C w O B M v cv := by
 have E : ∀ {x : Operand} {u : AV}, opVal C ts x = some u → VR C w O B M u (a.eval x) := fun h => opVal_sound hs ht h
 have keeps : ∀ {y : Option AV}, y.map (keep st) = some (v, st2) → y = some v ∧ st2 = st := fun {y} h => by
  cases y with
  | none => cases h
  | some y => simp only [Option.map_some, keep, Option.some.injEq, Prod.mk.injEq] at h; exact ⟨by rw [h.1], h.2.symm⟩
 unfold evOp at h
 unfold execOp
 cases hop : o.op with
 | move x =>
  simp only [hop] at h ⊢
  obtain ⟨h1, h2⟩ := keeps h
  exact ⟨h2, _, rfl, E h1⟩
 | assign x =>
  simp only [hop] at h ⊢
  obtain ⟨h1, h2⟩ := keeps h
  exact ⟨h2, _, rfl, E h1⟩
 | pick c x y =>
  simp only [hop, Option.bind_eq_some_iff] at h ⊢
  obtain ⟨cb, hc, h⟩ := h
  have hcv := E hc
  split at h
  ·obtain ⟨h1, h2⟩ := keeps h
   have e : a.eval c = .bool true := by generalize a.eval c = q at hcv; cases hcv; rfl
   exact ⟨h2, _, by rw [e]; rfl, E h1⟩
  ·obtain ⟨h1, h2⟩ := keeps h
   have e : a.eval c = .bool false := by generalize a.eval c = q at hcv; cases hcv; rfl
   exact ⟨h2, _, by rw [e]; rfl, E h1⟩
  ·cases h
 | build t parts =>
  simp only [hop, Option.bind_eq_some_iff] at h ⊢
  obtain ⟨ps, hps, h⟩ := h
  obtain ⟨h1, h2⟩ := keeps h
  have hp := partV_sound hs ht hps
  obtain ⟨cv, h3, h4⟩ := mBuild_sound (P := P) hT hp h1
  refine ⟨h2, cv, run_v (by rw [← h3]; congr 2; apply Array.ext'; simp), h4⟩
 | nilCheck x =>
  simp only [hop, Option.bind_eq_some_iff] at h ⊢
  obtain ⟨u, hu, h⟩ := h
  have hv := E hu
  have hne : u ≠ .pnil ∧ u ≠ .inil ∧ u ≠ .fnil ∧ v = u ∧ st2 = st := by
   split at h
   ·cases h
   ·cases h
   ·cases h
   ·rename_i v' h1 h2 h3
    simp only [Option.some.injEq, Prod.mk.injEq] at h
    exact ⟨h1, h2, h3, h.1.symm, h.2.symm⟩
  obtain ⟨n1, n2, n3, rfl, rfl⟩ := hne
  refine ⟨rfl, a.eval x, ?_, hv⟩
  generalize a.eval x = q at hv
  cases hv <;> first | rfl | exact absurd rfl n1 | exact absurd rfl n2 | exact absurd rfl n3
 | binOp op t x y cs =>
  simp only [hop, Option.bind_eq_some_iff] at h ⊢
  obtain ⟨ax, hx, ay, hy, h⟩ := h
  obtain ⟨h1, h2⟩ := keeps h
  obtain ⟨cv, h3, h4⟩ := binAV_sound (P := P) hT (E hx) (E hy) h1
  exact ⟨h2, cv, run_v h3, h4⟩
 | unOp op t x =>
  simp only [hop, Option.bind_eq_some_iff] at h ⊢
  obtain ⟨ax, hx, h⟩ := h
  obtain ⟨h1, h2⟩ := keeps h
  obtain ⟨cv, h3, h4⟩ := unAV_sound (P := P) (E hx) h1
  exact ⟨h2, cv, run_v h3, h4⟩
 | makeInterface t x =>
  simp only [hop, Option.bind_eq_some_iff] at h ⊢
  obtain ⟨d, hd, _, hc, u, hu, _, hc2, h⟩ := h
  simp only [Option.some.injEq, Prod.mk.injEq] at h
  obtain ⟨rfl, rfl⟩ := h
  have hc := chk_some hc
  refine ⟨rfl, .iface t (a.eval x), run_v ?_, .ifc t u _ (E hu)⟩
  unfold Instr.makeInterface
  simp only [Sem.run_bind, run_underlying (hT.under hd), Result.andThen_ok]
  cases d <;> first | rfl | (cases hc)
 | makeFunc fn first captured =>
  simp only [hop] at h ⊢
  cases fn with
  | func f =>
   simp only at h
   cases hc : Nat.beq first.size 0 with
   | false =>
    rw [hc] at h
    simp only [cond_false, Option.bind_eq_some_iff] at h
    obtain ⟨_, hc2, cs, hcs, h⟩ := h
    simp only [Option.some.injEq, Prod.mk.injEq] at h
    obtain ⟨rfl, rfl⟩ := h
    have hc2 := chk_some hc2
    have hf : captured = #[] := by apply Array.eq_empty_of_size_eq_zero; simpa using hc2
    subst hf
    obtain ⟨h1, h2⟩ := vals_sound hs ht hcs
    refine ⟨rfl, _, run_v rfl, ?_⟩
    have := VR.bnd (C := C) (w := w) (O := O) (B := B) (M := M) f cs (first.toList.map a.eval) (by simp [h1]) h2
    have e : (first.toList.map a.eval).toArray = first.map a.eval := by apply Array.ext'; simp
    rw [e] at this
    simpa using this
   | true =>
   rw [hc] at h
   simp only [cond_true, Option.bind_eq_some_iff] at h
   obtain ⟨cs, hcs, h⟩ := h
   simp only [Option.some.injEq, Prod.mk.injEq] at h
   obtain ⟨rfl, rfl⟩ := h
   have hf : first = #[] := by apply Array.eq_empty_of_size_eq_zero; simpa using hc
   subst hf
   obtain ⟨h1, h2⟩ := vals_sound hs ht hcs
   refine ⟨rfl, _, run_v rfl, ?_⟩
   have := VR.clo (C := C) (w := w) (O := O) (B := B) (M := M) f cs (captured.toList.map a.eval) (by simp [h1]) h2
   have e : (captured.toList.map a.eval).toArray = captured.map a.eval := by apply Array.ext'; simp
   rw [e] at this
   simpa using this
  | _ => cases h
 | convert src dst x =>
  simp only [hop, Option.bind_eq_some_iff] at h ⊢
  rw [hop] at hq
  have hd : isInt C dst = true := hq
  obtain ⟨k, hk⟩ := isInt_some hd
  obtain ⟨u, hu, h⟩ := h
  have hc : (mConvert C src dst u st.heap).map (keep st) = some (v, st2) := by
   split at h
   ·rw [hk] at h; exact h
   ·exact h
  obtain ⟨h1, h2⟩ := keeps hc
  rw [mConvert_int (H' := []) hd] at h1
  obtain ⟨cv, h3, h4⟩ := mConvert_sound (P := P) hT hs (E hu) h1
  exact ⟨h2, cv, run_v h3, h4⟩
 | fieldAddr s x f =>
  simp only [hop, Option.bind_eq_some_iff] at h ⊢
  obtain ⟨u, hu, h⟩ := h
  obtain ⟨h1, h2⟩ := keeps h
  obtain ⟨cv, h3, h4⟩ := mFieldAddr_sound (P := P) hT (E hu) h1
  exact ⟨h2, cv, run_v h3, h4⟩
 | field s x f =>
  simp only [hop, Option.bind_eq_some_iff] at h ⊢
  obtain ⟨u, hu, h⟩ := h
  obtain ⟨h1, h2⟩ := keeps h
  obtain ⟨cv, h3, h4⟩ := mField_sound (P := P) hT (E hu) h1
  exact ⟨h2, cv, run_v h3, h4⟩
 | indexAddr t x ix =>
  simp only [hop, Option.bind_eq_some_iff] at h ⊢
  obtain ⟨u, hu, i, hi, h⟩ := h
  obtain ⟨h1, h2⟩ := keeps h
  obtain ⟨cv, h3, h4⟩ := mIndexAddr_sound (P := P) hT (E hu) (E hi) h1
  exact ⟨h2, cv, run_v h3, h4⟩
 | index t x ix =>
  simp only [hop, Option.bind_eq_some_iff] at h ⊢
  obtain ⟨u, hu, i, hi, h⟩ := h
  obtain ⟨h1, h2⟩ := keeps h
  obtain ⟨cv, h3, h4⟩ := mIndex_sound (P := P) hT (E hu) (E hi) h1
  exact ⟨h2, cv, run_v h3, h4⟩
 | extract x i =>
  simp only [hop, Option.bind_eq_some_iff] at h ⊢
  obtain ⟨u, hu, h⟩ := h
  have hv := E hu
  split at h
  ·rename_i vs
   obtain ⟨h1, h2⟩ := keeps h
   obtain ⟨hlt, rfl⟩ := getL_some h1
   generalize a.eval x = q at hv
   cases hv with
   | tup _ us hl hr =>
    refine ⟨h2, us[i]'(by omega), run_v ?_, hr i hlt (by omega)⟩
    simp [Instr.extract, List.getElem?_eq_getElem (show i < us.length by omega)]
  ·cases h
 | call c =>
  rw [hop] at hq
  simp only [hop, Option.bind_eq_some_iff] at h ⊢
  obtain ⟨callee, args, argTypes⟩ := c
  simp only at h hq ⊢
  obtain ⟨vs, hvs, h⟩ := h
  obtain ⟨hl, hr⟩ := vals_sound hs ht hvs
  have hargs : args.map a.eval = (args.toList.map a.eval).toArray := by apply Array.ext'; simp
  have hl2 : (args.toList.map a.eval).length = vs.length := by simp [hl]
  have one : ∀ u, vs = [u] → ∃ cu, args.map a.eval = #[cu] ∧ VR C w O B M u cu := fun u e => by
   subst e
   obtain ⟨cu, e2⟩ := List.length_eq_one_iff.1 hl2
   refine ⟨cu, by rw [hargs, e2], ?_⟩
   have := hr 0 (by simp) (by rw [e2]; simp)
   simpa [e2] using this
  have two : ∀ u u', vs = [u, u'] → ∃ cu cu', args.map a.eval = #[cu, cu'] ∧ VR C w O B M u cu ∧ VR C w O B M u' cu' := fun u u' e => by
   subst e
   obtain ⟨cu, cu', e2⟩ := list_two hl2
   refine ⟨cu, cu', by rw [hargs, e2], ?_, ?_⟩
   ·have := hr 0 (by simp) (by rw [e2]; simp)
    simpa [e2] using this
   ·have := hr 1 (by simp) (by rw [e2]; simp)
    simpa [e2] using this
  cases callee with
  | builtin b =>
   cases b with
   | len =>
    simp only at h
    split at h
    ·rename_i t tr u e1
     obtain ⟨h1, h2⟩ := keeps h
     have h0 : argTypes[0]? = some t := by rw [← Array.getElem?_toList, e1]; rfl
     obtain ⟨cu, e2, hx⟩ := one _ rfl
     have hnm : isMap C t = false := by
      have hq : (match argTypes.toList with | t :: _ => !(isMap C t) | [] => false) = true := hq
      rw [e1] at hq
      simpa using hq
     obtain ⟨cv, h3, h4⟩ := mLen_sound (P := P) (ty := o.type) hT (.inl hnm) h0 hx h1
     refine ⟨h2, cv, ?_, h4⟩
     simp only [resolve, e2, invoke, builtin, Sem.run_bind, Sem.run_pure, Result.andThen_ok, h3]
    ·cases h
   | cap =>
    simp only at h
    split at h
    ·rename_i t tr u e1
     obtain ⟨h1, h2⟩ := keeps h
     have h0 : argTypes[0]? = some t := by rw [← Array.getElem?_toList, e1]; rfl
     obtain ⟨cu, e2, hx⟩ := one _ rfl
     obtain ⟨cv, h3, h4⟩ := mCap_sound (P := P) (ty := o.type) hT h0 hx h1
     refine ⟨h2, cv, ?_, h4⟩
     simp only [resolve, e2, invoke, builtin, Sem.run_bind, Sem.run_pure, Result.andThen_ok, h3]
    ·cases h
   | min =>
    simp only at h
    split at h
    ·rename_i k x k' y
     simp only [Option.some.injEq, Prod.mk.injEq] at h
     obtain ⟨rfl, rfl⟩ := h
     obtain ⟨cu, cu', e2, hx, hy⟩ := two _ _ rfl
     cases hx
     cases hy
     refine ⟨rfl, _, ?_, .int _ _⟩
     simp [resolve, e2, invoke, builtin, Builtin.min_, Builtin.min2]
    ·cases h
   | max =>
    simp only at h
    split at h
    ·rename_i k x k' y
     simp only [Option.some.injEq, Prod.mk.injEq] at h
     obtain ⟨rfl, rfl⟩ := h
     obtain ⟨cu, cu', e2, hx, hy⟩ := two _ _ rfl
     cases hx
     cases hy
     refine ⟨rfl, _, ?_, .int _ _⟩
     simp [resolve, e2, invoke, builtin, Builtin.max_, Builtin.max2]
    ·cases h
   | _ => simp [quiet] at hq
  | _ => simp [quiet] at hq
 | _ => rw [hop] at hq; simp [quiet] at hq
end
end Go.Ev
namespace Go.Ev
open Go
section
variable {P : Program} {C : Ctx} {w w' : World} {O B : Nat → Prop} {M : MapB}
theorem VR.two {O1 O2 : Nat → Prop} {M1 M2 : MapB} (h1 : ∀ x, O2 x → O1 x) (hM : ∀ b x y, M b = some x → M1 b = some y → M2 b = some y) {v : AV} {cv : Value} (h : VR C w' O1 B M1 v cv) : ∀ {cv0 : Value}, VR C w O B M v cv0 → VR C w' O2 B M2 v cv := by
 induction h with
 | bool b => intro _ _; exact .bool b
 | int k n => intro _ _; exact .int k n
 | flt k n => intro _ _; exact .flt k n
 | str s bs h => intro _ _; exact .str s bs h
 | pnil => intro _ _; exact .pnil
 | snil => intro _ _; exact .snil
 | mnil => intro _ _; exact .mnil
 | fnil => intro _ _; exact .fnil
 | inil => intro _ _; exact .inil
 | pref b off cb base hm =>
  intro _ h0
  cases h0 with
  | pref _ _ cb0 base0 hm0 => exact .pref b off cb base (hM _ _ _ hm0 hm)
 | sref b off len cap cb base c e i cc fz hm hblk hi hlen hfit hcap hfull =>
  intro _ h0
  obtain ⟨cb0, base0, _, _, _, _, _, _, hm0, _⟩ := h0.sref_inv
  exact .sref b off len cap cb base c e i cc fz (hM _ _ _ hm0 hm) hblk hi hlen hfit hcap hfull
 | pdat tg cs blk o vs hlt hO hB hc hcell hic hv ih =>
  intro _ _
  refine (VR.pdat tg cs blk o vs hlt hO hB hc hcell hic hv).conv (t := true) (fun x hx => .inl (h1 x hx)) (fun _ x hx => h1 x hx) (fun x hx => .inr hx) ?_
  simp only [dat, Bool.true_or, Bool.true_and]
  cases tg with
  | true => exact hc
  | false => exact datL_up hc
 | sdat tg sz xs cap blk o c vs hlt hO hB hc hlen hcap hsz hcell hic hv ih =>
  intro _ _
  refine (VR.sdat tg sz xs cap blk o c vs hlt hO hB hc hlen hcap hsz hcell hic hv).conv (t := true) (fun x hx => .inl (h1 x hx)) (fun _ x hx => h1 x hx) (fun x hx => .inr hx) ?_
  simp only [dat, Bool.true_or, Bool.true_and]
  cases tg with
  | true => exact hc
  | false => exact datL_up hc
 | mref b cb hm =>
  intro _ h0
  cases h0 with
  | mref _ cb0 hm0 => exact .mref b cb (hM _ _ _ hm0 hm)
 | mdat tg ks us bs ck blk es hlt hO hB hck hcu hblk hlk hlu hlb hb hk hu ihk ihu =>
  intro _ _
  refine (VR.mdat tg ks us bs ck blk es hlt hO hB hck hcu hblk hlk hlu hlb hb hk hu).conv (t := true) (fun x hx => .inl (h1 x hx)) (fun _ x hx => h1 x hx) (fun x hx => .inr hx) ?_
  simp only [dat, Bool.true_or, Bool.true_and, Bool.and_eq_true]
  cases tg with
  | true => exact ⟨hck, hcu⟩
  | false => exact ⟨datL_up hck, datL_up hcu⟩
 | bnd f first vs hl hv ih =>
  intro _ h0
  cases h0 with
  | bnd _ _ vs0 hl0 hv0 => exact .bnd f first vs hl fun j a b => ih j a b (hv0 j a (by omega))
 | clo f cap vs hl hv ih =>
  intro _ h0
  cases h0 with
  | clo _ _ vs0 hl0 hv0 => exact .clo f cap vs hl fun j a b => ih j a b (hv0 j a (by omega))
 | ifc t v cv hv ih =>
  intro _ h0
  cases h0 with
  | ifc _ _ cv0 hv0 => exact .ifc t v cv (ih hv0)
 | agg cs vs hl hic hv ih =>
  intro _ h0
  cases h0 with
  | agg _ vs0 hl0 _ hv0 => exact .agg cs vs hl hic fun j a b => ih j a b (hv0 j a (by omega))
 | tup cs vs hl hv ih =>
  intro _ h0
  cases h0 with
  | tup _ vs0 hl0 hv0 => exact .tup cs vs hl fun j a b => ih j a b (hv0 j a (by omega))
theorem BlkR.two {O1 O2 : Nat → Prop} {M1 M2 : MapB} (h1 : ∀ x, O2 x → O1 x) (hM : ∀ b x y, M b = some x → M1 b = some y → M2 b = some y) {cb base cb0 base0 : Nat} {blk : Blk} (h : BlkR C w' O1 B M1 cb base blk) (h0 : BlkR C w O B M cb0 base0 blk) : BlkR C w' O2 B M2 cb base blk := by
 cases h with
 | cells e cs cc fz hblk hfz hfit hic hv =>
  cases h0 with
  | cells _ _ cc0 fz0 hblk0 hfz0 hfit0 hic0 hv0 =>
   exact .cells e cs cc fz hblk hfz hfit hic fun j hj h' => (hv j hj h').two h1 hM (hv0 j hj (by omega))
 | map ks us bs ck es hb0 hblk hlk hlu hlb hb hk hu =>
  cases h0 with
  | map _ _ _ _ es0 hb00 hblk0 hlk0 hlu0 hlb0 hb0' hk0 hu0 =>
   exact .map ks us bs ck es hb0 hblk hlk hlu hlb hb (fun j a b => (hk j a b).two h1 hM (hk0 j (by omega) b)) fun j a b => (hu j a b).two h1 hM (hu0 j (by omega) b)
 | siter s pos bs h hb hblk => exact .siter s pos bs h hb hblk
 | miter m cm a s l hm hn hb hblk =>
  cases h0 with
  | miter _ cm0 _ _ _ hm0 hn0 hb0 hblk0 =>
   exact .miter m cm a s l (fun b e => by
    obtain ⟨c, e1, e2⟩ := hm b e
    obtain ⟨c0, e3, e4⟩ := hm0 b e
    exact ⟨c, e1, hM b _ _ e4 e2⟩) hn hb hblk
theorem callHere_sound {call : CallF} (hcall : CallOk P C call) {st st2 : St} (hs : Sit C w O B M st.heap) (he : ∀ x, O x → x < w.heap.size) (hn : ∀ b, st.nxt ≤ b → M b = none) {f : FuncId} {args : List AV} {cargs : List Value}
  (ha : LR C w O B M args cargs) {v : AV} (h : callHere C call f args st = some (v, st2)) :
  FnOk P f cargs.toArray w fun cv w' => ∃ O' M', VR C w' O' B M' v cv ∧ Step C B true w O M st w' O' M' st2 := by
 unfold callHere at h
 simp only [Option.bind_eq_some_iff] at h
 obtain ⟨⟨r, st1⟩, hc, h⟩ := h
 refine (hcall f args _ r st1 hc w O B M cargs hs he hn ha).mono fun cv w' ⟨O1, M1, hv, k⟩ => ?_
 have hlt : ∀ b blk, hget st.heap b = some blk → b < st.nxt := fun b blk hb => by
  obtain ⟨cb, base, hM, _⟩ := hs.own b blk hb
  apply Nat.lt_of_not_le
  intro hle
  rw [hn b hle] at hM; cases hM
 have hcond : (bif Nat.ble st.nxt st1.low then True else False) → _ := fun hlow => by
  have hlow : st.nxt ≤ st1.low := by
   cases hq : Nat.ble st.nxt st1.low with
   | true => simpa using hq
   | false => rw [hq] at hlow; exact hlow.elim
  exact hlow
 have step2 : ∀ l, l ≤ st.low → (∀ b, b < l → st1.low ≤ b → st.nxt ≤ b) → Step C B true w O M st w' O1 M1 { st1 with low := l } := fun l h1 h2 =>
  ⟨k.ext, k.sit, k.map, k.nxt, h1, fun b hb hbl => k.kept b hb (by
   apply Nat.lt_of_not_le
   intro hle
   have := h2 b hbl hle
   exact absurd hb (by omega)), k.rest, k.lt, fun e => (by cases e)⟩
 cases hq : Nat.ble st.nxt st1.low with
 | false =>
  rw [hq] at h
  simp only [cond_false, Option.some.injEq, Prod.mk.injEq] at h
  obtain ⟨rfl, rfl⟩ := h
  exact ⟨O1, M1, hv, step2 _ (Nat.min_le_left _ _) (fun b h1 h2 => by omega)⟩
 | true =>
  have hlow : st.nxt ≤ st1.low := by simpa using hq
  rw [hq] at h
  simp only [cond_true] at h
  split at h
  ·rename_i x hx
   obtain rfl := Option.some.inj h
   have hkept : ∀ b blk, hget st.heap b = some blk → hget st1.heap b = some blk := fun b blk hb => by
    have := hlt b blk hb
    rw [k.kept b this (by omega)]; exact hb
   have hmap : ∀ b, b < st.nxt → M1 b = M b := fun b hb => k.map b (.inl hb)
   have hO1 : ∀ x, O x → O1 x := fun x hx => by
    by_cases him : Image M st.heap x
    ·obtain ⟨b, blk, base, hb, hM⟩ := him
     obtain ⟨cb', base', hM', hO', _⟩ := k.sit.own b blk (hkept b blk hb)
     rw [hmap b (hlt b blk hb), hM] at hM'
     obtain ⟨rfl, rfl⟩ := Prod.mk.inj (Option.some.inj hM')
     exact hO'
    ·exact (k.rest x hx (he x hx) him).2.1
   refine hand_sound (serial := true) hs k.sit hv hx ⟨k.ext.os, k.ext.tape, k.ext.output, k.ext.size, k.ext.keep, k.ext.shp, fun b h => .inl h, fun _ _ h => h⟩
    (fun x hx => .inl (hO1 x hx)) (fun x hx => hx) k.ext.own (fun b blk cb base hle hb hM hO => ?_) (fun b x hb hM => ⟨hb, by rw [← hmap b hb]; exact hM⟩) (fun b hb _ => hn b hb)
    (fun O2 M2 ho1 ho2 ho3 hm b blk hb => ?_) (fun e => (by cases e)) (fun cb h1 h2 h3 => (k.rest cb h1 h2 h3).1)
   ·by_cases him : Image M st.heap cb
    case neg => exact (k.rest cb hO (he cb hO) him).2.2 ⟨b, blk, base, hb, hM⟩
    obtain ⟨b0, blk0, base0, hb0, hM0⟩ := him
    have h0 := hlt b0 blk0 hb0
    have := k.sit.inj b b0 blk blk0 cb base base0 hb (hkept b0 blk0 hb0) hM (by rw [hmap b0 h0]; exact hM0)
    omega
   ·obtain ⟨cb, base, hM, _, hr0⟩ := hs.own b blk hb
    obtain ⟨cb', base', hM', _, hr1⟩ := k.sit.own b blk (hkept b blk hb)
    rw [hmap b (hlt b blk hb), hM] at hM'
    obtain ⟨rfl, rfl⟩ := Prod.mk.inj (Option.some.inj hM')
    refine ⟨cb, base, hM, hr1.two (fun x hx => ?_) (fun b x y h0 h1 => ?_) hr0⟩
    ·rcases ho1 x hx with h | hB
     ·exact h
     ·rcases ho2 x hx with h | hsz
      ·exact hO1 x h
      ·have := hs.bl x hB
       omega
    ·have hb : b < st.nxt := by
      apply Nat.lt_of_not_le
      intro hle
      rw [hn b hle] at h0; cases h0
     rw [hmap b hb] at h1
     exact hm b y h1
  ·simp only [Option.some.injEq, Prod.mk.injEq] at h
   obtain ⟨rfl, rfl⟩ := h
   exact ⟨O1, M1, hv, step2 _ (Nat.le_refl _) (fun b h1 h2 => by omega)⟩
theorem callData_sound {call : CallF} (hcall : CallOk P C call) {serial : Bool} {st st2 : St} (hs : Sit C w O B M st.heap) (hl : ∀ x, O x → x < w.heap.size) (hn : ∀ b, st.nxt ≤ b → b < st2.nxt → M b = none) {f : FuncId} {args : List AV} {cargs : List Value}
  (ha : LR C w O B M args cargs) {v : AV} (h : callData C call f args st = some (v, st2)) :
  FnOk P f cargs.toArray w fun cv w' => ∃ O' M', VR C w' O' B M' v cv ∧ Step C B serial w O M st w' O' M' st2 := by
 unfold callData at h
 simp only [Option.bind_eq_some_iff] at h
 obtain ⟨ds, hds, ⟨r, st1⟩, hc, h⟩ := h
 have hT : Tgt true O B M st.heap (fun _ => False) (fun x => O x ∨ B x) := ⟨fun _ h => h.elim, fun _ _ h => h.elim, fun _ h => h, fun _ _ _ _ _ _ => ⟨fun h => h, fun h => (by cases h)⟩⟩
 obtain ⟨hd, _, _⟩ := freezeL_sound (M2 := fun _ => none) hT (.of hs) deep ⟨ha.len, ha.rel⟩ hds
 have hs0 : Sit C w (fun _ => False) (fun x => O x ∨ B x) (fun _ => none) ({ heap := [], nxt := 0, low := 0 } : St).heap := by
  refine ⟨fun b blk h => by simp [hget] at h, fun b b' blk blk' _ _ _ h => by simp [hget] at h, fun g cs hg => ?_, fun _ h => h.elim, fun x h => h.elim (hl x) (hs.bl x)⟩
  have hg1 := hs.glob g cs hg
  obtain ⟨_, _, _, _, _, _, _, _, _, hdd⟩ := hg1.pdat_cells
  exact hg1.conv (t := false) (fun _ h => h.elim) (fun h => (by cases h)) (fun x h => h) (by simp [dat, hdd])
 refine (hcall f ds _ r st1 hc w _ _ _ cargs hs0 (fun cb h => h.elim) (fun b _ => rfl) ⟨hd.len, hd.rel⟩).mono fun cv w' ⟨O1, M1, hv, k⟩ => ?_
 have hown : ∀ x, O1 x → w.heap.size ≤ x := fun x hx => (k.ext.own x hx).resolve_left (fun h => h)
 have hkeep : ∀ b, b < w.heap.size → w'.heap[b]? = w.heap[b]? := fun b hb => k.ext.keep b hb (fun h => h)
 refine hand_sound (serial := serial) hs k.sit hv h ⟨k.ext.os, k.ext.tape, k.ext.output, k.ext.size, fun b hb _ => hkeep b hb, k.ext.shp, fun b h => .inl h, fun _ _ h => h⟩
  (fun x hx => .inr (.inl hx)) (fun x hx => .inr hx) (fun x hx => .inr (hown x hx)) (fun b blk cb base _ hb hM hO => ?_) (fun b x hb => by omega) hn
  (fun O2 M2 ho1 ho2 ho3 hm b blk hb => ?_) (fun _ => ⟨hkeep, hown⟩) (fun cb _ h2 _ => hkeep cb h2)
 ·obtain ⟨cb', base', hM', hO', _⟩ := k.sit.own b blk hb
  rw [hM] at hM'
  obtain ⟨rfl, rfl⟩ := Prod.mk.inj (Option.some.inj hM')
  have h1 := hown cb hO'
  have h2 := hl cb hO
  omega
 ·obtain ⟨cb, base, hM, _, hr0⟩ := hs.own b blk hb
  exact ⟨cb, base, hM, hr0.mono (⟨k.ext.os, k.ext.tape, k.ext.output, k.ext.size, fun b hb _ => hkeep b hb, k.ext.shp, ho2, hm⟩ : Ext w O M w' O2 M2) (hkeep cb (hs.lt hb hM))⟩
def PrimFns (P : Program) (C : Ctx) : Prop :=
 ∀ (f : FuncId) (φ : List AV → Option AV), C.prims f = some φ → ∀ (ds : List AV) (r : AV), φ ds = some r → ∀ (w : World) (B : Nat → Prop) (cargs : List Value), (∀ g cs, C.globs g = some cs → VR C w (fun _ => False) B (fun _ => none) (.pdat false cs) (.pointer (some ⟨g, 0, none⟩))) → (∀ b, B b → b < w.heap.size) →
  LR C w (fun _ => False) B (fun _ => none) ds cargs →
  FnOk P f cargs.toArray w fun cv w' => VR C w' (fun _ => False) B (fun _ => none) r cv ∧ Ext w (fun _ => False) (fun _ => none) w' (fun _ => False) (fun _ => none)
theorem callPrim_sound (hp : PrimFns P C) {serial : Bool} {st st2 : St} (hs : Sit C w O B M st.heap) (hl : ∀ x, O x → x < w.heap.size) {f : FuncId} {φ : List AV → Option AV} (hφ : C.prims f = some φ) {args : List AV} {cargs : List Value}
  (ha : LR C w O B M args cargs) {v : AV} (h : callPrim C φ args st = some (v, st2)) :
  FnOk P f cargs.toArray w fun cv w' => ∃ O' M', VR C w' O' B M' v cv ∧ Step C B serial w O M st w' O' M' st2 := by
 unfold callPrim at h
 simp only [Option.bind_eq_some_iff, Option.some.injEq, Prod.mk.injEq] at h
 obtain ⟨ds, hds, r, hr, _, hpl, rfl, rfl⟩ := h
 have hT : Tgt true O B M st.heap (fun _ => False) (fun x => O x ∨ B x) := ⟨fun _ h => h.elim, fun _ _ h => h.elim, fun _ h => h, fun _ _ _ _ _ _ => ⟨fun h => h, fun h => (by cases h)⟩⟩
 obtain ⟨hd, _, _⟩ := freezeL_sound (M2 := fun _ => none) hT (.of hs) deep ⟨ha.len, ha.rel⟩ hds
 refine (hp f φ hφ ds r hr w _ cargs (fun g cs hg => ?_) (fun x h => h.elim (hl x) (hs.bl x)) ⟨hd.len, hd.rel⟩).mono fun cv w' ⟨hv, hx⟩ => ?_
 ·have hg1 := hs.glob g cs hg
  obtain ⟨_, _, _, _, _, _, _, _, _, hdd⟩ := hg1.pdat_cells
  exact hg1.conv (t := false) (fun _ h => h.elim) (fun h => (by cases h)) (fun x h => h) (by simp [dat, hdd])
 ·have hkeep : ∀ b, b < w.heap.size → w'.heap[b]? = w.heap[b]? := fun b hb => hx.keep b hb (fun h => h)
  have hx' : Ext w O M w' O M := ⟨hx.os, hx.tape, hx.output, hx.size, fun b hb _ => hkeep b hb, hx.shp, fun _ h => .inl h, fun _ _ h => h⟩
  have hs' := hs.extend hx' (fun _ h => h) (fun b blk cb base hb hM => hkeep cb (hs.lt hb hM))
  refine ⟨O, M, hv.conv (t := false) (fun x hx => .inr (.inl hx)) (fun h => (by cases h)) (fun x hx => .inr (.inr hx)) (chk_some hpl), hx', hs', fun _ _ => rfl, Nat.le_refl _, Nat.le_refl _, fun _ _ _ => rfl, fun cb h1 h2 h3 => ⟨hkeep cb h2, h1, h3⟩, fun h x hx1 => Nat.lt_of_lt_of_le (h x hx1) hx.size, fun _ => ⟨hkeep, fun _ h => h, ⟨[], rfl, by simp, fun p h => by cases h⟩, fun b _ _ _ h1 h2 => by omega, fun cb h => .inl h⟩⟩
def ExtsOk (P : Program) (C : Ctx) : Prop := ∀ g e, C.ext g = some e → match e with
 | .mapsClone => ∀ (args : Array Value) (w : World), (callFunc g args).run P w = ((Extern.MapsClone.clone args).run P w).andThen fun v w' => .ok (.value v) w'
 | .overlaps => ∃ tS tR el, P.underlying tS = some (.slice el) ∧ (∃ i, C.ti el = some i) ∧ ∀ (args : Array Value) (w : World), (callFunc g args).run P w = ((Extern.SlicesOverlaps.overlaps #[tS, tS] #[tR] args).run P w).andThen fun v w' => .ok (.value v) w'
structure PrimsOk (P : Program) (C : Ctx) : Prop where
 prim : PrimFns P C
 ext : ExtsOk P C
theorem run_clone {r ck : Nat} {es : Array MapEntry} (t : TypeId) (hb : w.heap[r]? = some (.map es ck)) :
  (Extern.MapsClone.clone #[.iface t (.map (some r))]).run P w = .ok (.iface t (.map (some w.heap.size))) (w.alloc (.map es ck)) := by
 refine (Sem.run_bind (P := P) (w := w) (getObj r) _).trans ?_
 rw [run_getMap hb]
 refine (Sem.run_bind (P := P) (w := w) (newObj _) _).trans ?_
 rw [run_newObjA]
 rfl
theorem run_overlaps (tS tR el : TypeId) (ht : P.underlying tS = some (.slice el)) {size : Nat} (hz : ∀ w, (sizeOf el).run P w = .ok size w) (a b : Option Addr) (la ca lb cb : Nat)
    (h : a = none ∨ b = none ∨ la = 0 ∨ lb = 0 ∨ ∃ ad bd, a = some ad ∧ b = some bd ∧ ad.block ≠ bd.block ∧ ∃ tA tB kA kB, w.shape? ad.block = some (tA, kA) ∧ w.shape? bd.block = some (tB, kB + 1) ∧ w.frozen? ad = false ∧ w.frozen? { block := ad.block, off := kA } = false) :
    (Extern.SlicesOverlaps.overlaps #[tS, tS] #[tR] #[.slice a la ca, .slice b lb cb]).run P w = .ok (.bool false) w := by
  rcases h with h | h | h | h | ⟨ad, bd, rfl, rfl, hne, tA, tB, kA, kB, hsa, hsb, hfa, hfe⟩
  case inr.inr.inr.inr => exact Lib.run_overlaps_apart w tS tR el ht size hz ad bd la ca lb cb hne tA tB kA (kB + 1) hsa hsb (by omega) hfa hfe
  all_goals
    refine (Sem.run_bind (P := P) (w := w) (underlying tS) _).trans ?_
    rw [run_underlying ht]
    refine (Sem.run_bind (P := P) (w := w) (sizeOf el) _).trans ?_
    rw [hz]
    simp only [Result.andThen_ok]
    first
      | (subst h; rfl)
      | (subst h; cases a <;> rfl)
      | (cases a <;> cases b <;> first
          | rfl
          | (dsimp only; rw [if_pos (by omega)]; rfl))
theorem evExtern_sound (hT : TyOk P C) (hE : ExtsOk P C) {serial : Bool} {st st2 : St} (hs : Sit C w O B M st.heap) (hn : ∀ b, st.nxt ≤ b → b < st2.nxt → M b = none) {g : FuncId} {e : Extern} (hg : C.ext g = some e) {args : List AV} {cargs : List Value}
  (ha : LR C w O B M args cargs) {v : AV} (h : evExtern C e args st = some (v, st2)) :
  FnOk P g cargs.toArray w fun cv w' => ∃ O' M', VR C w' O' B M' v cv ∧ Step C B serial w O M st w' O' M' st2 := by
 have hg2 := hE g e hg
 intro o a next Q hnext
 unfold evExtern at h
 split at h
 ·rename_i t m
  obtain ⟨c, hc⟩ := List.length_eq_one_iff.1 ha.len
  subst hc
  have h0 := ha.rel 0 (by simp) (by simp)
  simp only [List.getElem_cons_zero] at h0
  cases h0 with
  | ifc _ _ cm hm =>
   split at h
   ·cases h
   ·rename_i m' hne
    simp only [Option.bind_eq_some_iff, Option.some.injEq, Prod.mk.injEq] at h
    obtain ⟨⟨ks, us, bs, ck⟩, hmo, rfl, rfl⟩ := h
    obtain ⟨es, hl, hcx⟩ := mapOf_sound hs hm hmo
    rcases hcx with ⟨rfl, _⟩ | ⟨r, rfl, hblk⟩
    ·cases hm
     exact absurd rfl hne
    ·rw [hg2]
     rw [run_clone t hblk]
     have hst := step_newMap (serial := serial) (st := st) hs (hn _ (Nat.le_refl _) (by simp [St.new])) (ck := ck) hl
     exact hnext _ _ ⟨_, _, .ifc t _ _ hst.1, hst.2⟩
 ·rename_i x y
  obtain ⟨tS, tR, el, hu, ⟨i, hi⟩, hcall⟩ := hg2
  obtain ⟨b, hb, e2⟩ := Option.map_eq_some_iff.1 h
  simp only [Prod.mk.injEq] at e2
  obtain ⟨rfl, rfl⟩ := e2
  obtain ⟨c1, c2, hc⟩ := list_two ha.len
  subst hc
  have hx := ha.rel 0 (by simp) (by simp)
  have hy := ha.rel 1 (by simp) (by simp)
  simp only [List.getElem_cons_zero, List.getElem_cons_succ] at hx hy
  have hz : ∀ w : World, (sizeOf el).run P w = .ok i.info.size w := fun w => run_sizeOf (hT.ty el i hi).2
  have fin : b = false → (∃ a la ca b lb cb, c1 = .slice a la ca ∧ c2 = .slice b lb cb ∧ (a = none ∨ b = none ∨ la = 0 ∨ lb = 0 ∨ ∃ ad bd, a = some ad ∧ b = some bd ∧ ad.block ≠ bd.block ∧ ∃ tA tB kA kB, w.shape? ad.block = some (tA, kA) ∧ w.shape? bd.block = some (tB, kB + 1) ∧ w.frozen? ad = false ∧ w.frozen? { block := ad.block, off := kA } = false)) →
    o.upon P a next Q ((callFunc g [c1, c2].toArray).run P w) := fun hbf ⟨aa, la, ca, bb, lb, cb, e1, e2, hh⟩ => by
   subst hbf; subst e1; subst e2
   rw [hcall]
   rw [show ([Value.slice aa la ca, Value.slice bb lb cb] : List Value).toArray = #[Value.slice aa la ca, Value.slice bb lb cb] from rfl, run_overlaps tS tR el hu hz aa bb la ca lb cb hh]
   exact hnext _ _ ⟨O, M, .bool _, .refl hs⟩
  unfold mOverlaps at hb
  split at hb
  ·cases hx; cases hy
   exact fin (Option.some.inj hb).symm ⟨_, _, _, _, _, _, rfl, rfl, .inl rfl⟩
  ·cases hx
   obtain ⟨cb, base, c, e1, i1, cc, fz, rfl, _⟩ := hy.sref_inv
   exact fin (Option.some.inj hb).symm ⟨_, _, _, _, _, _, rfl, rfl, .inl rfl⟩
  ·cases hy
   obtain ⟨cb, base, c, e1, i1, cc, fz, rfl, _⟩ := hx.sref_inv
   exact fin (Option.some.inj hb).symm ⟨_, _, _, _, _, _, rfl, rfl, .inr (.inl rfl)⟩
  ·rename_i b1 o1 l1 k1 b2 o2 l2 k2
   obtain ⟨cb, base, c, e1, i1, cc, fz, rfl, hM1, hblk1, _⟩ := hx.sref_inv
   obtain ⟨cb', base', c', e1', i1', cc', fz', rfl, hM2, hblk2, _⟩ := hy.sref_inv
   cases hq : (Nat.beq l1 0 || Nat.beq l2 0) with
   | true =>
    rw [hq] at hb
    simp only [cond_true, Option.some.injEq] at hb
    simp only [Bool.or_eq_true, beq_iff] at hq
    exact fin hb.symm ⟨_, _, _, _, _, _, rfl, rfl, by rcases hq with h | h; exact .inr (.inr (.inl h)); exact .inr (.inr (.inr (.inl h)))⟩
   | false =>
    rw [hq] at hb
    simp only [cond_false, Option.bind_eq_some_iff, Option.some.injEq] at hb
    obtain ⟨⟨ea, csa⟩, hca, ⟨eb, csb⟩, hcb, _, hch, hbf⟩ := hb
    have hch := chk_some hch
    simp only [Bool.and_eq_true, Bool.not_eq_true', Nat.blt_eq] at hch
    obtain ⟨⟨hne, hpos⟩, hnb⟩ := hch
    obtain ⟨cca, fza, hba, hfza, hfita, _⟩ := hs.cells hca hM1
    obtain ⟨ccb, fzb, hbb, hfzb, hfitb, _⟩ := hs.cells hcb hM2
    have hneq : cb ≠ cb' := fun e => by
     subst e
     have := hs.inj b1 b2 _ _ _ _ _ (hcells_some hca) (hcells_some hcb) hM1 hM2
     rw [this, (beq_iff _ _).2 rfl] at hne
     cases hne
    have hfz : fza.1 = fza.2 := by
     rcases hfza with h | ⟨_, h⟩
     ·exact h
     ·unfold isByte at hnb; rw [h] at hnb; cases hnb
    obtain ⟨kb, hkb⟩ : ∃ kb, ccb.size = kb + 1 := ⟨ccb.size - 1, by omega⟩
    refine fin hbf.symm ⟨_, _, _, _, _, _, rfl, rfl, .inr (.inr (.inr (.inr ⟨_, _, rfl, rfl, hneq, ea, eb, cca.size, kb, ?_, ?_, ?_, ?_⟩)))⟩
    ·simp [World.shape?, hba]
    ·simp [World.shape?, hbb, hkb]
    ·simp only [World.frozen?, hba, Bool.and_eq_false_iff, decide_eq_false_iff_not]; omega
    ·simp only [World.frozen?, hba, Bool.and_eq_false_iff, decide_eq_false_iff_not]; omega
  ·cases hb
 ·cases h
end
end Go.Ev
