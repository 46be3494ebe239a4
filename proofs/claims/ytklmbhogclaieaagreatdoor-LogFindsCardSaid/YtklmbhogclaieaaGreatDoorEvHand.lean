/- A PART OF THE PROOF THAT ONE CALL OF A LAW OF LAYER 46 (which of any patches have a line with any word) returns true, whatever the input; the input reads as it did. No condition beyond the given statement. This part: EvHand. -/
import Derived.Test.YtklmbhogclaieaaGreatDoorEvImp2
namespace Go.Ev
open Go

theorem hget_none {H : Heap} {b : Nat} (h : ∀ p ∈ H, p.1 ≠ b) : hget H b = none := by
  cases hq : hget H b with
  | none => rfl
  | some x => exact absurd rfl (h _ (hget_mem hq))

theorem tops_liveP {C : Ctx} {H H1 : Heap} {lim : Nat} : ∀ {l l' : List AV}, portP C H H1 lim l = some l' → ∀ b ∈ tops lim (flat l), ∃ blk, hget H b = some blk
  | [], l', h, b, hb => by simp [flat, tops] at hb
  | v :: r, l', h, b, hb => by
    by_cases hagg : ∃ cs, v = .agg cs
    · obtain ⟨cs, rfl⟩ := hagg
      simp only [portP, Option.bind_eq_some_iff, Option.some.injEq] at h
      obtain ⟨x, hx, xs, hxs, rfl⟩ := h
      have hfl : flat (.agg cs :: r) = cs ++ flat r := rfl
      rw [hfl, tops_append] at hb
      rcases List.mem_append.1 hb with hb | hb
      · exact tops_live hx b hb
      · exact tops_liveP hxs b hb
    · have hne : ∀ cs, v ≠ .agg cs := fun cs e => hagg ⟨cs, e⟩
      rw [portP_cons r hne] at h
      simp only [Option.bind_eq_some_iff, Option.some.injEq] at h
      obtain ⟨x, hx, xs, hxs, rfl⟩ := h
      rw [flat_cons r hne, tops_append] at hb
      rcases List.mem_append.1 hb with hb | hb
      · refine tops_live (l := [v]) (l' := [x]) (H1 := H1) (C := C) ?_ b hb
        simp [portL, hx]
      · exact tops_liveP hxs b hb

theorem impC_shift (v : AV) (n m : Nat) : (impC (n + m) v).2.2 = (impC n v).2.2 + m := by
  cases v <;> simp only [impC] <;> omega

theorem impL_shift : ∀ (l : List AV) (n m : Nat), (impL (n + m) l).2.2 = (impL n l).2.2 + m
  | [], _, _ => rfl
  | v :: r, n, m => by
    simp only [impL]
    rw [impC_shift, impL_shift]

theorem impP_shift : ∀ (l : List AV) (n m : Nat), (impP (n + m) l).2.2 = (impP n l).2.2 + m
  | [], _, _ => rfl
  | v :: r, n, m => by
    by_cases hagg : ∃ cs, v = .agg cs
    · obtain ⟨cs, rfl⟩ := hagg
      simp only [impP]
      rw [impL_shift, impP_shift]
    · have hne : ∀ cs, v ≠ .agg cs := fun cs e => hagg ⟨cs, e⟩
      rw [impP_cons _ r hne, impP_cons _ r hne]
      simp only
      rw [impC_shift, impP_shift]

/-- where the blocks lie once a result is handed out -/
def mapI (M : MapB) (n : Nat) (is : List (Nat × Nat)) : MapB := fun b => if n ≤ b ∧ b < n + is.length then is[b - n]? else M b
def ownI (O : Nat → Prop) (is : List (Nat × Nat)) : Nat → Prop := fun x => O x ∨ ∃ p ∈ is, p.1 = x

section
variable {P : Program} {C : Ctx}

/-- A RESULT IS HANDED OUT. -/
theorem hand_sound {serial : Bool} {w w' : World} {O B Oc Bc : Nat → Prop} {M Mc : MapB} {Hc : Heap} {lim : Nat} {st st2 : St} {r u : AV} {cv : Value}
    (hs : Sit C w O B M st.heap) (hc : Sit C w' Oc Bc Mc Hc) (hv : VR C w' Oc Bc Mc r cv) (h : hand C Hc lim r st = some (u, st2))
    (hx : Ext w O M w' O M) (hO : ∀ x, O x → Oc x ∨ Bc x) (hB : ∀ x, B x → Bc x) (hOc : ∀ x, Oc x → O x ∨ w.heap.size ≤ x)
    (hfar : ∀ b blk cb base, lim ≤ b → hget Hc b = some blk → Mc b = some (cb, base) → ¬ O cb)
    (hMc : ∀ b x, b < lim → Mc b = some x → b < st.nxt ∧ M b = some x)
    (hMn : ∀ b, st.nxt ≤ b → b < st2.nxt → M b = none)
    (hcal : ∀ (O2 : Nat → Prop) (M2 : MapB), (∀ x, O2 x → Oc x ∨ Bc x) → (∀ x, O2 x → O x ∨ w.heap.size ≤ x) → (∀ x, O x → O2 x) → (∀ b x, M b = some x → M2 b = some x) → ∀ b blk, hget st.heap b = some blk → ∃ cb base, M b = some (cb, base) ∧ BlkR C w' O2 B M2 cb base blk)
    (hst : serial = false → (∀ b, b < w.heap.size → w'.heap[b]? = w.heap[b]?) ∧ ∀ x, Oc x → w.heap.size ≤ x)
    (hrest : ∀ cb, O cb → cb < w.heap.size → ¬ Image M st.heap cb → w'.heap[cb]? = w.heap[cb]?) :
    ∃ O2 M2, VR C w' O2 B M2 u cv ∧ Step C B serial w O M st w' O2 M2 st2 := by
  unfold hand at h
  simp only [Option.bind_eq_some_iff, Option.some.injEq, Prod.mk.injEq] at h
  obtain ⟨_, hnd, l, hl, u', hu, rfl, rfl⟩ := h
  have hnd := noDup_iff (chk_some hnd)
  obtain ⟨vs, hlr, hback⟩ := parts_rel hv
  have hlive := tops_liveP hl
  generalize hI : imgs lim Mc (flat (parts r)) = is at *
  have hlenI : is.length = (tops lim (flat (parts r))).length := by rw [← hI]; exact imgs_length lim Mc _
  -- each image
  have himg : ∀ k (hk : k < is.length), ∃ b blk base, ∃ hk' : k < (tops lim (flat (parts r))).length, (tops lim (flat (parts r)))[k] = b ∧ lim ≤ b ∧ hget Hc b = some blk ∧ Mc b = some (is[k].1, base) ∧ Oc is[k].1 := by
    intro k hk
    have hk' : k < (tops lim (flat (parts r))).length := by rw [← hlenI]; exact hk
    obtain ⟨blk, hb⟩ := hlive _ (List.getElem_mem hk')
    obtain ⟨cb, base, hM, hOc', _⟩ := hc.own _ _ hb
    obtain ⟨h1, h2⟩ := imgs_get lim Mc (flat (parts r)) k (by rw [hI]; exact hk) hk'
    have h3 := h2 cb base hM
    have h4 : is[k].1 = cb := by rw [← h3]; congr 1; simp only [hI]
    exact ⟨_, blk, base, hk', rfl, h1, hb, by rw [h4]; exact hM, by rw [h4]; exact hOc'⟩
  have hO2c : ∀ x, ownI O is x → Oc x ∨ Bc x := fun x hx => by
    rcases hx with hx | ⟨p, hp, rfl⟩
    · exact hO x hx
    · obtain ⟨k, hk, rfl⟩ := List.getElem_of_mem hp
      obtain ⟨_, _, _, _, _, _, _, _, h⟩ := himg k hk
      exact .inl h
  have hO2o : ∀ x, ownI O is x → O x ∨ w.heap.size ≤ x := fun x hx => by
    rcases hx with hx | ⟨p, hp, rfl⟩
    · exact .inl hx
    · obtain ⟨k, hk, rfl⟩ := List.getElem_of_mem hp
      obtain ⟨_, _, _, _, _, _, _, _, h⟩ := himg k hk
      exact hOc _ h
  have hT : Tgt false Oc Bc Mc (hdels (fresh lim Hc) (tops lim (flat (parts r)))) (ownI O is) B := by
    refine ⟨hO2c, fun h => (by cases h), fun x hx => .inr (hB x hx), fun b blk cb base hb hM => ?_⟩
    obtain ⟨hb, hnot⟩ := hget_hdels hb
    obtain ⟨hb, hle⟩ := hget_fresh hb
    obtain ⟨cb', base', hM', hOb, _⟩ := hc.own b blk hb
    rw [hM] at hM'
    obtain ⟨rfl, rfl⟩ := Prod.mk.inj (Option.some.inj hM')
    refine ⟨fun h2 => ?_, fun _ hBb => hc.sep cb hOb (hB _ hBb)⟩
    rcases h2 with h2 | ⟨p, hp, he⟩
    · exact hfar b blk cb base hle hb hM h2
    · obtain ⟨k, hk, rfl⟩ := List.getElem_of_mem hp
      obtain ⟨b1, blk1, base1, hk', e1, _, hb1, hM1, _⟩ := himg k hk
      rw [he] at hM1
      have := hc.inj b b1 blk blk1 cb base base1 hb hb1 hM hM1
      exact hnot (by rw [this, ← e1]; exact List.getElem_mem hk')
  have hLies : Lies C w' Oc Bc Mc (hdels (fresh lim Hc) (tops lim (flat (parts r)))) := by
    refine ⟨fun b e cs cb base hb hM => ?_, fun b ks us bs ck cb base hb hM => ?_⟩
    · have h1 := hcells_some hb
      have h2 := (hget_fresh (hget_hdels h1).1).1
      have : hcells Hc b = some (e, cs) := by unfold hcells; rw [h2]
      exact (Lies.of hc).1 b e cs cb base this hM
    · have h1 := hmap_some hb
      have h2 := (hget_fresh (hget_hdels h1).1).1
      have : hmap Hc b = some (ks, us, bs, ck) := by unfold hmap; rw [h2]
      exact (Lies.of hc).2 b ks us bs ck cb base this hM
  have hM2 : ∀ k (hk : k < (imgs lim Mc (flat (parts r))).length), mapI M st.nxt is (st.nxt + k) = some (imgs lim Mc (flat (parts r)))[k] := by
    intro k hk
    have hk2 : k < is.length := by rw [← hI]; exact hk
    have e1 : st.nxt + k - st.nxt = k := by omega
    simp only [mapI, hI]
    rw [if_pos (by omega), e1, List.getElem?_eq_getElem hk2]
  have hn' : (impP st.nxt l).2.2 = st.nxt + is.length → ∀ b x, M b = some x → mapI M st.nxt is b = some x := fun hn b x hb => by
    unfold mapI
    rw [if_neg]
    · exact hb
    · intro hc
      have := hMn b hc.1 (by rw [hn]; exact hc.2)
      rw [this] at hb; cases hb
  -- the length of what is made, first
  have hlenP : (impP st.nxt l).2.2 = st.nxt + is.length := by
    have hT0 : Tgt false Oc Bc Mc (hdels (fresh lim Hc) (tops lim (flat (parts r)))) (fun x => ∃ p ∈ is, p.1 = x) B := ⟨fun x hx => hO2c x (.inr hx), fun h => (by cases h), hT.s2, fun b blk cb base hb hM => ⟨fun h => (hT.s3 b blk cb base hb hM).1 (.inr h), (hT.s3 b blk cb base hb hM).2⟩⟩
    have := (portP_sound (M2 := fun b => if b < lim then Mc b else (if st.nxt + lim ≤ b then is[b - (st.nxt + lim)]? else none)) hc hT0 hLies (fun b x hb hm => by rw [if_pos hb]; exact hm) (st.nxt + lim) hlr hl (fun k hk => by
      have hk2 : k < is.length := by rw [← hI]; exact hk
      simp only [hI]
      rw [if_neg (by omega), if_pos (by omega)]
      have : st.nxt + lim + k - (st.nxt + lim) = k := by omega
      rw [this, List.getElem?_eq_getElem hk2])).2.1
    rw [hI] at this
    have hsh := impP_shift l st.nxt lim
    rw [this] at hsh
    omega
  have hsub := hn' hlenP
  have hold : ∀ b x, b < lim → Mc b = some x → mapI M st.nxt is b = some x := fun b x hb hm => hsub b x (hMc b x hb hm).2
  obtain ⟨hLR, _, hNew⟩ := portP_sound (M2 := mapI M st.nxt is) hc hT hLies hold st.nxt hlr hl hM2
  have hxf : Ext w O M w' (ownI O is) (mapI M st.nxt is) := ⟨hx.os, hx.tape, hx.output, hx.size, hx.keep, hx.shp, hO2o, hsub⟩
  have hold' : ∀ b blk, hget st.heap b = some blk → hget (impP st.nxt l).2.1 b = none := fun b blk hb => by
    obtain ⟨cb, base, hM, _⟩ := hs.own b blk hb
    refine hget_none fun p hp he => ?_
    have := hNew.rng p hp
    subst he
    rw [hMn p.1 this.1 this.2] at hM
    cases hM
  have hgetB : ∀ b blk, hget st.heap b = some blk → hget ((impP st.nxt l).2.1 ++ st.heap) b = some blk := fun b blk hb => by
    rw [hget_append, hold' b blk hb]; exact hb
  have hnew2 : ∀ b, st.nxt ≤ b → b < st.nxt + is.length → ∃ hk : b - st.nxt < is.length, mapI M st.nxt is b = some is[b - st.nxt] := fun b h1 h2 => by
    have hk : b - st.nxt < is.length := by omega
    exact ⟨hk, by unfold mapI; rw [if_pos ⟨h1, h2⟩, List.getElem?_eq_getElem hk]⟩
  have hcase : ∀ b blk, hget ((impP st.nxt l).2.1 ++ st.heap) b = some blk → (∃ cb base, (st.nxt ≤ b ∧ b < st.nxt + is.length) ∧ hget (impP st.nxt l).2.1 b = some blk ∧ mapI M st.nxt is b = some (cb, base) ∧ BlkR C w' (ownI O is) B (mapI M st.nxt is) cb base blk) ∨ hget st.heap b = some blk := fun b blk hb => by
    rw [hget_append] at hb
    cases hq : hget (impP st.nxt l).2.1 b with
    | some y =>
      rw [hq] at hb
      cases hb
      obtain ⟨cb, base, h1, h2⟩ := hNew.blk b blk hq
      have := hNew.rng _ (hget_mem hq)
      exact .inl ⟨cb, base, by rw [← hlenP]; exact this, rfl, h1, h2⟩
    | none => rw [hq] at hb; exact .inr hb
  have hSit : Sit C w' (ownI O is) B (mapI M st.nxt is) ((impP st.nxt l).2.1 ++ st.heap) := by
    refine ⟨fun b blk hb => ?_, fun b b' blk blk' cb base base' hb hb' hM hM' => ?_, fun g cs hg => ?_, fun x hx hBx => ?_, fun x hx => hc.bl x (hB x hx)⟩
    · rcases hcase b blk hb with ⟨cb, base, hr, _, hM, hR⟩ | hb
      · refine ⟨cb, base, hM, ?_, hR⟩
        obtain ⟨hk, h2⟩ := hnew2 b hr.1 hr.2
        rw [hM] at h2
        exact .inr ⟨_, List.getElem_mem hk, by rw [← Option.some.inj h2]⟩
      · obtain ⟨cb, base, hM, hR⟩ := hcal (ownI O is) (mapI M st.nxt is) hO2c hO2o (fun x h => .inl h) hsub b blk hb
        obtain ⟨cb', base', hM', hOb, _⟩ := hs.own b blk hb
        rw [hM] at hM'
        obtain ⟨rfl, rfl⟩ := Prod.mk.inj (Option.some.inj hM')
        exact ⟨cb, base, hsub b _ hM, .inl hOb, hR⟩
    · rcases hcase b blk hb with ⟨_, _, hr, _, _, _⟩ | hb1 <;> rcases hcase b' blk' hb' with ⟨_, _, hr', _, _, _⟩ | hb1'
      · obtain ⟨hk, h2⟩ := hnew2 b hr.1 hr.2
        obtain ⟨hk', h2'⟩ := hnew2 b' hr'.1 hr'.2
        rw [hM] at h2; rw [hM'] at h2'
        obtain ⟨b1, blk1, base1, hk1, e1, _, hb1, hM1, _⟩ := himg _ hk
        obtain ⟨b2, blk2, base2, hk2, e2, _, hb2, hM2', _⟩ := himg _ hk'
        rw [← Option.some.inj h2] at hM1
        rw [← Option.some.inj h2'] at hM2'
        have := hc.inj b1 b2 blk1 blk2 cb base1 base2 hb1 hb2 hM1 hM2'
        rw [← e1, ← e2] at this
        have := (List.getElem_inj hnd).1 this
        omega
      · exfalso
        obtain ⟨hk, h2⟩ := hnew2 b hr.1 hr.2
        rw [hM] at h2
        obtain ⟨b1, blk1, base1, hk1, e1, hle1, hbb1, hM1, _⟩ := himg _ hk
        rw [← Option.some.inj h2] at hM1
        obtain ⟨cb', bs', hM2', hOb, _⟩ := hs.own b' blk' hb1'
        have := hsub b' _ hM2'
        rw [hM'] at this
        obtain ⟨rfl, rfl⟩ := Prod.mk.inj (Option.some.inj this)
        exact hfar b1 blk1 cb base1 hle1 hbb1 hM1 hOb
      · exfalso
        obtain ⟨hk, h2⟩ := hnew2 b' hr'.1 hr'.2
        rw [hM'] at h2
        obtain ⟨b1, blk1, base1, hk1, e1, hle1, hbb1, hM1, _⟩ := himg _ hk
        rw [← Option.some.inj h2] at hM1
        obtain ⟨cb', bs', hM2', hOb, _⟩ := hs.own b blk hb1
        have := hsub b _ hM2'
        rw [hM] at this
        obtain ⟨rfl, rfl⟩ := Prod.mk.inj (Option.some.inj this)
        exact hfar b1 blk1 cb base1 hle1 hbb1 hM1 hOb
      · obtain ⟨c1, bs1, hM1, _⟩ := hs.own b blk hb1
        obtain ⟨c2, bs2, hM2', _⟩ := hs.own b' blk' hb1'
        have e1 := hsub b _ hM1
        have e2 := hsub b' _ hM2'
        rw [hM] at e1; rw [hM'] at e2
        obtain ⟨rfl, rfl⟩ := Prod.mk.inj (Option.some.inj e1)
        obtain ⟨rfl, rfl⟩ := Prod.mk.inj (Option.some.inj e2)
        exact hs.inj b b' blk blk' _ _ _ hb1 hb1' hM1 hM2'
    · have hg1 := hc.glob g cs hg
      obtain ⟨_, _, _, _, _, _, _, _, _, hd⟩ := hg1.pdat_cells
      exact hg1.conv (t := false) hO2c (fun h => (by cases h)) (fun x hx => .inr (hB x hx)) (by simp [dat, hd])
    · rcases hx with hx | ⟨p, hp, rfl⟩
      · exact hs.sep x hx hBx
      · obtain ⟨k, hk, rfl⟩ := List.getElem_of_mem hp
        obtain ⟨_, _, _, _, _, _, _, _, h⟩ := himg k hk
        exact hc.sep _ h (hB _ hBx)
  refine ⟨ownI O is, mapI M st.nxt is, hback _ _ _ _ _ hLR hu, hxf, hSit, fun b hb => ?_, ?_, Nat.le_refl _, fun b hb _ => ?_, fun cb hO1 hlt hni => ⟨hrest cb hO1 hlt hni, .inl hO1, fun ⟨b, blk, base, hb, hM⟩ => ?_⟩, fun h x hx1 => ?_, fun hse => ?_⟩
  · unfold mapI
    simp only [hlenP] at hb
    rw [if_neg (by omega)]
  · simp only [hlenP]; omega
  · show hget ((impP st.nxt l).2.1 ++ st.heap) b = _
    rw [hget_append, hget_none fun p hp he => by have := hNew.rng p hp; omega]
  · have hb : hget ((impP st.nxt l).2.1 ++ st.heap) b = some blk := hb
    rcases hcase b blk hb with ⟨_, _, hr, _, _, _⟩ | hb1
    · obtain ⟨hk, h2⟩ := hnew2 b hr.1 hr.2
      rw [hM] at h2
      obtain ⟨b1, blk1, base1, hk1, e1, hle1, hbb1, hM1, _⟩ := himg _ hk
      rw [← Option.some.inj h2] at hM1
      exact hfar b1 blk1 cb base1 hle1 hbb1 hM1 hO1
    · obtain ⟨c1, bs1, hM1, _⟩ := hs.own b blk hb1
      have e1 := hsub b _ hM1
      rw [hM] at e1
      obtain ⟨rfl, rfl⟩ := Prod.mk.inj (Option.some.inj e1)
      exact hni ⟨b, blk, _, hb1, hM1⟩
  · rcases hx1 with hx1 | ⟨p, hp, rfl⟩
    · exact Nat.lt_of_lt_of_le (h x hx1) hx.size
    · obtain ⟨k, hk, rfl⟩ := List.getElem_of_mem hp
      obtain ⟨b1, blk1, base1, _, _, _, hbb1, hM1, _⟩ := himg k hk
      exact hc.lt hbb1 hM1
  · obtain ⟨h1, h2⟩ := hst hse
    refine ⟨h1, fun x h => .inl h, ⟨(impP st.nxt l).2.1, rfl, hNew.len, hNew.rng⟩, fun b cb base blk hb1 hb2 _ hM => ?_, fun cb hcb => ?_⟩
    · simp only [hlenP] at hb2
      obtain ⟨hk, h3⟩ := hnew2 b hb1 hb2
      rw [hM] at h3
      obtain ⟨_, _, _, _, _, _, _, _, h4⟩ := himg _ hk
      rw [← Option.some.inj h3] at h4
      exact h2 _ h4
    · rcases hcb with hcb | ⟨p, hp, rfl⟩
      · exact .inl hcb
      · obtain ⟨k, hk, rfl⟩ := List.getElem_of_mem hp
        obtain ⟨x, hx2⟩ := hNew.all (st.nxt + k) (by omega) (by omega)
        obtain ⟨hk2, h3⟩ := hnew2 (st.nxt + k) (by omega) (by omega)
        refine .inr ⟨st.nxt + k, x, is[k].2, by omega, by simp only [hlenP]; omega, by show hget (_ ++ _) _ = _; rw [hget_append, hx2], ?_⟩
        rw [h3]
        congr 2
        simp

end
end Go.Ev
