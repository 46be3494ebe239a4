/- A PART OF THE PROOF THAT SAVETEXTS HOLDS FOR EVERY INPUT OF BULK AT MOST 1048576. No condition beyond the given statement. This part: EvImp2. -/
import Derived.Test.YtciahohaonhdgaaGreatDoorEvPort
namespace Go.Ev
open Go
section
variable {C : Ctx} {w : World} {Oc Bc : Nat → Prop} {Mc : MapB} {Hc H1 : Heap} {O2 B2 : Nat → Prop} {M2 : MapB} {lim : Nat}
theorem freeze_agg {t : Bool} {d : Nat} {c x : AV} (h : freeze C H1 t d c = some x) (hc : ∀ cs, c ≠ .agg cs) : ∀ cs, x ≠ .agg cs := by
 intro cs e
 subst e
 cases d with
 | zero => simp [freeze] at h
 | succ d =>
  cases c <;> simp only [freeze, Option.bind_eq_some_iff, Option.some.injEq] at h <;> first
   | exact absurd rfl (hc _)
   | (cases h; done)
   | (obtain ⟨_, _, h⟩ := h; cases h; done)
   | (obtain ⟨_, _, _, _, h⟩ := h; cases h; done)
   | (obtain ⟨_, _, _, _, _, _, h⟩ := h; cases h; done)
   | (obtain ⟨_, _, _, _, _, _, _, _, h⟩ := h; cases h; done)
theorem portC_agg {c x : AV} (h : portC C Hc H1 lim c = some x) (hc : ∀ cs, c ≠ .agg cs) : ∀ cs, x ≠ .agg cs := by
 unfold portC at h
 split at h
 ·rename_i b off len cap
  cases hq : Nat.ble lim b <;> rw [hq] at h
  ·simp only [cond_false, Option.some.injEq] at h
   subst h; intro cs e; cases e
  ·simp only [cond_true, Option.bind_eq_some_iff, Option.some.injEq] at h
   obtain ⟨_, _, _, _, _, _, _, _, rfl⟩ := h
   intro cs e; cases e
 ·rename_i b
  cases hq : Nat.ble lim b <;> rw [hq] at h
  ·simp only [cond_false, Option.some.injEq] at h
   subst h; intro cs e; cases e
  ·simp only [cond_true, Option.bind_eq_some_iff, Option.some.injEq] at h
   obtain ⟨_, _, _, _, _, _, rfl⟩ := h
   intro cs e; cases e
 ·simp only [Option.bind_eq_some_iff, Option.some.injEq] at h
  obtain ⟨_, _, rfl⟩ := h
  intro cs e; cases e
 ·exact freeze_agg h hc
theorem impP_cons (n : Nat) {c : AV} (r : List AV) (hc : ∀ cs, c ≠ .agg cs) : impP n (c :: r) = ((impC n c).1 :: (impP (impC n c).2.2 r).1, (impP (impC n c).2.2 r).2.1 ++ (impC n c).2.1, (impP (impC n c).2.2 r).2.2) := by
 cases c <;> first | rfl | exact absurd rfl (hc _)
theorem portP_cons {c : AV} (r : List AV) (hc : ∀ cs, c ≠ .agg cs) : portP C Hc H1 lim (c :: r) = (portC C Hc H1 lim c).bind fun x => (portP C Hc H1 lim r).bind fun xs => some (x :: xs) := by
 cases c <;> first | rfl | exact absurd rfl (hc _)
theorem flat_cons {c : AV} (r : List AV) (hc : ∀ cs, c ≠ .agg cs) : flat (c :: r) = [c] ++ flat r := by
 cases c <;> first | rfl | exact absurd rfl (hc _)
theorem portP_sound (hs : Sit C w Oc Bc Mc Hc) (hT : Tgt false Oc Bc Mc H1 O2 B2) (hL : Lies C w Oc Bc Mc H1) (hold : ∀ b x, b < lim → Mc b = some x → M2 b = some x) : ∀ {l l' : List AV} {vs : List Value} (n : Nat), LR C w Oc Bc Mc l vs →
  portP C Hc H1 lim l = some l' → (∀ k (hk : k < (imgs lim Mc (flat l)).length), M2 (n + k) = some (imgs lim Mc (flat l))[k]) →
  LR C w O2 B2 M2 (impP n l').1 vs ∧ (impP n l').2.2 = n + (imgs lim Mc (flat l)).length ∧ NewR C w O2 B2 M2 n (impP n l').2.2 (impP n l').2.1
 | [], l', vs, n, hl, h, _ => by
  simp only [portP, Option.some.injEq] at h
  subst h
  exact ⟨⟨hl.len, fun j h => by simp [impP] at h⟩, rfl, .nil n⟩
 | v :: r, l', vs, n, hl, h, hM2 => by
  cases vs with
  | nil => have := hl.len; simp at this
  | cons u us =>
   have h0 := hl.rel 0 (by simp) (by simp)
   simp only [List.getElem_cons_zero] at h0
   have hlr : LR C w Oc Bc Mc r us := ⟨by have := hl.len; simpa using this, fun j a b => by have := hl.rel (j + 1) (by simp; omega) (by simp; omega); simpa using this⟩
   by_cases hagg : ∃ cs, v = .agg cs
   ·obtain ⟨cs, rfl⟩ := hagg
    simp only [portP, Option.bind_eq_some_iff, Option.some.injEq] at h
    obtain ⟨x, hx, xs, hxs, rfl⟩ := h
    obtain ⟨ws, rfl, hcr⟩ := h0.agg_cells
    have hfl : flat (.agg cs :: r) = cs ++ flat r := rfl
    rw [hfl, imgs_append] at hM2
    obtain ⟨a1, a2, a3, a4⟩ := portL_sound (M2 := M2) hs hT hL hold n ⟨hcr.len, hcr.rel⟩ hx (fun k hk => by
     have := hM2 k (by simp; omega)
     rw [List.getElem_append_left hk] at this
     exact this)
    obtain ⟨b1, b2, b3⟩ := portP_sound hs hT hL hold (n + (imgs lim Mc cs).length) hlr hxs (fun k hk => by
     have := hM2 ((imgs lim Mc cs).length + k) (by simp; omega)
     rw [List.getElem_append_right (by omega)] at this
     simpa [Nat.add_assoc] using this)
    have e : impP n (.agg x :: xs) = (.agg (impL n x).1 :: (impP (impL n x).2.2 xs).1, (impP (impL n x).2.2 xs).2.1 ++ (impL n x).2.1, (impP (impL n x).2.2 xs).2.2) := rfl
    rw [e, a2, hfl, imgs_append]
    rw [a2] at a3
    refine ⟨⟨by simp [b1.len], fun j h1 h2 => ?_⟩, by rw [b2, List.length_append]; omega, a3.append b3⟩
    cases j with
    | zero => exact .agg _ _ a1.len (a4 hcr.cell) a1.rel
    | succ j => exact b1.rel j (by simpa using h1) (by simpa using h2)
   ·have hne : ∀ cs, v ≠ .agg cs := fun cs e => hagg ⟨cs, e⟩
    rw [portP_cons r hne] at h
    simp only [Option.bind_eq_some_iff, Option.some.injEq] at h
    obtain ⟨x, hx, xs, hxs, rfl⟩ := h
    rw [flat_cons r hne, imgs_append] at hM2
    obtain ⟨a1, a2, a3, _⟩ := portC_sound (M2 := M2) hs hT hL hold h0 hx n (fun k hk => by
     have := hM2 k (by simp; omega)
     rw [List.getElem_append_left hk] at this
     exact this)
    obtain ⟨b1, b2, b3⟩ := portP_sound hs hT hL hold (n + (imgs lim Mc [v]).length) hlr hxs (fun k hk => by
     have := hM2 ((imgs lim Mc [v]).length + k) (by simp; omega)
     rw [List.getElem_append_right (by omega)] at this
     simpa [Nat.add_assoc] using this)
    rw [impP_cons n xs (portC_agg hx hne), a2, flat_cons r hne, imgs_append]
    rw [a2] at a3
    refine ⟨⟨by simp [b1.len], fun j h1 h2 => ?_⟩, by rw [b2, List.length_append]; omega, a3.append b3⟩
    cases j with
    | zero => exact a1
    | succ j => exact b1.rel j (by simpa using h1) (by simpa using h2)
theorem parts_rel {O B : Nat → Prop} {M : MapB} {v : AV} {cv : Value} (h : VR C w O B M v cv) : ∃ vs, LR C w O B M (parts v) vs ∧
    ∀ (O' B' : Nat → Prop) (M' : MapB) (l : List AV) (u : AV), LR C w O' B' M' l vs → unparts v l = some u → VR C w O' B' M' u cv := by
  by_cases ht : ∃ us, v = .tup us
  · obtain ⟨us, rfl⟩ := ht
    cases h with
    | tup _ vs hl hv =>
      refine ⟨vs, ⟨hl, hv⟩, fun O' B' M' l u hlr hu => ?_⟩
      simp only [unparts, Option.some.injEq] at hu
      subst hu
      exact .tup _ vs hlr.len hlr.rel
  · have hp1 : parts v = [v] := by cases v <;> first | rfl | exact absurd ⟨_, rfl⟩ ht
    refine ⟨[cv], ⟨by rw [hp1]; rfl, fun j h1 h2 => ?_⟩, fun O' B' M' l u hlr hu => ?_⟩
    · have : j = 0 := by simp at h2; omega
      subst this
      simpa [hp1] using h
    · have hl1 : l = [u] := by
        cases v <;> first
          | exact absurd ⟨_, rfl⟩ ht
          | (cases l with
             | nil => simp [unparts] at hu
             | cons a t => cases t with
               | nil => simp only [unparts, Option.some.injEq] at hu; rw [hu]
               | cons b t => simp [unparts] at hu)
      subst hl1
      exact hlr.rel 0 (by simp) (by simp)
theorem imgs_length (lim : Nat) (Mc : MapB) : ∀ l : List AV, (imgs lim Mc l).length = (tops lim l).length
 | [] => rfl
 | v :: r => by
  cases v with
  | sref b off len cap => simp only [imgs, tops]; cases Nat.ble lim b <;> simp [imgs_length lim Mc r]
  | mref b => simp only [imgs, tops]; cases Nat.ble lim b <;> simp [imgs_length lim Mc r]
  | _ => simpa only [imgs, tops] using imgs_length lim Mc r
theorem imgs_get (lim : Nat) (Mc : MapB) : ∀ (l : List AV) (k : Nat) (h : k < (imgs lim Mc l).length) (h' : k < (tops lim l).length), lim ≤ (tops lim l)[k] ∧ ∀ cb base, Mc (tops lim l)[k] = some (cb, base) → ((imgs lim Mc l)[k]).1 = cb
 | [], k, h, _ => by simp [imgs] at h
 | v :: r, k, h, h' => by
  have rest : imgs lim Mc (v :: r) = imgs lim Mc r → tops lim (v :: r) = tops lim r → lim ≤ (tops lim (v :: r))[k] ∧ ∀ cb base, Mc (tops lim (v :: r))[k] = some (cb, base) → ((imgs lim Mc (v :: r))[k]).1 = cb := fun e1 e2 => by
   simp only [e1, e2]
   exact imgs_get lim Mc r k (by rw [← e1]; exact h) (by rw [← e2]; exact h')
  cases v with
  | sref b off len cap =>
   cases hq : Nat.ble lim b with
   | false => exact rest (by simp [imgs, hq]) (by simp [tops, hq])
   | true =>
    have e1 : imgs lim Mc (.sref b off len cap :: r) = (match Mc b with | some (cb, base) => (cb, base + off) | none => (0, 0)) :: imgs lim Mc r := by simp only [imgs, hq, cond_true]; rfl
    have e2 : tops lim (.sref b off len cap :: r) = b :: tops lim r := by simp [tops, hq]
    simp only [e1, e2] at h h' ⊢
    cases k with
    | zero => exact ⟨by simpa using hq, fun cb base hM => by simp at hM; simp [hM]⟩
    | succ k => exact imgs_get lim Mc r k (by simpa using h) (by simpa using h')
  | mref b =>
   cases hq : Nat.ble lim b with
   | false => exact rest (by simp [imgs, hq]) (by simp [tops, hq])
   | true =>
    have e1 : imgs lim Mc (.mref b :: r) = (match Mc b with | some (cb, base) => (cb, base) | none => (0, 0)) :: imgs lim Mc r := by simp only [imgs, hq, cond_true]; rfl
    have e2 : tops lim (.mref b :: r) = b :: tops lim r := by simp [tops, hq]
    simp only [e1, e2] at h h' ⊢
    cases k with
    | zero => exact ⟨by simpa using hq, fun cb base hM => by simp at hM; simp [hM]⟩
    | succ k => exact imgs_get lim Mc r k (by simpa using h) (by simpa using h')
  | _ => exact rest rfl rfl
theorem tops_live {H : Heap} : ∀ {l l' : List AV}, portL C H H1 lim l = some l' → ∀ b ∈ tops lim l, ∃ blk, hget H b = some blk
 | [], l', h, b, hb => by simp [tops] at hb
 | v :: r, l', h, b, hb => by
  simp only [portL, Option.bind_eq_some_iff, Option.some.injEq] at h
  obtain ⟨x, hx, xs, hxs, rfl⟩ := h
  have rest : b ∈ tops lim r → ∃ blk, hget H b = some blk := tops_live hxs b
  cases v with
  | sref b' off len cap =>
   cases hq : Nat.ble lim b' with
   | false => exact rest (by simpa [tops, hq] using hb)
   | true =>
    simp only [tops, hq, cond_true, List.mem_cons] at hb
    rcases hb with rfl | hb
    ·simp only [portC, hq, cond_true, Option.bind_eq_some_iff] at hx
     obtain ⟨⟨e, cs⟩, hcs, _⟩ := hx
     exact ⟨_, hcells_some hcs⟩
    ·exact rest hb
  | mref b' =>
   cases hq : Nat.ble lim b' with
   | false => exact rest (by simpa [tops, hq] using hb)
   | true =>
    simp only [tops, hq, cond_true, List.mem_cons] at hb
    rcases hb with rfl | hb
    ·simp only [portC, hq, cond_true, Option.bind_eq_some_iff] at hx
     obtain ⟨⟨ks, us, bs, ck⟩, hm, _⟩ := hx
     exact ⟨_, hmap_some hm⟩
    ·exact rest hb
  | _ => exact rest (by simpa [tops] using hb)
end
end Go.Ev
