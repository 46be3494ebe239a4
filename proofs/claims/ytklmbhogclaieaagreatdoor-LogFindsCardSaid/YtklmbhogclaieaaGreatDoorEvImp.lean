/- A PART OF THE PROOF THAT ONE CALL OF A LAW OF LAYER 46 (which of any patches have a line with any word) returns true, whatever the input; the input reads as it did. No condition beyond the given statement. This part: EvImp. -/
import Derived.Test.YtklmbhogclaieaaGreatDoorEvPort
namespace Go.Ev
open Go

theorem hget_append (a b : Heap) (k : Nat) : hget (a ++ b) k = match hget a k with | some x => some x | none => hget b k := by
  induction a with
  | nil => rfl
  | cons p a ih =>
    obtain ⟨n, x⟩ := p
    rw [List.cons_append, hget_cons, hget_cons]
    by_cases h : n = k
    · rw [if_pos h, if_pos h]
    · rw [if_neg h, if_neg h]; exact ih

theorem hget_fresh {lim : Nat} : ∀ {H : Heap} {b : Nat} {blk : Blk}, hget (fresh lim H) b = some blk → hget H b = some blk ∧ lim ≤ b
  | [], b, blk, h => by simp [fresh, hget] at h
  | (k, x) :: r, b, blk, h => by
    unfold fresh at h
    cases hq : Nat.ble lim k with
    | true =>
      rw [hq] at h
      simp only [cond_true, hget_cons] at h
      rw [hget_cons]
      by_cases e : k = b
      · rw [if_pos e] at h ⊢
        exact ⟨h, by rw [← e]; simpa using hq⟩
      · rw [if_neg e] at h ⊢
        exact hget_fresh h
    | false =>
      rw [hq] at h
      simp [hget] at h

theorem hget_hdels : ∀ {l : List Nat} {H : Heap} {b : Nat} {blk : Blk}, hget (hdels H l) b = some blk → hget H b = some blk ∧ b ∉ l
  | [], H, b, blk, h => ⟨h, by simp⟩
  | x :: r, H, b, blk, h => by
    obtain ⟨h1, h2⟩ := hget_hdels (l := r) h
    rw [hget_hdel] at h1
    split at h1
    · cases h1
    · rename_i hne; exact ⟨h1, by simp [hne, h2]⟩

theorem noDup_iff : ∀ {l : List Nat}, noDup l = true → l.Nodup
  | [], _ => List.nodup_nil
  | x :: r, h => by
    simp only [noDup, Bool.and_eq_true, List.all_eq_true, Bool.not_eq_true'] at h
    refine List.nodup_cons.2 ⟨fun hm => ?_, noDup_iff h.2⟩
    have := h.1 x hm
    rw [(beq_iff x x).2 rfl] at this
    cases this

/-- where the result's own slices lie -/
def imgs (lim : Nat) (Mc : MapB) : List AV → List (Nat × Nat)
  | [] => []
  | .sref b off _ _ :: r => bif Nat.ble lim b then (match Mc b with | some (cb, base) => (cb, base + off) | none => (0, 0)) :: imgs lim Mc r else imgs lim Mc r
  | .mref b :: r => bif Nat.ble lim b then (match Mc b with | some (cb, base) => (cb, base) | none => (0, 0)) :: imgs lim Mc r else imgs lim Mc r
  | _ :: r => imgs lim Mc r

theorem tops_append (lim : Nat) : ∀ (a b : List AV), tops lim (a ++ b) = tops lim a ++ tops lim b
  | [], b => rfl
  | v :: r, b => by
    cases v with
    | sref b' off len cap => simp only [List.cons_append, tops, tops_append lim r b]; cases Nat.ble lim b' <;> rfl
    | mref b' => simp only [List.cons_append, tops, tops_append lim r b]; cases Nat.ble lim b' <;> rfl
    | _ => simp only [List.cons_append, tops, tops_append lim r b]

theorem imgs_append (lim : Nat) (Mc : MapB) : ∀ (a b : List AV), imgs lim Mc (a ++ b) = imgs lim Mc a ++ imgs lim Mc b
  | [], b => rfl
  | v :: r, b => by
    cases v with
    | sref b' off len cap => simp only [List.cons_append, imgs, imgs_append lim Mc r b]; cases Nat.ble lim b' <;> rfl
    | mref b' => simp only [List.cons_append, imgs, imgs_append lim Mc r b]; cases Nat.ble lim b' <;> rfl
    | _ => simp only [List.cons_append, imgs, imgs_append lim Mc r b]

section
variable {C : Ctx} {w : World} {Oc Bc : Nat → Prop} {Mc : MapB} {Hc H1 : Heap} {O2 B2 : Nat → Prop} {M2 : MapB} {lim : Nat}

/-- what new blocks are -/
structure NewR (C : Ctx) (w : World) (O2 B2 : Nat → Prop) (M2 : MapB) (n n' : Nat) (h : Heap) : Prop where
  rng : ∀ p ∈ h, n ≤ p.1 ∧ p.1 < n'
  blk : ∀ b x, hget h b = some x → ∃ cb base, M2 b = some (cb, base) ∧ BlkR C w O2 B2 M2 cb base x
  all : ∀ b, n ≤ b → b < n' → ∃ x, hget h b = some x
  len : h.length = n' - n
  le : n ≤ n'

theorem hget_mem : ∀ {h : Heap} {b : Nat} {x : Blk}, hget h b = some x → (b, x) ∈ h
  | (k, y) :: r, b, x, hh => by
    rw [hget_cons] at hh
    by_cases e : k = b
    · rw [if_pos e] at hh; cases hh; subst e; simp
    · rw [if_neg e] at hh; exact List.mem_cons_of_mem _ (hget_mem hh)

theorem NewR.nil (n : Nat) : NewR C w O2 B2 M2 n n [] :=
  ⟨fun p h => (by cases h), fun b x h => (by simp [hget] at h), fun b h1 h2 => (by omega), by simp, Nat.le_refl _⟩

theorem NewR.append {n n' n'' : Nat} {h h' : Heap} (a : NewR C w O2 B2 M2 n n' h) (b : NewR C w O2 B2 M2 n' n'' h') : NewR C w O2 B2 M2 n n'' (h' ++ h) := by
  have h1 := a.le
  have h2 := b.le
  refine ⟨fun p hp => ?_, fun k x hk => ?_, fun k hk1 hk2 => ?_, by simp [a.len, b.len]; omega, by omega⟩
  · rcases List.mem_append.1 hp with hp | hp
    · have := b.rng p hp; omega
    · have := a.rng p hp; omega
  · rw [hget_append] at hk
    split at hk
    · rename_i y hy; cases hk; exact b.blk k _ hy
    · exact a.blk k x hk
  · rw [hget_append]
    by_cases hlt : k < n'
    · obtain ⟨x, hx⟩ := a.all k hk1 hlt
      cases hq : hget h' k with
      | some y => exact ⟨y, rfl⟩
      | none => exact ⟨x, hx⟩
    · obtain ⟨x, hx⟩ := b.all k (by omega) hk2
      exact ⟨x, by rw [hx]⟩

/-- the elements that were taken out are cells again -/
theorem ER.flat {t : Bool} {sz : Nat} {O2 B2 : Nat → Prop} {M2 : MapB} : ∀ {n : Nat} {xs : List AV} {vs : List Value}, ER C w O2 B2 M2 t sz n xs vs → CR C w O2 B2 M2 (flat xs) (vs.take (n * sz))
  | n, [], vs, h => by
    have := h.len
    simp at this
    subst this
    simpa [Ev.flat] using CR.nil
  | n, x :: r, vs, h => by
    obtain ⟨m, rfl⟩ : ∃ m, n = m + 1 := ⟨r.length, by have := h.len; simpa using this.symm⟩
    have h0 := h.szs 0 (by simp)
    simp only [List.getElem_cons_zero] at h0
    have hfit := h.fit
    rw [Nat.add_mul, Nat.one_mul] at hfit
    have hr : ER C w O2 B2 M2 t sz m r (vs.drop sz) := by
      refine ⟨by have := h.len; simpa using this, fun i hi => h.szs (i + 1) (by simpa using hi), fun i hi => h.cell (i + 1) (by simpa using hi), by have := h.dat; simp only [datL, Bool.and_eq_true] at this; exact this.2, by rw [List.length_drop]; omega, fun i hi j hj h'' => ?_⟩
      rw [List.length_drop] at h''
      have := h.rel (i + 1) (by simpa using hi) j hj (by rw [Nat.add_mul]; omega)
      simp only [List.getElem_cons_succ, List.getElem_drop] at this ⊢
      have e : sz + (i * sz + j) = (i + 1) * sz + j := by rw [Nat.add_mul]; omega
      simp only [e]
      exact this
    have ih := hr.flat
    have hc0 : CR C w O2 B2 M2 x.cells (vs.take sz) := by
      refine ⟨by simp [h0]; omega, fun j hj => h.cell 0 (by simp) j hj, fun j hj h' => ?_⟩
      have := h.rel 0 (by simp) j hj (by simp at h'; omega)
      rw [List.getElem_take]
      simpa using this
    have e1 : vs.take ((m + 1) * sz) = vs.take sz ++ (vs.drop sz).take (m * sz) := by
      rw [Nat.add_mul, Nat.one_mul, Nat.add_comm, List.take_add]
    rw [e1]
    simpa [Ev.flat] using hc0.append ih

theorem impC_plain (n : Nat) {v : AV} (h : ∀ e sz xs cap, v ≠ .sown e sz xs cap) (h2 : ∀ ks us bs ck, v ≠ .mown ks us bs ck) : impC n v = (v, [], n) := by
  cases v <;> first | rfl | exact absurd rfl (h _ _ _ _) | exact absurd rfl (h2 _ _ _ _)

/-- ONE CELL OF A RESULT. -/
theorem portC_sound (hs : Sit C w Oc Bc Mc Hc) (hT : Tgt false Oc Bc Mc H1 O2 B2) (hL : Lies C w Oc Bc Mc H1) (hold : ∀ b x, b < lim → Mc b = some x → M2 b = some x) {v v' : AV} {cv : Value} (hv : VR C w Oc Bc Mc v cv)
    (h : portC C Hc H1 lim v = some v') (n : Nat) (hM2 : ∀ k (hk : k < (imgs lim Mc [v]).length), M2 (n + k) = some (imgs lim Mc [v])[k]) :
    VR C w O2 B2 M2 (impC n v').1 cv ∧ (impC n v').2.2 = n + (imgs lim Mc [v]).length ∧ NewR C w O2 B2 M2 n (impC n v').2.2 (impC n v').2.1 ∧ (v.isCell = true → (impC n v').1.isCell = true) := by
  have other : ∀ u, freeze C H1 false deep v = some u → (∀ b off len cap, v ≠ .sref b off len cap) → (∀ b, v ≠ .mref b) → v' = u → VR C w O2 B2 M2 (impC n v').1 cv ∧ (impC n v').2.2 = n + (imgs lim Mc [v]).length ∧ NewR C w O2 B2 M2 n (impC n v').2.2 (impC n v').2.1 ∧ (v.isCell = true → (impC n v').1.isCell = true) := fun u hu hne hne2 e => by
    subst e
    obtain ⟨h1, h2, h3⟩ := freeze_sound (M2 := M2) hT hL deep hv hu
    have hp : impC n v' = (v', [], n) := impC_plain n (fun e sz xs cap he => by subst he; simp [dat] at h2) (fun ks us bs ck he => by subst he; simp [dat] at h2)
    have hi : imgs lim Mc [v] = [] := by cases v <;> first | rfl | exact absurd rfl (hne _ _ _ _) | exact absurd rfl (hne2 _)
    rw [hp, hi]
    exact ⟨h1, rfl, .nil n, fun hc => by rw [h3]; exact hc⟩
  unfold portC at h
  split at h
  · rename_i b off len cap
    cases hq : Nat.ble lim b with
    | true =>
      rw [hq] at h
      simp only [cond_true, Option.bind_eq_some_iff, Option.some.injEq] at h
      obtain ⟨⟨e, cs⟩, hcs, i, hi, _, hpos, xs, hxs, rfl⟩ := h
      have hpos : 0 < i.info.size := by simpa using chk_some hpos
      obtain ⟨cb, base, c, e1, i1, cc, fz, rfl, hM, hblk, hi1, hle, hfit, hcap, hfull⟩ := hv.sref_inv
      obtain ⟨cc', fz', hblk', hfz, hfit', hO, hcr, hat⟩ := hs.cells hcs hM
      rw [hblk] at hblk'
      cases hblk'
      rw [hi] at hi1
      obtain rfl := Option.some.inj hi1
      have hE := freezeN_sound (M2 := M2) hT hL deep (hcr.drop off) hxs
      have him : imgs lim Mc [.sref b off len cap] = [(cb, base + off)] := by simp [imgs, hq, hM]
      have hn : M2 n = some (cb, base + off) := by
        have := hM2 0 (by rw [him]; simp)
        simpa [him] using this
      have hf := hE.flat
      have hfitE := hE.fit
      have hlen : (flat xs).length = len * i.info.size := by
        have := hf.len
        rw [List.length_take] at this
        omega
      refine ⟨?_, by rw [him]; rfl, ⟨fun p hp => ?_, fun b' x hx => ?_, fun b' h1 h2 => ⟨.cells e (flat xs), ?_⟩, by simp [impC], by simp [impC]⟩, fun _ => rfl⟩
      · have := VR.sref (C := C) (w := w) (O := O2) (B := B2) (M := M2) n 0 len cap cb (base + off) c e i cc _ hn hblk hi hle (by omega) hcap (fun h => by have := hfull h; omega)
        simp only [impC, hE.len]
        simpa using this
      · simp only [impC, List.mem_singleton] at hp
        subst hp
        simp [impC]
      · simp only [impC, hget_cons] at hx
        split at hx
        · rename_i e2; subst e2
          cases hx
          refine ⟨cb, base + off, hn, .ofCRf hblk hfz ?_ ?_⟩
          · rw [hlen]
            have : ((((cc.toList.drop base).take cs.length)).drop off).length ≤ cs.length - off := by simp; omega
            by_cases h0 : len * i.info.size = 0
            · have : len * i.info.size ≤ c * i.info.size := Nat.mul_le_mul_right _ hle
              omega
            · omega
          · have e3 : (cc.toList.drop (base + off)).take (flat xs).length = ((((cc.toList.drop base).take cs.length).drop off)).take (len * i.info.size) := by
              rw [hlen, List.drop_take, List.drop_drop, List.take_take]
              congr 1
              have : ((((cc.toList.drop base).take cs.length)).drop off).length = min cs.length (cc.size - base) - off := by simp
              omega
            rw [e3]
            exact hf
        · simp [hget] at hx
      · have : b' = n := by simp [impC] at h2; omega
        subst this
        simp [impC, hget_cons]
    | false =>
      rw [hq] at h
      simp only [cond_false, Option.some.injEq] at h
      subst h
      have hlt : b < lim := by
        apply Nat.lt_of_not_le
        intro hle
        rw [Nat.ble_eq_true_of_le hle] at hq; cases hq
      have hi : imgs lim Mc [.sref b off len cap] = [] := by simp [imgs, hq]
      obtain ⟨cb, base, c, e1, i1, cc, fz, rfl, hM, hblk, hi1, hle, hfit, hcap, hfull⟩ := hv.sref_inv
      rw [hi]
      exact ⟨.sref b off len cap cb base c e1 i1 cc fz (hold _ _ hlt hM) hblk hi1 hle hfit hcap hfull, rfl, .nil n, fun h => h⟩
  · rename_i b
    cases hq : Nat.ble lim b with
    | true =>
      rw [hq] at h
      simp only [cond_true, Option.bind_eq_some_iff, Option.some.injEq] at h
      obtain ⟨⟨ks, us, bs, ck⟩, hm, ks', hks, us', hus, rfl⟩ := h
      cases hv with
      | mref _ cb hM =>
        obtain ⟨cb', base, hM', _, hr⟩ := hs.own b _ (hmap_some hm)
        rw [hM] at hM'
        obtain ⟨rfl, rfl⟩ := Prod.mk.inj (Option.some.inj hM')
        obtain ⟨_, es, hblk, hl⟩ := hr.map_inv
        have him : imgs lim Mc [.mref b] = [(cb, 0)] := by simp [imgs, hq, hM]
        have hn : M2 n = some (cb, 0) := by
          have := hM2 0 (by rw [him]; simp)
          simpa [him] using this
        obtain ⟨k1, k2, _⟩ := freezeL_sound (M2 := M2) hT hL deep hl.lrk hks
        obtain ⟨u1, u2, _⟩ := freezeL_sound (M2 := M2) hT hL deep hl.lru hus
        have hl2 : EL (VR C w O2 B2 M2) ks' us' bs es.toList := hl.swap (by have := k1.len; simpa using this.symm) (by have := u1.len; simpa using this.symm) (fun j a b => by have := k1.rel j b (by simpa using a); simpa using this) fun j a b => by have := u1.rel j b (by simpa using a); simpa using this
        refine ⟨.mref n cb hn, by rw [him]; rfl, ⟨fun p hp => ?_, fun b' x hx => ?_, fun b' h1 h2 => ⟨.map ks' us' bs ck, ?_⟩, by simp [impC], by simp [impC]⟩, fun _ => rfl⟩
        · simp only [impC, List.mem_singleton] at hp
          subst hp
          simp [impC]
        · simp only [impC, hget_cons] at hx
          split at hx
          · rename_i e2; subst e2
            cases hx
            exact ⟨cb, 0, hn, .mk_map hblk hl2⟩
          · simp [hget] at hx
        · have : b' = n := by simp [impC] at h2; omega
          subst this
          simp [impC, hget_cons]
    | false =>
      rw [hq] at h
      simp only [cond_false, Option.some.injEq] at h
      subst h
      have hlt : b < lim := by
        apply Nat.lt_of_not_le
        intro hle
        rw [Nat.ble_eq_true_of_le hle] at hq; cases hq
      have hi : imgs lim Mc [.mref b] = [] := by simp [imgs, hq]
      cases hv with
      | mref _ cb hM =>
        rw [hi]
        exact ⟨.mref b cb (hold _ _ hlt hM), rfl, .nil n, fun h => h⟩
  · rename_i b off
    simp only [Option.bind_eq_some_iff, Option.some.injEq] at h
    obtain ⟨_, hq, rfl⟩ := h
    have hq := chk_some hq
    have hlt : b < lim := by
      apply Nat.lt_of_not_le
      intro hle
      rw [Nat.ble_eq_true_of_le hle] at hq; cases hq
    cases hv with
    | pref _ _ cb base hM => exact ⟨.pref b off cb base (hold _ _ hlt hM), rfl, .nil n, fun h => h⟩
  · rename_i hne1 hne2 hne3
    exact other v' h (fun b off len cap e => hne1 b off len cap e) (fun b e => hne2 b e) rfl

theorem imgs_cons (v : AV) (r : List AV) : imgs lim Mc (v :: r) = imgs lim Mc [v] ++ imgs lim Mc r := imgs_append lim Mc [v] r

/-- MANY CELLS. -/
theorem portL_sound (hs : Sit C w Oc Bc Mc Hc) (hT : Tgt false Oc Bc Mc H1 O2 B2) (hL : Lies C w Oc Bc Mc H1) (hold : ∀ b x, b < lim → Mc b = some x → M2 b = some x) : ∀ {l l' : List AV} {vs : List Value} (n : Nat), LR C w Oc Bc Mc l vs →
    portL C Hc H1 lim l = some l' → (∀ k (hk : k < (imgs lim Mc l).length), M2 (n + k) = some (imgs lim Mc l)[k]) →
    LR C w O2 B2 M2 (impL n l').1 vs ∧ (impL n l').2.2 = n + (imgs lim Mc l).length ∧ NewR C w O2 B2 M2 n (impL n l').2.2 (impL n l').2.1 ∧ ((∀ j (h : j < l.length), l[j].isCell = true) → ∀ j (h : j < (impL n l').1.length), (impL n l').1[j].isCell = true)
  | [], l', vs, n, hl, h, _ => by
    simp only [portL, Option.some.injEq] at h
    subst h
    exact ⟨⟨hl.len, fun j h => by simp [impL] at h⟩, rfl, .nil n, fun _ j h => by simp [impL] at h⟩
  | v :: r, l', vs, n, hl, h, hM2 => by
    simp only [portL, Option.bind_eq_some_iff, Option.some.injEq] at h
    obtain ⟨x, hx, xs, hxs, rfl⟩ := h
    cases vs with
    | nil => have := hl.len; simp at this
    | cons u us =>
      have h0 := hl.rel 0 (by simp) (by simp)
      simp only [List.getElem_cons_zero] at h0
      rw [imgs_cons] at hM2
      have h1 := portC_sound (M2 := M2) hs hT hL hold h0 hx n (fun k hk => by
        have := hM2 k (by simp; omega)
        rw [List.getElem_append_left hk] at this
        exact this)
      have h2 := portL_sound hs hT hL hold (l := r) (vs := us) (n + (imgs lim Mc [v]).length) ⟨by have := hl.len; simpa using this, fun j a b => by have := hl.rel (j + 1) (by simp; omega) (by simp; omega); simpa using this⟩ hxs (fun k hk => by
        have := hM2 ((imgs lim Mc [v]).length + k) (by simp; omega)
        rw [List.getElem_append_right (by omega)] at this
        simpa [Nat.add_assoc] using this)
      obtain ⟨a1, a2, a3, a4⟩ := h1
      obtain ⟨b1, b2, b3, b4⟩ := h2
      have e : impL n (x :: xs) = ((impC n x).1 :: (impL (impC n x).2.2 xs).1, (impL (impC n x).2.2 xs).2.1 ++ (impC n x).2.1, (impL (impC n x).2.2 xs).2.2) := rfl
      rw [e, a2]
      rw [a2] at a3
      refine ⟨⟨by simp [b1.len], fun j h1 h2 => ?_⟩, by rw [b2, imgs_cons v r, List.length_append]; omega, a3.append b3, fun hc j hj => ?_⟩
      · cases j with
        | zero => exact a1
        | succ j => exact b1.rel j (by simpa using h1) (by simpa using h2)
      · cases j with
        | zero => exact a4 (hc 0 (by simp))
        | succ j => exact b4 (fun k hk => by have := hc (k + 1) (by simp; omega); simpa using this) j (by simpa using hj)

end
end Go.Ev
