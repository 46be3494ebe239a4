/- A PART OF THE PROOF THAT ONE CALL OF A LAW OF LAYER 46 (which of any patches have a line with any word) returns true, whatever the input; the input reads as it did. No condition beyond the given statement. This part: EvMapI. -/
import Derived.Test.YtklmbhogclaieaaGreatDoorEvMap2
namespace Go.Ev
open Go

section
variable {P : Program} {C : Ctx} {w : World} {O B : Nat → Prop} {M : MapB} {H : Heap}

theorem leftL_sound {R : AV → Value → Prop} {seen : List Nat} : ∀ {ks us : List AV} {bs : List Nat} {es : List MapEntry}, EL R ks us bs es →
    (leftL seen ks us bs).length = (es.filter fun e => !seen.contains e.born).length ∧ ∀ j (h : j < (leftL seen ks us bs).length) (h' : j < (es.filter fun e => !seen.contains e.born).length),
      R (leftL seen ks us bs)[j].1 (es.filter fun e => !seen.contains e.born)[j].key ∧ R (leftL seen ks us bs)[j].2.1 (es.filter fun e => !seen.contains e.born)[j].val ∧ (es.filter fun e => !seen.contains e.born)[j].born = (leftL seen ks us bs)[j].2.2
  | [], [], [], [], _ => ⟨rfl, fun j h => by cases h⟩
  | k :: ks, u :: us, b :: bs, e :: es, h => by
    obtain ⟨i1, i2⟩ := leftL_sound (seen := seen) h.2.2.2
    have hb : e.born = b := h.2.2.1
    cases hc : seen.contains b with
    | true =>
      have e1 : leftL seen (k :: ks) (u :: us) (b :: bs) = leftL seen ks us bs := by rw [leftL, hc]; rfl
      have e2 : (e :: es).filter (fun e => !seen.contains e.born) = es.filter fun e => !seen.contains e.born := by rw [List.filter_cons]; simp only [hb, hc, Bool.not_true, Bool.false_eq_true, if_false]
      rw [e1, e2]
      exact ⟨i1, i2⟩
    | false =>
      have e1 : leftL seen (k :: ks) (u :: us) (b :: bs) = (k, u, b) :: leftL seen ks us bs := by rw [leftL, hc]; rfl
      have e2 : (e :: es).filter (fun e => !seen.contains e.born) = e :: es.filter fun e => !seen.contains e.born := by rw [List.filter_cons]; simp only [hb, hc, Bool.not_false, if_true]
      rw [e1, e2]
      refine ⟨by simp [i1], fun j h1 h2 => ?_⟩
      cases j with
      | zero => exact ⟨h.1, h.2.1, hb⟩
      | succ j => exact i2 j (by simpa using h1) (by simpa using h2)
  | [], [], [], _ :: _, h => h.elim
  | [], [], _ :: _, _, h => h.elim
  | [], _ :: _, _, _, h => h.elim
  | _ :: _, [], _, _, h => h.elim
  | _ :: _, _ :: _, [], _, h => h.elim
  | _ :: _, _ :: _, _ :: _, [], h => h.elim

theorem findL_sound {R : AV → Value → Prop} {n : Nat} {v : AV} : ∀ {ks us : List AV} {bs : List Nat} {es : List MapEntry}, EL R ks us bs es → findL n ks us bs = some v →
    ∃ k u e, v = .tup [k, u] ∧ es.find? (·.born == n) = some e ∧ R k e.key ∧ R u e.val
  | [], [], [], [], _, hf => by cases hf
  | k :: ks, u :: us, b :: bs, e :: es, h, hf => by
    have hb : e.born = b := h.2.2.1
    unfold findL at hf
    cases hc : Nat.beq b n with
    | true =>
      rw [hc] at hf
      have hbn := (beq_iff b n).1 hc
      refine ⟨k, u, e, (Option.some.inj hf).symm, ?_, h.1, h.2.1⟩
      rw [List.find?_cons, hb, hbn]
      simp
    | false =>
      rw [hc] at hf
      obtain ⟨k', u', e', h1, h2, h3⟩ := findL_sound h.2.2.2 hf
      refine ⟨k', u', e', h1, ?_, h3⟩
      have : (e.born == n) = false := by
        rw [hb]
        cases hq : b == n with
        | false => rfl
        | true => rw [beq_iff_eq.1 hq, (beq_iff n n).2 rfl] at hc; cases hc
      rw [List.find?_cons, this]
      exact h2
  | [], [], [], _ :: _, h, _ => h.elim
  | [], [], _ :: _, _, h, _ => h.elim
  | [], _ :: _, _, _, h, _ => h.elim
  | _ :: _, [], _, _, h, _ => h.elim
  | _ :: _, _ :: _, [], _, h, _ => h.elim
  | _ :: _, _ :: _, _ :: _, [], h, _ => h.elim

theorem EL.born {R : AV → Value → Prop} : ∀ {ks us : List AV} {bs : List Nat} {es : List MapEntry}, EL R ks us bs es → es.map (·.born) = bs
  | [], [], [], [], _ => rfl
  | k :: ks, u :: us, b :: bs, e :: es, h => by
    have : e.born = b := h.2.2.1
    simp [h.2.2.2.born, this]
  | [], [], [], _ :: _, h => h.elim
  | [], [], _ :: _, _, h => h.elim
  | [], _ :: _, _, _, h => h.elim
  | _ :: _, [], _, _, h => h.elim
  | _ :: _, _ :: _, [], _, h => h.elim
  | _ :: _, _ :: _, _ :: _, [], h => h.elim

theorem mEntry_sound (hs : Sit C w O B M H) {x v : AV} {cx : Value} (hx : VR C w O B M x cx) (h : mEntry x H = some v) : ∃ cv, (Instr.entry cx).run P w = .ok cv w ∧ VR C w O B M v cv := by
  unfold mEntry at h
  split at h
  · rename_i b
    split at h
    · rename_i m since seen last hg
      simp only [Option.bind_eq_some_iff] at h
      obtain ⟨⟨ks, us, bs, ck⟩, hm, _, hck, n, hn, hf⟩ := h
      have hck := (beq_iff _ _).1 (chk_some hck)
      subst hck
      cases hx with
      | pref _ _ cb base hM =>
        obtain ⟨cb', base', hM', hO, hr⟩ := hs.own b _ hg
        rw [hM] at hM'
        obtain ⟨rfl, rfl⟩ := Prod.mk.inj (Option.some.inj hM')
        cases hr with
        | miter _ cm _ _ _ hcm h0 hb0 hblk =>
          subst hb0
          obtain ⟨c, rfl, hMm⟩ := hcm m rfl
          obtain ⟨cb2, base2, hM2, _, hr2⟩ := hs.own m _ (hmap_some hm)
          rw [hMm] at hM2
          obtain ⟨rfl, rfl⟩ := Prod.mk.inj (Option.some.inj hM2)
          obtain ⟨_, es, hblk2, hel⟩ := hr2.map_inv
          obtain ⟨k, u, e, rfl, hfd, hk, hu⟩ := findL_sound hel hf
          refine ⟨.tuple #[e.key, e.val], ?_, .tup _ [_, _] rfl fun j h1 h2 => ?_⟩
          · have hback : seen.toArray.back? = some n := by simpa [Array.back?, List.getLast?_eq_getElem?] using hn
            have hfd2 : es.find? (·.born == n) = some e := by rw [← Array.find?_toList]; exact hfd
            simp [Instr.entry, getObj, Sem.run, hblk, hblk2, hback, hfd2, Bind.bind, Sem.bind, Pure.pure]
          · match j with
            | 0 => exact hk
            | 1 => exact hu
    · cases h
  · cases h

theorem mNextM_sound {st st' : St} (hs : Sit C w O B M st.heap) {ty : TypeId} {x v : AV} {cx : Value} (hx : VR C w O B M x cx) (h : mNextM x st = some (v, st')) :
    ∃ cv w', (Instr.next cx false ty).run P w = .ok cv w' ∧ VR C w' O B M v cv ∧ Step C B true w O M st w' O M st' := by
  unfold mNextM at h
  split at h
  · rename_i b
    split at h
    · rename_i since seen last hg
      simp only [Option.some.injEq, Prod.mk.injEq] at h
      obtain ⟨rfl, rfl⟩ := h
      cases hx with
      | pref _ _ cb base hM =>
        obtain ⟨cb', base', hM', hO, hr⟩ := hs.own b _ hg
        rw [hM] at hM'
        obtain ⟨rfl, rfl⟩ := Prod.mk.inj (Option.some.inj hM')
        cases hr with
        | miter _ cm _ _ _ hcm h0 hb0 hblk =>
          subst hb0
          obtain rfl := h0 rfl
          refine ⟨.tuple #[.bool false], w, ?_, .tup _ [_] rfl (fun j h1 h2 => ?_), .refl hs⟩
          · simp [Instr.next, getObj, Sem.run, hblk, Bind.bind, Sem.bind, Pure.pure]
          · match j with
            | 0 => exact .bool _
    · rename_i m since seen last hg
      simp only [Option.bind_eq_some_iff] at h
      obtain ⟨⟨ks, us, bs, ck⟩, hm, _, hch, h⟩ := h
      have hch := chk_some hch
      cases hx with
      | pref _ _ cb base hM =>
        obtain ⟨cb', base', hM', hO, hr⟩ := hs.own b _ hg
        rw [hM] at hM'
        obtain ⟨rfl, rfl⟩ := Prod.mk.inj (Option.some.inj hM')
        cases hr with
        | miter _ cm _ _ _ hcm h0 hb0 hblk =>
          subst hb0
          obtain ⟨c, rfl, hMm⟩ := hcm m rfl
          obtain ⟨cb2, base2, hM2, _, hr2⟩ := hs.own m _ (hmap_some hm)
          rw [hMm] at hM2
          obtain ⟨rfl, rfl⟩ := Prod.mk.inj (Option.some.inj hM2)
          obtain ⟨_, es, hblk2, hel⟩ := hr2.map_inv
          have htest : (!seen.toArray.isEmpty && !es.isEmpty && es.all (fun x => decide (x.born ≥ last))) = false := by
            simp only [Bool.or_eq_true] at hch
            rcases hch with (h1 | h1) | h1
            · have : seen.toArray.isEmpty = true := by simpa using h1
              rw [this]; rfl
            · have : bs = [] := by simpa using h1
              have h2 := hel.born
              rw [this] at h2
              have : es = #[] := by
                have : es.toList = [] := by simpa using h2
                simpa using this
              subst this
              simp
            · have h2 : es.all (fun x => decide (x.born ≥ last)) = false := by
                rw [List.any_eq_true] at h1
                obtain ⟨n, hn, hlt⟩ := h1
                have hlt : n < last := by simpa using hlt
                rw [← hel.born] at hn
                obtain ⟨e, he, rfl⟩ := List.mem_map.1 hn
                rw [Bool.eq_false_iff]
                intro hall
                rw [Array.all_eq_true_iff_forall_mem] at hall
                have := hall e (by simpa using he)
                simp at this
                omega
              rw [h2, Bool.and_false]
          obtain ⟨hlen, hrel⟩ := leftL_sound (seen := seen) hel
          have hfil : (es.filter fun e => !seen.toArray.contains e.born).toList = es.toList.filter fun e => !seen.contains e.born := by simp
          split at h
          · rename_i hl
            simp only [Option.some.injEq, Prod.mk.injEq] at h
            obtain ⟨rfl, rfl⟩ := h
            rw [hl] at hlen
            have hemp : es.filter (fun e => !seen.toArray.contains e.born) = #[] := by
              have : (es.filter fun e => !seen.toArray.contains e.born).toList = [] := by rw [hfil]; exact List.eq_nil_of_length_eq_zero hlen.symm
              simpa using this
            refine ⟨.tuple #[.bool false], w, ?_, .tup _ [_] rfl (fun j h1 h2 => ?_), .refl hs⟩
            · simp only [Instr.next, getObj, Sem.run_bind, Sem.run, hblk, hblk2, Result.andThen, htest, Bool.false_eq_true, if_false, hemp, Nat.add_zero]
              simp [choose, Sem.run, Question.forced, Pure.pure]
            · match j with
              | 0 => exact .bool _
          · rename_i k u n hl
            simp only [Option.bind_eq_some_iff, Option.some.injEq, Prod.mk.injEq] at h
            obtain ⟨_, hns, rfl, rfl⟩ := h
            have hns : n < since := by simpa using chk_some hns
            have hlen1 : (es.toList.filter fun e => !seen.contains e.born).length = 1 := by rw [← hlen, hl]; rfl
            obtain ⟨e, he⟩ := List.length_eq_one_iff.1 hlen1
            have hR := hrel 0 (by rw [hl]; simp) (by rw [hlen1]; simp)
            simp only [hl, he, List.getElem_cons_zero] at hR
            obtain ⟨hk, hu, hbn⟩ := hR
            have hone : es.filter (fun e => !seen.toArray.contains e.born) = #[e] := by
              apply Array.toList_inj.1
              rw [hfil, he]
            have hrun : (Instr.next (.pointer (some ⟨cb, 0 + 0, none⟩)) false ty).run P w = .ok (.tuple #[.bool true, e.key, e.val]) { w with heap := w.heap.setIfInBounds cb (.mapIter (some c) since (seen.toArray.push e.born) ck) } := by
              have e1 : (#[e] : Array MapEntry).filter (fun x => decide (x.born < since)) = #[e] := by simp [hbn, hns]
              have e2 : (#[e] : Array MapEntry).filter (fun x => decide (x.born ≥ since)) = #[] := by
                have : ¬ since ≤ n := by omega
                simp [hbn, this]
              simp only [Instr.next, getObj, Sem.run_bind, Sem.run, hblk, hblk2, Result.andThen, htest, Bool.false_eq_true, if_false, hone, e1, e2, Nat.add_zero]
              simp [choose, setObj, Sem.run, Question.forced, Pure.pure, hblk, Bind.bind, Sem.bind]
            have hx' : Ext w O M { w with heap := w.heap.setIfInBounds cb (.mapIter (some c) since (seen.toArray.push e.born) ck) } O M := by
              refine ⟨rfl, rfl, rfl, by simp, fun k hk hn => ?_, fun k c e fz hk => ⟨c, ?_, rfl⟩, fun _ h => .inl h, fun _ _ h => h⟩
              · simp only [Array.getElem?_setIfInBounds]
                rw [if_neg (fun e : cb = k => hn (e ▸ hO))]
              · simp only [Array.getElem?_setIfInBounds]
                rw [if_neg (fun e : cb = k => by subst e; rw [hblk] at hk; cases hk)]
                exact hk
            have hlt2 : cb < w.heap.size := (Array.getElem?_eq_some_iff.1 hblk).1
            refine ⟨_, _, hrun, .tup _ [_, _, _] rfl (fun j h1 h2 => ?_), Step.put hs hg hM hx' (fun k hk => ?_) (.miter (some m) (some c) since _ ck (fun b e => by cases e; exact ⟨c, rfl, hMm⟩) (fun e => by cases e) rfl (by simp [hlt2, hbn]))⟩
            · match j with
              | 0 => exact .bool _
              | 1 => exact hk.mono hx'
              | 2 => exact hu.mono hx'
            · simp only [Array.getElem?_setIfInBounds]
              rw [if_neg (fun e => hk e.symm)]
          · cases h
    · cases h
  · cases h

end
end Go.Ev
