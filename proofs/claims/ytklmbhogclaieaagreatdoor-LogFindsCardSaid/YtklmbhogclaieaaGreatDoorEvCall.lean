/- A PART OF THE PROOF THAT ONE CALL OF A LAW OF LAYER 46 (which of any patches have a line with any word) returns true, whatever the input; the input reads as it did. No condition beyond the given statement. This part: EvCall. -/
import Derived.Test.YtklmbhogclaieaaGreatDoorEvHand
namespace Go.Ev
open Go

section
variable {P : Program} {C : Ctx} {w : World} {O B : Nat → Prop} {M : MapB}

theorem list_two {α : Type} : ∀ {l : List α}, l.length = 2 → ∃ x y, l = [x, y]
  | [x, y], _ => ⟨x, y, rfl⟩

theorem run_v {s : Sem Value} {cv : Value} {w' : World} (h : s.run P w = .ok cv w') : (do pure (Next.value (← s)) : Sem Next).run P w = .ok (.value cv) w' := by
  simp [h]

theorem run_u {s : Sem Unit} {w' : World} (h : s.run P w = .ok () w') : (do s; pure Next.skip : Sem Next).run P w = .ok .skip w' := by
  simp [h]

theorem mConvert_int {src dst : TypeId} {x : AV} {H H' : Heap} (hd : isInt C dst = true) : mConvert C src dst x H = mConvert C src dst x H' := by
  obtain ⟨k, hk⟩ := isInt_some hd
  unfold mConvert
  cases C.desc src with
  | none => rfl
  | some s => rw [hk]; cases x <;> rfl

/-- AN OPERATION THAT TOUCHES NO MEMORY. -/
theorem quiet_sound (hT : TyOk P C) {call : CallF} {serial : Bool} {ts : List AV} {a : Act} {o : Oper} {st st2 : St} {v : AV} (hs : Sit C w O B M []) (ht : TR C w O B M ts a) (hq : quiet C o.op = true)
    (h : evOp C call serial (opVal C ts) o st = some (v, st2)) : st2 = st ∧ ∃ cv, (execOp a.eval o).run P w = .ok (.value cv) w ∧ VR C w O B M v cv := by
  have E : ∀ {x : Operand} {u : AV}, opVal C ts x = some u → VR C w O B M u (a.eval x) := fun h => opVal_sound hs ht h
  have keeps : ∀ {y : Option AV}, y.map (keep st) = some (v, st2) → y = some v ∧ st2 = st := fun {y} h => by
    cases y with
    | none => cases h
    | some y => simp only [Option.map_some, keep, Option.some.injEq, Prod.mk.injEq] at h; exact ⟨by rw [h.1], h.2.symm⟩
  unfold evOp at h
  unfold execOp
  cases hop : o.op with
  | move x =>
    simp only [hop] at h ⊢
    obtain ⟨h1, h2⟩ := keeps h
    exact ⟨h2, _, rfl, E h1⟩
  | assign x =>
    simp only [hop] at h ⊢
    obtain ⟨h1, h2⟩ := keeps h
    exact ⟨h2, _, rfl, E h1⟩
  | pick c x y =>
    simp only [hop, Option.bind_eq_some_iff] at h ⊢
    obtain ⟨cb, hc, h⟩ := h
    have hcv := E hc
    split at h
    · obtain ⟨h1, h2⟩ := keeps h
      have e : a.eval c = .bool true := by generalize a.eval c = q at hcv; cases hcv; rfl
      exact ⟨h2, _, by rw [e]; rfl, E h1⟩
    · obtain ⟨h1, h2⟩ := keeps h
      have e : a.eval c = .bool false := by generalize a.eval c = q at hcv; cases hcv; rfl
      exact ⟨h2, _, by rw [e]; rfl, E h1⟩
    · cases h
  | build t parts =>
    simp only [hop, Option.bind_eq_some_iff] at h ⊢
    obtain ⟨ps, hps, h⟩ := h
    obtain ⟨h1, h2⟩ := keeps h
    have hp := partV_sound hs ht hps
    obtain ⟨cv, h3, h4⟩ := mBuild_sound (P := P) hT hp h1
    refine ⟨h2, cv, run_v (by rw [← h3]; congr 2; apply Array.ext'; simp), h4⟩
  | nilCheck x =>
    simp only [hop, Option.bind_eq_some_iff] at h ⊢
    obtain ⟨u, hu, h⟩ := h
    have hv := E hu
    have hne : u ≠ .pnil ∧ u ≠ .inil ∧ u ≠ .fnil ∧ v = u ∧ st2 = st := by
      split at h
      · cases h
      · cases h
      · cases h
      · rename_i v' h1 h2 h3
        simp only [Option.some.injEq, Prod.mk.injEq] at h
        exact ⟨h1, h2, h3, h.1.symm, h.2.symm⟩
    obtain ⟨n1, n2, n3, rfl, rfl⟩ := hne
    refine ⟨rfl, a.eval x, ?_, hv⟩
    generalize a.eval x = q at hv
    cases hv <;> first | rfl | exact absurd rfl n1 | exact absurd rfl n2 | exact absurd rfl n3
  | binOp op t x y cs =>
    simp only [hop, Option.bind_eq_some_iff] at h ⊢
    obtain ⟨ax, hx, ay, hy, h⟩ := h
    obtain ⟨h1, h2⟩ := keeps h
    obtain ⟨cv, h3, h4⟩ := binAV_sound (P := P) hT (E hx) (E hy) h1
    exact ⟨h2, cv, run_v h3, h4⟩
  | unOp op t x =>
    simp only [hop, Option.bind_eq_some_iff] at h ⊢
    obtain ⟨ax, hx, h⟩ := h
    obtain ⟨h1, h2⟩ := keeps h
    obtain ⟨cv, h3, h4⟩ := unAV_sound (P := P) (E hx) h1
    exact ⟨h2, cv, run_v h3, h4⟩
  | makeInterface t x =>
    simp only [hop, Option.bind_eq_some_iff] at h ⊢
    obtain ⟨d, hd, _, hc, u, hu, _, hc2, h⟩ := h
    simp only [Option.some.injEq, Prod.mk.injEq] at h
    obtain ⟨rfl, rfl⟩ := h
    have hc := chk_some hc
    refine ⟨rfl, .iface t (a.eval x), run_v ?_, .ifc t u _ (E hu)⟩
    unfold Instr.makeInterface
    simp only [Sem.run_bind, run_underlying (hT.under hd), Result.andThen_ok]
    cases d <;> first | rfl | (cases hc)
  | makeFunc fn first captured =>
    simp only [hop] at h ⊢
    cases fn with
    | func f =>
      simp only at h
      cases hc : Nat.beq first.size 0 with
      | false =>
        rw [hc] at h
        simp only [cond_false, Option.bind_eq_some_iff] at h
        obtain ⟨_, hc2, cs, hcs, h⟩ := h
        simp only [Option.some.injEq, Prod.mk.injEq] at h
        obtain ⟨rfl, rfl⟩ := h
        have hc2 := chk_some hc2
        have hf : captured = #[] := by apply Array.eq_empty_of_size_eq_zero; simpa using hc2
        subst hf
        obtain ⟨h1, h2⟩ := vals_sound hs ht hcs
        refine ⟨rfl, _, run_v rfl, ?_⟩
        have := VR.bnd (C := C) (w := w) (O := O) (B := B) (M := M) f cs (first.toList.map a.eval) (by simp [h1]) h2
        have e : (first.toList.map a.eval).toArray = first.map a.eval := by apply Array.ext'; simp
        rw [e] at this
        simpa using this
      | true =>
      rw [hc] at h
      simp only [cond_true, Option.bind_eq_some_iff] at h
      obtain ⟨cs, hcs, h⟩ := h
      simp only [Option.some.injEq, Prod.mk.injEq] at h
      obtain ⟨rfl, rfl⟩ := h
      have hf : first = #[] := by apply Array.eq_empty_of_size_eq_zero; simpa using hc
      subst hf
      obtain ⟨h1, h2⟩ := vals_sound hs ht hcs
      refine ⟨rfl, _, run_v rfl, ?_⟩
      have := VR.clo (C := C) (w := w) (O := O) (B := B) (M := M) f cs (captured.toList.map a.eval) (by simp [h1]) h2
      have e : (captured.toList.map a.eval).toArray = captured.map a.eval := by apply Array.ext'; simp
      rw [e] at this
      simpa using this
    | _ => cases h
  | convert src dst x =>
    simp only [hop, Option.bind_eq_some_iff] at h ⊢
    rw [hop] at hq
    have hd : isInt C dst = true := hq
    obtain ⟨k, hk⟩ := isInt_some hd
    obtain ⟨u, hu, h⟩ := h
    have hc : (mConvert C src dst u st.heap).map (keep st) = some (v, st2) := by
      split at h
      · rw [hk] at h; exact h
      · exact h
    obtain ⟨h1, h2⟩ := keeps hc
    rw [mConvert_int (H' := []) hd] at h1
    obtain ⟨cv, h3, h4⟩ := mConvert_sound (P := P) hT hs (E hu) h1
    exact ⟨h2, cv, run_v h3, h4⟩
  | fieldAddr s x f =>
    simp only [hop, Option.bind_eq_some_iff] at h ⊢
    obtain ⟨u, hu, h⟩ := h
    obtain ⟨h1, h2⟩ := keeps h
    obtain ⟨cv, h3, h4⟩ := mFieldAddr_sound (P := P) hT (E hu) h1
    exact ⟨h2, cv, run_v h3, h4⟩
  | field s x f =>
    simp only [hop, Option.bind_eq_some_iff] at h ⊢
    obtain ⟨u, hu, h⟩ := h
    obtain ⟨h1, h2⟩ := keeps h
    obtain ⟨cv, h3, h4⟩ := mField_sound (P := P) hT (E hu) h1
    exact ⟨h2, cv, run_v h3, h4⟩
  | indexAddr t x ix =>
    simp only [hop, Option.bind_eq_some_iff] at h ⊢
    obtain ⟨u, hu, i, hi, h⟩ := h
    obtain ⟨h1, h2⟩ := keeps h
    obtain ⟨cv, h3, h4⟩ := mIndexAddr_sound (P := P) hT (E hu) (E hi) h1
    exact ⟨h2, cv, run_v h3, h4⟩
  | index t x ix =>
    simp only [hop, Option.bind_eq_some_iff] at h ⊢
    obtain ⟨u, hu, i, hi, h⟩ := h
    obtain ⟨h1, h2⟩ := keeps h
    obtain ⟨cv, h3, h4⟩ := mIndex_sound (P := P) hT (E hu) (E hi) h1
    exact ⟨h2, cv, run_v h3, h4⟩
  | extract x i =>
    simp only [hop, Option.bind_eq_some_iff] at h ⊢
    obtain ⟨u, hu, h⟩ := h
    have hv := E hu
    split at h
    · rename_i vs
      obtain ⟨h1, h2⟩ := keeps h
      obtain ⟨hlt, rfl⟩ := getL_some h1
      generalize a.eval x = q at hv
      cases hv with
      | tup _ us hl hr =>
        refine ⟨h2, us[i]'(by omega), run_v ?_, hr i hlt (by omega)⟩
        simp [Instr.extract, List.getElem?_eq_getElem (show i < us.length by omega)]
    · cases h
  | call c =>
    rw [hop] at hq
    simp only [hop, Option.bind_eq_some_iff] at h ⊢
    obtain ⟨callee, args, argTypes⟩ := c
    simp only at h hq ⊢
    obtain ⟨vs, hvs, h⟩ := h
    obtain ⟨hl, hr⟩ := vals_sound hs ht hvs
    have hargs : args.map a.eval = (args.toList.map a.eval).toArray := by apply Array.ext'; simp
    have hl2 : (args.toList.map a.eval).length = vs.length := by simp [hl]
    have one : ∀ u, vs = [u] → ∃ cu, args.map a.eval = #[cu] ∧ VR C w O B M u cu := fun u e => by
      subst e
      obtain ⟨cu, e2⟩ := List.length_eq_one_iff.1 hl2
      refine ⟨cu, by rw [hargs, e2], ?_⟩
      have := hr 0 (by simp) (by rw [e2]; simp)
      simpa [e2] using this
    have two : ∀ u u', vs = [u, u'] → ∃ cu cu', args.map a.eval = #[cu, cu'] ∧ VR C w O B M u cu ∧ VR C w O B M u' cu' := fun u u' e => by
      subst e
      obtain ⟨cu, cu', e2⟩ := list_two hl2
      refine ⟨cu, cu', by rw [hargs, e2], ?_, ?_⟩
      · have := hr 0 (by simp) (by rw [e2]; simp)
        simpa [e2] using this
      · have := hr 1 (by simp) (by rw [e2]; simp)
        simpa [e2] using this
    cases callee with
    | builtin b =>
      cases b with
      | len =>
        simp only at h
        split at h
        · rename_i t tr u e1
          obtain ⟨h1, h2⟩ := keeps h
          have h0 : argTypes[0]? = some t := by rw [← Array.getElem?_toList, e1]; rfl
          obtain ⟨cu, e2, hx⟩ := one _ rfl
          have hnm : isMap C t = false := by
            have hq : (match argTypes.toList with | t :: _ => !(isMap C t) | [] => false) = true := hq
            rw [e1] at hq
            simpa using hq
          obtain ⟨cv, h3, h4⟩ := mLen_sound (P := P) (ty := o.type) hT (.inl hnm) h0 hx h1
          refine ⟨h2, cv, ?_, h4⟩
          simp only [resolve, e2, invoke, builtin, Sem.run_bind, Sem.run_pure, Result.andThen_ok, h3]
        · cases h
      | cap =>
        simp only at h
        split at h
        · rename_i t tr u e1
          obtain ⟨h1, h2⟩ := keeps h
          have h0 : argTypes[0]? = some t := by rw [← Array.getElem?_toList, e1]; rfl
          obtain ⟨cu, e2, hx⟩ := one _ rfl
          obtain ⟨cv, h3, h4⟩ := mCap_sound (P := P) (ty := o.type) hT h0 hx h1
          refine ⟨h2, cv, ?_, h4⟩
          simp only [resolve, e2, invoke, builtin, Sem.run_bind, Sem.run_pure, Result.andThen_ok, h3]
        · cases h
      | min =>
        simp only at h
        split at h
        · rename_i k x k' y
          simp only [Option.some.injEq, Prod.mk.injEq] at h
          obtain ⟨rfl, rfl⟩ := h
          obtain ⟨cu, cu', e2, hx, hy⟩ := two _ _ rfl
          cases hx
          cases hy
          refine ⟨rfl, _, ?_, .int _ _⟩
          simp [resolve, e2, invoke, builtin, Builtin.min_, Builtin.min2]
        · cases h
      | max =>
        simp only at h
        split at h
        · rename_i k x k' y
          simp only [Option.some.injEq, Prod.mk.injEq] at h
          obtain ⟨rfl, rfl⟩ := h
          obtain ⟨cu, cu', e2, hx, hy⟩ := two _ _ rfl
          cases hx
          cases hy
          refine ⟨rfl, _, ?_, .int _ _⟩
          simp [resolve, e2, invoke, builtin, Builtin.max_, Builtin.max2]
        · cases h
      | _ => simp [quiet] at hq
    | _ => simp [quiet] at hq
  | _ => rw [hop] at hq; simp [quiet] at hq

end
end Go.Ev
