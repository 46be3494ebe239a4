/- A PART OF THE PROOF THAT ONE CALL OF A LAW OF LAYER 46 (which of any patches have a line with any word) returns true, whatever the input; the input reads as it did. No condition beyond the given statement. This part: EvOps8. -/
import Derived.Test.YtklmbhogclaieaaGreatDoorEvOps7
import Derived.Laws.StructEq
namespace Go.Ev
open Go

section
variable {P : Program} {C : Ctx} {w : World} {O B : Nat → Prop} {M : MapB} {H : Heap}

theorem VR.str_inv {s : List UInt8} {cv : Value} (h : VR C w O B M (.str s) cv) : ∃ bs : ByteArray, cv = .string bs ∧ bs.data.toList = s := by
  cases h with
  | str _ bs h => exact ⟨bs, rfl, h⟩

theorem beq_bytes (a b : ByteArray) : (a == b) = (a.data.toList == b.data.toList) := by
  rw [beq_toListBytes, ByteArray.toList_eq, ByteArray.toList_eq]

theorem run_readAt (hT : TyOk P C) {t : TypeId} {i : TI} (hi : C.ti t = some i) {cs : List AV} {vs : List Value} (hc : CR C w O B M cs vs) {off : Nat} {v : AV} (h : readAt i (cs.drop off) = some v) :
    ∃ cv, (∀ w' : World, (part t vs.toArray off).run P w' = .ok cv w') ∧ VR C w O B M v cv := by
  obtain ⟨h1, h2⟩ := hT.ty t i hi
  rcases readAt_sound (hc.drop off) h with ⟨ha, hle, hv, _⟩ | ⟨ha, hlt, hv, _⟩
  · refine ⟨.agg ((vs.drop off).take i.info.size).toArray, fun w' => ?_, hv⟩
    simp only [part, Sem.run_bind, run_isAgg h1, Result.andThen_ok, ha, if_true, run_sizeOf h2, Sem.run_pure]
    congr 2
    apply Array.ext'
    simp [List.extract_eq_take_drop]
  · have h3 : vs.toArray[off]? = some (vs.drop off)[0] := by simp at hlt ⊢
    refine ⟨(vs.drop off)[0], fun w' => ?_, hv⟩
    simp only [part, Sem.run_bind, run_isAgg h1, Result.andThen_ok, ha, h3]
    rfl

theorem eqFields_run {_d n : Nat} {xs ys : Array Value} {w' : World} {fs : List Field} {f : Field} {a b : Value} {q : Bool} (hne : f.name ≠ "_") (ha : (part f.type xs f.offset).run P w' = .ok a w') (hb : (part f.type ys f.offset).run P w' = .ok b w')
    (hq : (Op.equalIn n f.type a b).run P w' = .ok q w') : (Op.eqFields n xs ys (f :: fs)).run P w' = if q = true then (Op.eqFields n xs ys fs).run P w' else .ok false w' := by
  simp only [Op.eqFields, ne_eq, hne, not_false_eq_true, if_true, Sem.run_bind, ha, hb, hq, Result.andThen_ok]
  cases q <;> simp

/-- the elements of an array, one behind the other -/
def arrEq (n : Nat) (e : TypeId) (sz : Nat) (xs ys : Array Value) : Nat → Nat → Sem Bool
  | 0, _ => pure true
  | k + 1, i => do
    let a ← part e xs (i * sz)
    let b ← part e ys (i * sz)
    let r ← Op.equalIn n e a b
    if (!r) = true then pure false else arrEq n e sz xs ys k (i + 1)

theorem run_equalIn_array (d : Nat) (t e : TypeId) (len : Nat) (i : TypeInfo) (xs ys : Array Value) (w' : World) (ht : P.underlying t = some (.array len e)) (hi : P.info? e = some i) :
    (Op.equalIn (d + 1) t (.agg xs) (.agg ys)).run P w' = (arrEq d e i.size xs ys len 0).run P w' := by
  simp only [Op.equalIn, Sem.run_bind, run_underlying ht, Result.andThen_ok, run_sizeOf hi]
  rw [Std.Legacy.Range.forIn_eq_forIn_range']
  simp only [Std.Legacy.Range.size, Nat.sub_zero, Nat.add_sub_cancel, Nat.div_one]
  clear ht
  generalize 0 = s
  induction len generalizing s w' with
  | zero => simp [arrEq]
  | succ k ih =>
    simp only [List.range'_succ, List.forIn_cons, arrEq, Sem.run_bind, Sem.run_ite]
    generalize (part e xs (s * i.size)).run P w' = r1
    cases r1 with
    | halt x w1 => simp [Result.andThen]
    | ok a w1 =>
      simp only [Result.andThen_ok]
      generalize (part e ys (s * i.size)).run P w1 = r2
      cases r2 with
      | halt x w2 => simp [Result.andThen]
      | ok b w2 =>
        simp only [Result.andThen_ok]
        generalize (Op.equalIn d e a b).run P w2 = r3
        cases r3 with
        | halt x w3 => simp [Result.andThen]
        | ok r w3 =>
          cases r
          · simp
          · simp only [Result.andThen_ok, Bool.not_true, Bool.false_eq_true, if_false, Sem.run_pure]
            exact ih w3 (s + 1)

set_option maxHeartbeats 2000000
mutual
theorem eqOp_sound (hT : TyOk P C) : ∀ (d : Nat) {t : TypeId} {x y : AV} {cx cy : Value} {b : Bool}, VR C w O B M x cx → VR C w O B M y cy → eqOp C d t x y = some b → ∀ n, d ≤ n → ∀ w' : World, (Op.equalIn n t cx cy).run P w' = .ok b w'
  | 0, _, _, _, _, _, _, _, _, h => by simp [eqOp] at h
  | d + 1, t, x, y, cx, cy, b, hx, hy, h => by
    intro n hn w'
    obtain ⟨n, rfl⟩ : ∃ m, n = m + 1 := ⟨n - 1, by omega⟩
    simp only [eqOp, Option.bind_eq_some_iff] at h
    obtain ⟨i, hi, h⟩ := h
    obtain ⟨h1, h2⟩ := hT.ty t i hi
    split at h
    · rename_i hd
      rw [hd] at h1
      cases hx; cases hy
      simp only [Option.some.injEq] at h; subst h
      simp [Op.equalIn, run_underlying h1]
    · rename_i hd
      rw [hd] at h1
      cases hx; cases hy
      split at h
      · rename_i hk
        subst hk
        simp only [Option.some.injEq] at h; subst h
        simp [Op.equalIn, run_underlying h1]
      · cases h
    · rename_i hd
      rw [hd] at h1
      obtain ⟨b1, rfl, h3⟩ := hx.str_inv
      obtain ⟨b2, rfl, h4⟩ := hy.str_inv
      subst h3; subst h4
      simp only [Option.some.injEq] at h; subst h
      simp [Op.equalIn, run_underlying h1, beq_bytes]
    all_goals try (rename_i hd; rw [hd] at h1; cases hx <;> cases hy <;> (simp only [Option.some.injEq] at h; subst h; simp [Op.equalIn, run_underlying h1]))
    · rename_i fs xs ys hd
      simp only [Option.bind_eq_some_iff] at h
      obtain ⟨_, hq, h⟩ := h
      obtain ⟨_, h4, h5⟩ := hT.eq t i hi (chk_some hq)
      obtain ⟨vs, rfl, hcx⟩ := hx.agg_cells
      obtain ⟨us, rfl, hcy⟩ := hy.agg_cells
      have hf : P.fieldsOf t = fs := by simp [Program.fieldsOf, h1, hd]
      rw [run_equalIn_struct w' n t _ _ (by rw [hf, h1, hd]) h4, hf]
      exact eqFields_sound hT d hcx hcy (h5 fs hd) h n (by omega) w'
    · rename_i k e xs ys hd
      simp only [Option.bind_eq_some_iff] at h
      obtain ⟨_, hq, ei, hei, h⟩ := h
      obtain ⟨vs, rfl, hcx⟩ := hx.agg_cells
      obtain ⟨us, rfl, hcy⟩ := hy.agg_cells
      rw [run_equalIn_array n t e k ei.info _ _ w' (by rw [h1, hd]) (hT.ty e ei hei).2]
      exact eqElems_sound hT d hei hcx hcy k 0 (by simpa using h) n (by omega) w'
    · cases h
theorem eqFields_sound (hT : TyOk P C) : ∀ (d : Nat) {fs : List Field} {xs ys : List AV} {vs us : List Value} {b : Bool}, CR C w O B M xs vs → CR C w O B M ys us → (∀ f ∈ fs, f.name ≠ "_") → eqFields C d fs xs ys = some b → ∀ n, d ≤ n → ∀ w' : World, (Op.eqFields n vs.toArray us.toArray fs).run P w' = .ok b w'
  | 0, fs, _, _, _, _, _, _, _, _, h => by cases fs <;> simp [eqFields] at h
  | d + 1, [], _, _, _, _, b, _, _, _, h => by
    intro n hn w'
    simp only [eqFields, Option.some.injEq] at h
    subst h
    rfl
  | d + 1, f :: r, xs, ys, vs, us, b, hx, hy, hne, h => by
    intro n hn w'
    simp only [eqFields, Option.bind_eq_some_iff] at h
    obtain ⟨fi, hfi, a, ha, c, hc, q, hq, h⟩ := h
    obtain ⟨ca, ha1, ha2⟩ := run_readAt (P := P) hT hfi hx ha
    obtain ⟨cc, hc1, hc2⟩ := run_readAt (P := P) hT hfi hy hc
    have he := eqOp_sound hT d ha2 hc2 hq n (by omega) w'
    rw [eqFields_run (_d := d) (hne f (by simp)) (ha1 w') (hc1 w') he]
    cases q with
    | true =>
      simp only [cond_true] at h
      simp only [if_true]
      exact eqFields_sound hT d hx hy (fun g hg => hne g (by simp [hg])) h n (by omega) w'
    | false =>
      simp only [cond_false, Option.some.injEq] at h
      subst h
      simp
theorem eqElems_sound (hT : TyOk P C) : ∀ (d : Nat) {e : TypeId} {ei : TI} {xs ys : List AV} {vs us : List Value} {b : Bool}, C.ti e = some ei → CR C w O B M xs vs → CR C w O B M ys us → ∀ k s, eqElems C d e ei k (xs.drop (s * ei.info.size)) (ys.drop (s * ei.info.size)) = some b →
    ∀ n, d ≤ n → ∀ w' : World, (arrEq n e ei.info.size vs.toArray us.toArray k s).run P w' = .ok b w'
  | 0, _, _, _, _, _, _, _, _, _, _, k, _, h => by cases k <;> simp [eqElems] at h
  | d + 1, _, _, _, _, _, _, b, _, _, _, 0, _, h => by
    intro n hn w'
    simp only [eqElems, Option.some.injEq] at h
    subst h
    rfl
  | d + 1, e, ei, xs, ys, vs, us, b, hei, hx, hy, k + 1, s, h => by
    intro n hn w'
    simp only [eqElems, Option.bind_eq_some_iff] at h
    obtain ⟨a, ha, c, hc, q, hq, h⟩ := h
    obtain ⟨ca, ha1, ha2⟩ := run_readAt (P := P) hT hei hx ha
    obtain ⟨cc, hc1, hc2⟩ := run_readAt (P := P) hT hei hy hc
    have he := eqOp_sound hT d ha2 hc2 hq n (by omega) w'
    simp only [arrEq, Sem.run_bind, ha1, hc1, he, Result.andThen_ok]
    cases q with
    | true =>
      simp only [cond_true, List.drop_drop] at h
      simp only [Bool.not_true, Bool.false_eq_true, if_false]
      exact eqElems_sound hT d hei hx hy k (s + 1) (by rw [Nat.add_mul, Nat.one_mul]; exact h) n (by omega) w'
    | false =>
      simp only [cond_false, Option.some.injEq] at h
      subst h
      simp
end

end
end Go.Ev
