/- A PART OF THE PROOF THAT SAVETEXTS HOLDS FOR EVERY INPUT OF BULK AT MOST 1048576. No condition beyond the given statement. This part: EvOps8. -/
import Derived.Test.YtciahohaonhdgaaGreatDoorEvOps5
import Derived.Laws.StructEq
namespace Go.Ev
open Go
section
variable {P : Program} {C : Ctx} {w : World} {O B : Nat → Prop} {M : MapB} {H : Heap}
theorem VR.str_inv {s : List UInt8} {cv : Value} (h : VR C w O B M (.str s) cv) : ∃ bs : ByteArray, cv = .string bs ∧ bs.data.toList = s := by
 cases h with
 | str _ bs h => exact ⟨bs, rfl, h⟩
theorem beq_bytes (a b : ByteArray) : (a == b) = (a.data.toList == b.data.toList) := by
 rw [beq_toListBytes, ByteArray.toList_eq, ByteArray.toList_eq]
theorem run_readAt (hT : TyOk P C) {t : TypeId} {i : TI} (hi : C.ti t = some i) {cs : List AV} {vs : List Value} (hc : CR C w O B M cs vs) {off : Nat} {v : AV} (h : readAt i (cs.drop off) = some v) :
  ∃ cv, (∀ w' : World, (part t vs.toArray off).run P w' = .ok cv w') ∧ VR C w O B M v cv := by
 obtain ⟨h1, h2⟩ := hT.ty t i hi
 rcases readAt_sound (hc.drop off) h with ⟨ha, hle, hv, _⟩ | ⟨ha, hlt, hv, _⟩
 ·refine ⟨.agg ((vs.drop off).take i.info.size).toArray, fun w' => ?_, hv⟩
  simp only [part, Sem.run_bind, run_isAgg h1, Result.andThen_ok, ha, if_true, run_sizeOf h2, Sem.run_pure]
  congr 2
  apply Array.ext'
  simp [List.extract_eq_take_drop]
 ·have h3 : vs.toArray[off]? = some (vs.drop off)[0] := by simp at hlt ⊢
  refine ⟨(vs.drop off)[0], fun w' => ?_, hv⟩
  simp only [part, Sem.run_bind, run_isAgg h1, Result.andThen_ok, ha, h3]
  rfl
theorem eqFields_run {_d n : Nat} {xs ys : Array Value} {w' : World} {fs : List Field} {f : Field} {a b : Value} {q : Bool} (hne : f.name ≠ "_") (ha : (part f.type xs f.offset).run P w' = .ok a w') (hb : (part f.type ys f.offset).run P w' = .ok b w')
  (hq : (Op.equalIn n f.type a b).run P w' = .ok q w') : (Op.eqFields n xs ys (f :: fs)).run P w' = if q = true then (Op.eqFields n xs ys fs).run P w' else .ok false w' := by
 simp only [Op.eqFields, ne_eq, hne, not_false_eq_true, if_true, Sem.run_bind, ha, hb, hq, Result.andThen_ok]
 cases q <;> simp
def arrEq (n : Nat) (e : TypeId) (sz : Nat) (xs ys : Array Value) : Nat → Nat → Sem Bool
 | 0, _ => pure true
 | k + 1, i => do
  let a ← part e xs (i * sz)
  let b ← part e ys (i * sz)
  let r ← Op.equalIn n e a b
  if (!r) = true then pure false else arrEq n e sz xs ys k (i + 1)
theorem run_equalIn_array (d : Nat) (t e : TypeId) (len : Nat) (i : TypeInfo) (xs ys : Array Value) (w' : World) (ht : P.underlying t = some (.array len e)) (hi : P.info? e = some i) :
  (Op.equalIn (d + 1) t (.agg xs) (.agg ys)).run P w' = (arrEq d e i.size xs ys len 0).run P w' := by
 simp only [Op.equalIn, Sem.run_bind, run_underlying ht, Result.andThen_ok, run_sizeOf hi]
 rw [Std.Legacy.Range.forIn_eq_forIn_range']
 simp only [Std.Legacy.Range.size, Nat.sub_zero, Nat.add_sub_cancel, Nat.div_one]
 clear ht
 generalize 0 = s
 induction len generalizing s w' with
 | zero => simp [arrEq]
 | succ k ih =>
  simp only [List.range'_succ, List.forIn_cons, arrEq, Sem.run_bind, Sem.run_ite]
  generalize (part e xs (s * i.size)).run P w' = r1
  cases r1 with
  | halt x w1 => simp [Result.andThen]
  | ok a w1 =>
   simp only [Result.andThen_ok]
   generalize (part e ys (s * i.size)).run P w1 = r2
   cases r2 with
   | halt x w2 => simp [Result.andThen]
   | ok b w2 =>
    simp only [Result.andThen_ok]
    generalize (Op.equalIn d e a b).run P w2 = r3
    cases r3 with
    | halt x w3 => simp [Result.andThen]
    | ok r w3 =>
     cases r
     ·simp
     ·simp only [Result.andThen_ok, Bool.not_true, Bool.false_eq_true, if_false, Sem.run_pure]
      exact ih w3 (s + 1)
set_option maxHeartbeats 2000000
mutual
theorem eqOp_sound (hT : TyOk P C) : ∀ (d : Nat) {t : TypeId} {x y : AV} {cx cy : Value} {b : Bool}, VR C w O B M x cx → VR C w O B M y cy → eqOp C d t x y = some b → ∀ n, d ≤ n → ∀ w' : World, (Op.equalIn n t cx cy).run P w' = .ok b w'
 | 0, _, _, _, _, _, _, _, _, h => by simp [eqOp] at h
 | d + 1, t, x, y, cx, cy, b, hx, hy, h => by
  intro n hn w'
  obtain ⟨n, rfl⟩ : ∃ m, n = m + 1 := ⟨n - 1, by omega⟩
  simp only [eqOp, Option.bind_eq_some_iff] at h
  obtain ⟨i, hi, h⟩ := h
  obtain ⟨h1, h2⟩ := hT.ty t i hi
  split at h
  ·rename_i hd
   rw [hd] at h1
   cases hx; cases hy
   simp only [Option.some.injEq] at h; subst h
   simp [Op.equalIn, run_underlying h1]
  ·rename_i hd
   rw [hd] at h1
   cases hx; cases hy
   split at h
   ·rename_i hk
    subst hk
    simp only [Option.some.injEq] at h; subst h
    simp [Op.equalIn, run_underlying h1]
   ·cases h
  ·rename_i hd
   rw [hd] at h1
   obtain ⟨b1, rfl, h3⟩ := hx.str_inv
   obtain ⟨b2, rfl, h4⟩ := hy.str_inv
   subst h3; subst h4
   simp only [Option.some.injEq] at h; subst h
   simp [Op.equalIn, run_underlying h1, beq_bytes]
  all_goals try (rename_i hd; rw [hd] at h1; cases hx <;> cases hy <;> (simp only [Option.some.injEq] at h; subst h; simp [Op.equalIn, run_underlying h1]))
  ·rename_i fs xs ys hd
   simp only [Option.bind_eq_some_iff] at h
   obtain ⟨_, hq, h⟩ := h
   obtain ⟨_, h4, h5⟩ := hT.eq t i hi (chk_some hq)
   obtain ⟨vs, rfl, hcx⟩ := hx.agg_cells
   obtain ⟨us, rfl, hcy⟩ := hy.agg_cells
   have hf : P.fieldsOf t = fs := by simp [Program.fieldsOf, h1, hd]
   rw [run_equalIn_struct w' n t _ _ (by rw [hf, h1, hd]) h4, hf]
   exact eqFields_sound hT d hcx hcy (h5 fs hd) h n (by omega) w'
  ·rename_i k e xs ys hd
   simp only [Option.bind_eq_some_iff] at h
   obtain ⟨_, hq, ei, hei, h⟩ := h
   obtain ⟨vs, rfl, hcx⟩ := hx.agg_cells
   obtain ⟨us, rfl, hcy⟩ := hy.agg_cells
   rw [run_equalIn_array n t e k ei.info _ _ w' (by rw [h1, hd]) (hT.ty e ei hei).2]
   exact eqElems_sound hT d hei hcx hcy k 0 (by simpa using h) n (by omega) w'
  ·cases h
theorem eqFields_sound (hT : TyOk P C) : ∀ (d : Nat) {fs : List Field} {xs ys : List AV} {vs us : List Value} {b : Bool}, CR C w O B M xs vs → CR C w O B M ys us → (∀ f ∈ fs, f.name ≠ "_") → eqFields C d fs xs ys = some b → ∀ n, d ≤ n → ∀ w' : World, (Op.eqFields n vs.toArray us.toArray fs).run P w' = .ok b w'
 | 0, fs, _, _, _, _, _, _, _, _, h => by cases fs <;> simp [eqFields] at h
 | d + 1, [], _, _, _, _, b, _, _, _, h => by
  intro n hn w'
  simp only [eqFields, Option.some.injEq] at h
  subst h
  rfl
 | d + 1, f :: r, xs, ys, vs, us, b, hx, hy, hne, h => by
  intro n hn w'
  simp only [eqFields, Option.bind_eq_some_iff] at h
  obtain ⟨fi, hfi, a, ha, c, hc, q, hq, h⟩ := h
  obtain ⟨ca, ha1, ha2⟩ := run_readAt (P := P) hT hfi hx ha
  obtain ⟨cc, hc1, hc2⟩ := run_readAt (P := P) hT hfi hy hc
  have he := eqOp_sound hT d ha2 hc2 hq n (by omega) w'
  rw [eqFields_run (_d := d) (hne f (by simp)) (ha1 w') (hc1 w') he]
  cases q with
  | true =>
   simp only [cond_true] at h
   simp only [if_true]
   exact eqFields_sound hT d hx hy (fun g hg => hne g (by simp [hg])) h n (by omega) w'
  | false =>
   simp only [cond_false, Option.some.injEq] at h
   subst h
   simp
theorem eqElems_sound (hT : TyOk P C) : ∀ (d : Nat) {e : TypeId} {ei : TI} {xs ys : List AV} {vs us : List Value} {b : Bool}, C.ti e = some ei → CR C w O B M xs vs → CR C w O B M ys us → ∀ k s, eqElems C d e ei k (xs.drop (s * ei.info.size)) (ys.drop (s * ei.info.size)) = some b →
  ∀ n, d ≤ n → ∀ w' : World, (arrEq n e ei.info.size vs.toArray us.toArray k s).run P w' = .ok b w'
 | 0, _, _, _, _, _, _, _, _, _, _, k, _, h => by cases k <;> simp [eqElems] at h
 | d + 1, _, _, _, _, _, _, b, _, _, _, 0, _, h => by
  intro n hn w'
  simp only [eqElems, Option.some.injEq] at h
  subst h
  rfl
 | d + 1, e, ei, xs, ys, vs, us, b, hei, hx, hy, k + 1, s, h => by
  intro n hn w'
  simp only [eqElems, Option.bind_eq_some_iff] at h
  obtain ⟨a, ha, c, hc, q, hq, h⟩ := h
  obtain ⟨ca, ha1, ha2⟩ := run_readAt (P := P) hT hei hx ha
  obtain ⟨cc, hc1, hc2⟩ := run_readAt (P := P) hT hei hy hc
  have he := eqOp_sound hT d ha2 hc2 hq n (by omega) w'
  simp only [arrEq, Sem.run_bind, ha1, hc1, he, Result.andThen_ok]
  cases q with
  | true =>
   simp only [cond_true, List.drop_drop] at h
   simp only [Bool.not_true, Bool.false_eq_true, if_false]
   exact eqElems_sound hT d hei hx hy k (s + 1) (by rw [Nat.add_mul, Nat.one_mul]; exact h) n (by omega) w'
  | false =>
   simp only [cond_false, Option.some.injEq] at h
   subst h
   simp
end
end
end Go.Ev
namespace Go.Ev
open Go
set_option maxHeartbeats 2000000
section
variable {P : Program} {C : Ctx} {w : World} {O B : Nat → Prop} {M : MapB} {H : Heap}
theorem bytesLess_eq : ∀ a b : List UInt8, bytesLess a b = Op.bytesLess a b
 | _, [] => by cases ‹List UInt8› <;> rfl
 | [], _ :: _ => rfl
 | a :: x, b :: y => by simp only [bytesLess, Op.bytesLess, bytesLess_eq x y]
theorem eqGuard_other (hT : TyOk P C) {op : BinOp} {t : TypeId} {x y : AV} {cx cy : Value} {ox oy : Operand} (hx : VR C w O B M x cx) (hy : VR C w O B M y cy) {d : Nat} {b : Bool} (h : eqOp C d t x y = some b) :
  (eqGuard op t ox oy cx cy).run P w = .ok () w := by
 cases d with
 | zero => simp [eqOp] at h
 | succ d =>
  simp only [eqOp, Option.bind_eq_some_iff] at h
  obtain ⟨i, hi, h⟩ := h
  obtain ⟨h1, h2⟩ := hT.ty t i hi
  split at h
  all_goals first
   | (cases hx; cases hy; cases op <;> simp [eqGuard]; done)
   | skip
  ·simp only [Option.bind_eq_some_iff] at h
   obtain ⟨_, hq, h⟩ := h
   obtain ⟨h3, h4, _⟩ := hT.eq t i hi (chk_some hq)
   obtain ⟨vs, rfl, _⟩ := hx.agg_cells
   obtain ⟨us, rfl, _⟩ := hy.agg_cells
   exact run_eqGuard_agg w op t ox oy _ _ h3
  ·simp only [Option.bind_eq_some_iff] at h
   obtain ⟨_, hq, h⟩ := h
   obtain ⟨h3, h4, _⟩ := hT.eq t i hi (chk_some hq)
   obtain ⟨vs, rfl, _⟩ := hx.agg_cells
   obtain ⟨us, rfl, _⟩ := hy.agg_cells
   exact run_eqGuard_agg w op t ox oy _ _ h3
  ·cases h
theorem isLit_sound {x y : Operand} (h : (isLit x || isLit y) = true) : ((x matches .const _) || (y matches .const _)) = true := by
 cases x <;> cases y <;> first | rfl | (simp [isLit] at h)
theorem run_equalIn_nil (d : Nat) {t : TypeId} {ms : Array (String × TypeId)} (h : P.underlying t = some (.interface ms)) : (Op.equalIn (d + 1) t .nilIface .nilIface).run P w = .ok true w := by
 simp [Op.equalIn, run_underlying h]
theorem eqAny_sound (hT : TyOk P C) {op : BinOp} (hop : op = .eql ∨ op = .neq) {t : TypeId} {x y : AV} {cx cy : Value} {ox oy : Operand} (hx : VR C w O B M x cx) (hy : VR C w O B M y cy) {b : Bool} (h : eqAny C t (isLit ox || isLit oy) x y = some b) :
  (eqGuard op t ox oy cx cy).run P w = .ok () w ∧ (Op.equal t cx cy).run P w = .ok b w := by
 unfold eqAny at h
 split at h
 ·simp only [Option.bind_eq_some_iff] at h
  obtain ⟨_, hl, h⟩ := h
  have hl := isLit_sound (chk_some hl)
  split at h
  ·rename_i ms hd
   obtain rfl := Option.some.inj h
   have hu := hT.under hd
   cases hx; cases hy
   constructor
   ·unfold eqGuard
    rcases hop with rfl | rfl <;> cases ox <;> cases oy <;> simp_all
   ·exact run_equalIn_nil 9999 hu
  ·cases h
 ·exact ⟨eqGuard_other hT hx hy h, eqOp_sound hT _ hx hy h _ (by simp [Op.maxDepth]) w⟩
theorem eqAny_binOp {t : TypeId} {x y : AV} {cx cy : Value} {lit : Bool} {b : Bool} (hx : VR C w O B M x cx) (hy : VR C w O B M y cy) (h : eqAny C t lit x y = some b)
  (h1 : ∀ k a k' b', x = .int k a → y = .int k' b' → False) (h2 : ∀ a b', x = .str a → y = .str b' → False) :
  binOp .eql t cx cy = (do pure (.bool (← Op.equal t cx cy))) ∧ binOp .neq t cx cy = (do pure (.bool (!(← Op.equal t cx cy)))) := by
 unfold eqAny at h
 split at h
 ·cases hx; cases hy; exact ⟨rfl, rfl⟩
 ·simp only [eqOp, Option.bind_eq_some_iff] at h
  obtain ⟨i, hi, h⟩ := h
  split at h
  all_goals first
   | (cases h; done)
   | exact (h1 _ _ _ _ rfl rfl).elim
   | exact (h2 _ _ rfl rfl).elim
   | (cases hx; cases hy; exact ⟨rfl, rfl⟩)
theorem intOp_sound {op : BinOp} {k : IntKind} {a b : Int} {v : AV} (h : intOp op k a b = some v) (t : TypeId) (hs : op ≠ .shl ∧ op ≠ .shr) : ∃ cv, (binOp op t (.int k a) (.int k b)).run P w = .ok cv w ∧ VR C w O B M v cv := by
 unfold intOp at h
 cases op <;> simp only [Option.some.injEq, Option.bind_eq_some_iff] at h
 case shl => exact absurd rfl hs.1
 case shr => exact absurd rfl hs.2
 case quo =>
  obtain ⟨_, hc, h⟩ := h
  have hc := chk_some hc
  have hb : b ≠ 0 := by simpa using hc
  subst h
  exact ⟨_, by simp [binOp, Op.intDiv, hb], .int _ _⟩
 case rem =>
  obtain ⟨_, hc, h⟩ := h
  have hc := chk_some hc
  have hb : b ≠ 0 := by simpa using hc
  subst h
  exact ⟨_, by simp [binOp, Op.intDiv, hb], .int _ _⟩
 all_goals subst h
 all_goals first
  | exact ⟨_, by simp only [binOp, ne_eq, not_true_eq_false, if_false]; rfl, .int _ _⟩
  | exact ⟨_, by simp only [binOp, ne_eq, not_true_eq_false, if_false]; rfl, .bool _⟩
theorem strOp_sound {op : BinOp} {x y : List UInt8} {cx cy : Value} {v : AV} (hx : VR C w O B M (.str x) cx) (hy : VR C w O B M (.str y) cy) (h : strOp op x y = some v) (t : TypeId) : ∃ cv, (binOp op t cx cy).run P w = .ok cv w ∧ VR C w O B M v cv := by
  obtain ⟨a, rfl, rfl⟩ := hx.str_inv
  obtain ⟨b, rfl, rfl⟩ := hy.str_inv
  have ea : a.toList = a.data.toList := ByteArray.toList_eq a
  have eb : b.toList = b.data.toList := ByteArray.toList_eq b
  unfold strOp at h
  cases op <;> simp only [Option.some.injEq, Option.bind_eq_some_iff] at h
  case add =>
    obtain ⟨_, hc, h⟩ := h
    have hc : a.data.toList.length + b.data.toList.length ≤ 9223372036854775807 := by simpa using chk_some hc
    subst h
    have hle : ¬ (((a.size + b.size : Nat) : Int) > IntKind.i64.max) := by
      have e1 : a.data.toList.length = a.size := by simp
      have e2 : b.data.toList.length = b.size := by simp
      have : IntKind.i64.max = 9223372036854775807 := rfl
      rw [this]
      omega
    refine ⟨.string (a ++ b), ?_, .str _ _ (by simp)⟩
    show (Op.stringOp .add a b).run P w = _
    unfold Op.stringOp
    simp only [hle, if_false]
    rfl
  all_goals first
    | (cases h; done)
    | (subst h
       refine ⟨_, ?_, .bool _⟩
       simp only [binOp, Op.stringOp, ea, eb, bytesLess_eq, Sem.run_pure])
theorem binAV_sound (hT : TyOk P C) {op : BinOp} {t : TypeId} {x y v : AV} {cx cy : Value} {ox oy : Operand} (hx : VR C w O B M x cx) (hy : VR C w O B M y cy) (h : binAV C op t (isLit ox || isLit oy) x y = some v) :
  ∃ cv, (do eqGuard op t ox oy cx cy; binOp op t cx cy : Sem Value).run P w = .ok cv w ∧ VR C w O B M v cv := by
 unfold binAV at h
 split at h
 ·cases hx; cases hy
  simp only [shiftOp, Option.bind_eq_some_iff, Option.some.injEq] at h
  obtain ⟨_, hc, rfl⟩ := h
  have hc := chk_some hc
  have hn := Int.not_lt.2 (of_decide_eq_true hc)
  exact ⟨_, by simp [eqGuard, binOp, Op.shift, hn], .int _ _⟩
 ·cases hx; cases hy
  simp only [shiftOp, Option.bind_eq_some_iff, Option.some.injEq] at h
  obtain ⟨_, hc, rfl⟩ := h
  have hc := chk_some hc
  have hn := Int.not_lt.2 (of_decide_eq_true hc)
  exact ⟨_, by simp [eqGuard, binOp, Op.shift, hn], .int _ _⟩
 ·rename_i h1 h2
  cases hx; cases hy
  split at h
  ·rename_i hk
   subst hk
   have hs : op ≠ .shl ∧ op ≠ .shr := ⟨fun e => by first | exact h1 e | exact h1 _ _ _ _ e rfl rfl, fun e => by first | exact h2 e | exact h2 _ _ _ _ e rfl rfl⟩
   obtain ⟨cv, hr, hv⟩ := intOp_sound (P := P) (C := C) (w := w) (O := O) (B := B) (M := M) h t hs
   exact ⟨cv, by simp [eqGuard_at_int, hr], hv⟩
  ·cases h
 ·obtain ⟨a, rfl, _⟩ := hx.str_inv
  obtain ⟨cv, hr, hv⟩ := strOp_sound (P := P) hx hy h t
  exact ⟨cv, by simp [eqGuard_at_string, hr], hv⟩
 ·rename_i h3 h4
  simp only [Option.map_eq_some_iff] at h
  obtain ⟨b, hb, rfl⟩ := h
  obtain ⟨hg, he⟩ := eqAny_sound (P := P) hT (.inl rfl) hx hy hb
  obtain ⟨h5, _⟩ := eqAny_binOp hx hy hb (fun k a k' b' e1 e2 => h3 k a k' b' e1 e2) (fun a b' e1 e2 => h4 a b' e1 e2)
  exact ⟨.bool b, by simp only [Sem.run_bind, hg, Result.andThen_ok, h5, he, Sem.run_pure], .bool _⟩
 ·rename_i h3 h4
  simp only [Option.map_eq_some_iff] at h
  obtain ⟨b, hb, rfl⟩ := h
  obtain ⟨hg, he⟩ := eqAny_sound (P := P) hT (.inr rfl) hx hy hb
  obtain ⟨_, h5⟩ := eqAny_binOp hx hy hb (fun k a k' b' e1 e2 => h3 k a k' b' e1 e2) (fun a b' e1 e2 => h4 a b' e1 e2)
  exact ⟨.bool (!b), by simp only [Sem.run_bind, hg, Result.andThen_ok, h5, he, Sem.run_pure], .bool _⟩
 ·cases h
theorem unAV_sound {op : UnOp} {x v : AV} {cx : Value} (hx : VR C w O B M x cx) (h : unAV op x = some v) : ∃ cv, (Op.unary op cx).run P w = .ok cv w ∧ VR C w O B M v cv := by
 unfold unAV at h
 split at h
 ·cases hx; obtain rfl := Option.some.inj h
  exact ⟨_, rfl, .bool _⟩
 ·cases hx; obtain rfl := Option.some.inj h
  exact ⟨_, by simp [Op.unary, Op.intArith], .int _ _⟩
 ·cases hx
  simp only [intOp, Option.some.injEq] at h
  subst h
  exact ⟨_, by simp only [Op.unary]; rfl, .int _ _⟩
 ·cases h
end
end Go.Ev
