/- A PART OF THE PROOF THAT ONE CALL OF A LAW OF LAYER 46 (which of any patches have a line with any word) returns true, whatever the input; the input reads as it did. No condition beyond the given statement. This part: EvOps9. -/
import Derived.Test.YtklmbhogclaieaaGreatDoorEvOps8
namespace Go.Ev
open Go

set_option maxHeartbeats 2000000
section
variable {P : Program} {C : Ctx} {w : World} {O B : Nat → Prop} {M : MapB} {H : Heap}

theorem bytesLess_eq : ∀ a b : List UInt8, bytesLess a b = Op.bytesLess a b
  | _, [] => by cases ‹List UInt8› <;> rfl
  | [], _ :: _ => rfl
  | a :: x, b :: y => by simp only [bytesLess, Op.bytesLess, bytesLess_eq x y]

theorem eqGuard_other (hT : TyOk P C) {op : BinOp} {t : TypeId} {x y : AV} {cx cy : Value} {ox oy : Operand} (hx : VR C w O B M x cx) (hy : VR C w O B M y cy) {d : Nat} {b : Bool} (h : eqOp C d t x y = some b) :
    (eqGuard op t ox oy cx cy).run P w = .ok () w := by
  cases d with
  | zero => simp [eqOp] at h
  | succ d =>
    simp only [eqOp, Option.bind_eq_some_iff] at h
    obtain ⟨i, hi, h⟩ := h
    obtain ⟨h1, h2⟩ := hT.ty t i hi
    split at h
    all_goals first
      | (cases hx; cases hy; cases op <;> simp [eqGuard]; done)
      | skip
    · simp only [Option.bind_eq_some_iff] at h
      obtain ⟨_, hq, h⟩ := h
      obtain ⟨h3, h4, _⟩ := hT.eq t i hi (chk_some hq)
      obtain ⟨vs, rfl, _⟩ := hx.agg_cells
      obtain ⟨us, rfl, _⟩ := hy.agg_cells
      exact run_eqGuard_agg w op t ox oy _ _ h3
    · simp only [Option.bind_eq_some_iff] at h
      obtain ⟨_, hq, h⟩ := h
      obtain ⟨h3, h4, _⟩ := hT.eq t i hi (chk_some hq)
      obtain ⟨vs, rfl, _⟩ := hx.agg_cells
      obtain ⟨us, rfl, _⟩ := hy.agg_cells
      exact run_eqGuard_agg w op t ox oy _ _ h3
    · cases h

theorem isLit_sound {x y : Operand} (h : (isLit x || isLit y) = true) : ((x matches .const _) || (y matches .const _)) = true := by
  cases x <;> cases y <;> first | rfl | (simp [isLit] at h)

theorem run_equalIn_nil (d : Nat) {t : TypeId} {ms : Array (String × TypeId)} (h : P.underlying t = some (.interface ms)) : (Op.equalIn (d + 1) t .nilIface .nilIface).run P w = .ok true w := by
  simp [Op.equalIn, run_underlying h]

theorem eqAny_sound (hT : TyOk P C) {op : BinOp} (hop : op = .eql ∨ op = .neq) {t : TypeId} {x y : AV} {cx cy : Value} {ox oy : Operand} (hx : VR C w O B M x cx) (hy : VR C w O B M y cy) {b : Bool} (h : eqAny C t (isLit ox || isLit oy) x y = some b) :
    (eqGuard op t ox oy cx cy).run P w = .ok () w ∧ (Op.equal t cx cy).run P w = .ok b w := by
  unfold eqAny at h
  split at h
  · simp only [Option.bind_eq_some_iff] at h
    obtain ⟨_, hl, h⟩ := h
    have hl := isLit_sound (chk_some hl)
    split at h
    · rename_i ms hd
      obtain rfl := Option.some.inj h
      have hu := hT.under hd
      cases hx; cases hy
      constructor
      · unfold eqGuard
        rcases hop with rfl | rfl <;> cases ox <;> cases oy <;> simp_all
      · exact run_equalIn_nil 9999 hu
    · cases h
  · exact ⟨eqGuard_other hT hx hy h, eqOp_sound hT _ hx hy h _ (by simp [Op.maxDepth]) w⟩

theorem eqAny_binOp {t : TypeId} {x y : AV} {cx cy : Value} {lit : Bool} {b : Bool} (hx : VR C w O B M x cx) (hy : VR C w O B M y cy) (h : eqAny C t lit x y = some b)
    (h1 : ∀ k a k' b', x = .int k a → y = .int k' b' → False) (h2 : ∀ a b', x = .str a → y = .str b' → False) :
    binOp .eql t cx cy = (do pure (.bool (← Op.equal t cx cy))) ∧ binOp .neq t cx cy = (do pure (.bool (!(← Op.equal t cx cy)))) := by
  unfold eqAny at h
  split at h
  · cases hx; cases hy; exact ⟨rfl, rfl⟩
  · simp only [eqOp, Option.bind_eq_some_iff] at h
    obtain ⟨i, hi, h⟩ := h
    split at h
    all_goals first
      | (cases h; done)
      | exact (h1 _ _ _ _ rfl rfl).elim
      | exact (h2 _ _ rfl rfl).elim
      | (cases hx; cases hy; exact ⟨rfl, rfl⟩)

theorem intOp_sound {op : BinOp} {k : IntKind} {a b : Int} {v : AV} (h : intOp op k a b = some v) (t : TypeId) (hs : op ≠ .shl ∧ op ≠ .shr) : ∃ cv, (binOp op t (.int k a) (.int k b)).run P w = .ok cv w ∧ VR C w O B M v cv := by
  unfold intOp at h
  cases op <;> simp only [Option.some.injEq, Option.bind_eq_some_iff] at h
  case shl => exact absurd rfl hs.1
  case shr => exact absurd rfl hs.2
  case quo =>
    obtain ⟨_, hc, h⟩ := h
    have hc := chk_some hc
    have hb : b ≠ 0 := by simpa using hc
    subst h
    exact ⟨_, by simp [binOp, Op.intDiv, hb], .int _ _⟩
  case rem =>
    obtain ⟨_, hc, h⟩ := h
    have hc := chk_some hc
    have hb : b ≠ 0 := by simpa using hc
    subst h
    exact ⟨_, by simp [binOp, Op.intDiv, hb], .int _ _⟩
  all_goals subst h
  all_goals first
    | exact ⟨_, by simp only [binOp, ne_eq, not_true_eq_false, if_false]; rfl, .int _ _⟩
    | exact ⟨_, by simp only [binOp, ne_eq, not_true_eq_false, if_false]; rfl, .bool _⟩

theorem strOp_sound {op : BinOp} {x y : List UInt8} {cx cy : Value} {v : AV} (hx : VR C w O B M (.str x) cx) (hy : VR C w O B M (.str y) cy) (h : strOp op x y = some v) (t : TypeId) : ∃ cv, (binOp op t cx cy).run P w = .ok cv w ∧ VR C w O B M v cv := by
  obtain ⟨a, rfl, rfl⟩ := hx.str_inv
  obtain ⟨b, rfl, rfl⟩ := hy.str_inv
  have ea : a.toList = a.data.toList := ByteArray.toList_eq a
  have eb : b.toList = b.data.toList := ByteArray.toList_eq b
  unfold strOp at h
  cases op <;> simp only [Option.some.injEq, Option.bind_eq_some_iff] at h
  case add =>
    obtain ⟨_, hc, h⟩ := h
    have hc : a.data.toList.length + b.data.toList.length ≤ 9223372036854775807 := by simpa using chk_some hc
    subst h
    have hle : ¬ (((a.size + b.size : Nat) : Int) > IntKind.i64.max) := by
      have e1 : a.data.toList.length = a.size := by simp
      have e2 : b.data.toList.length = b.size := by simp
      have : IntKind.i64.max = 9223372036854775807 := rfl
      rw [this]
      omega
    refine ⟨.string (a ++ b), ?_, .str _ _ (by simp)⟩
    show (Op.stringOp .add a b).run P w = _
    unfold Op.stringOp
    simp only [hle, if_false]
    rfl
  all_goals first
    | (cases h; done)
    | (subst h
       refine ⟨_, ?_, .bool _⟩
       simp only [binOp, Op.stringOp, ea, eb, bytesLess_eq, Sem.run_pure])

theorem binAV_sound (hT : TyOk P C) {op : BinOp} {t : TypeId} {x y v : AV} {cx cy : Value} {ox oy : Operand} (hx : VR C w O B M x cx) (hy : VR C w O B M y cy) (h : binAV C op t (isLit ox || isLit oy) x y = some v) :
    ∃ cv, (do eqGuard op t ox oy cx cy; binOp op t cx cy : Sem Value).run P w = .ok cv w ∧ VR C w O B M v cv := by
  unfold binAV at h
  split at h
  · cases hx; cases hy
    simp only [shiftOp, Option.bind_eq_some_iff, Option.some.injEq] at h
    obtain ⟨_, hc, rfl⟩ := h
    have hc := chk_some hc
    have hn := Int.not_lt.2 (of_decide_eq_true hc)
    exact ⟨_, by simp [eqGuard, binOp, Op.shift, hn], .int _ _⟩
  · cases hx; cases hy
    simp only [shiftOp, Option.bind_eq_some_iff, Option.some.injEq] at h
    obtain ⟨_, hc, rfl⟩ := h
    have hc := chk_some hc
    have hn := Int.not_lt.2 (of_decide_eq_true hc)
    exact ⟨_, by simp [eqGuard, binOp, Op.shift, hn], .int _ _⟩
  · rename_i h1 h2
    cases hx; cases hy
    split at h
    · rename_i hk
      subst hk
      have hs : op ≠ .shl ∧ op ≠ .shr := ⟨fun e => by first | exact h1 e | exact h1 _ _ _ _ e rfl rfl, fun e => by first | exact h2 e | exact h2 _ _ _ _ e rfl rfl⟩
      obtain ⟨cv, hr, hv⟩ := intOp_sound (P := P) (C := C) (w := w) (O := O) (B := B) (M := M) h t hs
      exact ⟨cv, by simp [eqGuard_at_int, hr], hv⟩
    · cases h
  · obtain ⟨a, rfl, _⟩ := hx.str_inv
    obtain ⟨cv, hr, hv⟩ := strOp_sound (P := P) hx hy h t
    exact ⟨cv, by simp [eqGuard_at_string, hr], hv⟩
  · rename_i h3 h4
    simp only [Option.map_eq_some_iff] at h
    obtain ⟨b, hb, rfl⟩ := h
    obtain ⟨hg, he⟩ := eqAny_sound (P := P) hT (.inl rfl) hx hy hb
    obtain ⟨h5, _⟩ := eqAny_binOp hx hy hb (fun k a k' b' e1 e2 => h3 k a k' b' e1 e2) (fun a b' e1 e2 => h4 a b' e1 e2)
    exact ⟨.bool b, by simp only [Sem.run_bind, hg, Result.andThen_ok, h5, he, Sem.run_pure], .bool _⟩
  · rename_i h3 h4
    simp only [Option.map_eq_some_iff] at h
    obtain ⟨b, hb, rfl⟩ := h
    obtain ⟨hg, he⟩ := eqAny_sound (P := P) hT (.inr rfl) hx hy hb
    obtain ⟨_, h5⟩ := eqAny_binOp hx hy hb (fun k a k' b' e1 e2 => h3 k a k' b' e1 e2) (fun a b' e1 e2 => h4 a b' e1 e2)
    exact ⟨.bool (!b), by simp only [Sem.run_bind, hg, Result.andThen_ok, h5, he, Sem.run_pure], .bool _⟩
  · cases h

theorem unAV_sound {op : UnOp} {x v : AV} {cx : Value} (hx : VR C w O B M x cx) (h : unAV op x = some v) : ∃ cv, (Op.unary op cx).run P w = .ok cv w ∧ VR C w O B M v cv := by
  unfold unAV at h
  split at h
  · cases hx; obtain rfl := Option.some.inj h
    exact ⟨_, rfl, .bool _⟩
  · cases hx; obtain rfl := Option.some.inj h
    exact ⟨_, by simp [Op.unary, Op.intArith], .int _ _⟩
  · cases hx
    simp only [intOp, Option.some.injEq] at h
    subst h
    exact ⟨_, by simp only [Op.unary]; rfl, .int _ _⟩
  · cases h

end
end Go.Ev
