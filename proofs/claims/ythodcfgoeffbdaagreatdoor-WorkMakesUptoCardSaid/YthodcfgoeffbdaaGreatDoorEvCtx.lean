/- A PART OF THE PROOF THAT WORKMAKES HOLDS FOR EVERY INPUT OF BULK AT MOST 1048576. No condition beyond the given statement. This part: EvCtx. -/
import Derived.Test.YthodcfgoeffbdaaGreatDoorEvDraw
import Derived.Eval
namespace Go.Ev
open Go

/-- of each row of a tree -/
def BT.All {α : Type} (p : Nat → α → Prop) : BT α → Prop
  | .nil => True
  | .node l k v r => BT.All p l ∧ p k v ∧ BT.All p r

theorem BT.All.get {α : Type} {p : Nat → α → Prop} : ∀ {t : BT α} {n : Nat} {v : α}, BT.All p t → t.get n = some v → p n v
  | .nil, _, _, _, h => by cases h
  | .node l k u r, n, v, ha, h => by
    unfold BT.get at h
    cases h1 : Nat.beq n k with
    | true =>
      rw [h1] at h
      simp only [cond_true, Option.some.injEq] at h
      subst h
      have := (beq_iff n k).1 h1
      subst this
      exact ha.2.1
    | false =>
      rw [h1] at h
      simp only [cond_false] at h
      cases h2 : Nat.ble n k with
      | true => rw [h2] at h; exact BT.All.get ha.1 h
      | false => rw [h2] at h; exact BT.All.get ha.2.2 h

def fieldsOk : TypeDesc → Bool
  | .struct fs => fs.toList.all fun f => f.name != "_"
  | _ => true

def bodyDraws (fn : Func) : Bool := match fn.body with
  | some c => codeDraws c
  | none => true

def TyRow (P : Program) (t : Nat) (i : TI) : Prop :=
  P.underlying t = some i.desc ∧ P.info? t = some i.info ∧ (i.eqok = true → P.eqGuardType P.depth t = false ∧ P.stoodInHeld t = false ∧ fieldsOk i.desc = true)

def FnRow (P : Program) (f : Nat) (fn : Func) : Prop :=
  P.funcs[f]? = some fn ∧ (fn.name == "runtime.NumGoroutine") = false ∧ bodyDraws fn = true

section
variable {P : Program} {C : Ctx}

theorem tyOk_of (h : BT.All (TyRow P) C.types) : TyOk P C where
  ty := fun t i hi => ⟨(h.get hi).1, (h.get hi).2.1⟩
  eq := fun t i hi he => by
    obtain ⟨h1, h2, h3⟩ := (h.get hi).2.2 he
    refine ⟨h1, h2, fun fs hd f hf hn => ?_⟩
    rw [hd] at h3
    unfold fieldsOk at h3
    rw [List.all_eq_true] at h3
    have := h3 f hf
    simp [hn] at this

theorem fnsOk_of (h : BT.All (FnRow P) C.funs) : FnsOk P C where
  fn := fun _f _fn _body hf _ => ⟨(h.get hf).1, (h.get hf).2.1⟩

theorem drawsOk_of (hm : P.follows .mixedOrders = true) (hT : TyOk P C) (hp : PrimsOk P C) (h : BT.All (FnRow P) C.funs) : ∀ f fn body, C.funs.get f = some fn → fn.body = some body → Draws P C body := fun f fn body hf hb => by
  have := (h.get hf).2.2
  unfold bodyDraws at this
  rw [hb] at this
  exact draws_of hm hT hp body this

end
end Go.Ev
