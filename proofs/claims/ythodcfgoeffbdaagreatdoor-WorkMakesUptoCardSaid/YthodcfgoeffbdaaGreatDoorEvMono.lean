/- A PART OF THE PROOF THAT WORKMAKES HOLDS FOR EVERY INPUT OF BULK AT MOST 1048576. No condition beyond the given statement. This part: EvMono. -/
import Derived.Test.YthodcfgoeffbdaaGreatDoorEvPrim
namespace Go.Ev
open Go

def CallLe (c c' : CallF) : Prop := ∀ f args st r, c f args st = some r → c' f args st = some r

section
variable {C : Ctx} {c c' : CallF}

theorem bind_le {α β : Type} {x y : Option α} {f g : α → Option β} {r : β} (hx : ∀ a, x = some a → y = some a) (hf : ∀ a b, f a = some b → g a = some b) (h : x.bind f = some r) : y.bind g = some r := by
  obtain ⟨a, ha, h⟩ := Option.bind_eq_some_iff.1 h
  exact Option.bind_eq_some_iff.2 ⟨a, hx a ha, hf a r h⟩

theorem map_le {α β : Type} {x y : Option α} {f : α → β} {r : β} (hx : ∀ a, x = some a → y = some a) (h : x.map f = some r) : y.map f = some r := by
  obtain ⟨a, ha, h⟩ := Option.map_eq_some_iff.1 h
  exact Option.map_eq_some_iff.2 ⟨a, hx a ha, h⟩

theorem callHere_le (hc : CallLe c c') {g : FuncId} {args : List AV} {st : St} {r : AV × St} (h : callHere C c g args st = some r) : callHere C c' g args st = some r :=
  bind_le (fun a ha => hc _ _ _ a ha) (fun _ _ h => h) h

theorem callData_le (hc : CallLe c c') {g : FuncId} {args : List AV} {st : St} {r : AV × St} (h : callData C c g args st = some r) : callData C c' g args st = some r :=
  bind_le (fun _ h => h) (fun _ _ h => bind_le (fun a ha => hc _ _ _ a ha) (fun _ _ h => h) h) h

theorem evCallTo_le (hc : CallLe c c') {serial : Bool} {g : FuncId} {args : List AV} {st : St} {r : AV × St} (h : evCallTo C c serial g args st = some r) : evCallTo C c' serial g args st = some r := by
  unfold evCallTo at h ⊢
  split at h
  · exact h
  · split at h
    · exact h
    · cases hsd : (serial && !(C.data g)) with
      | true => rw [hsd] at h; exact callHere_le hc h
      | false => rw [hsd] at h; exact callData_le hc h

theorem evCallOp_le (hc : CallLe c c') {serial : Bool} {f : AV} {args : List AV} {st : St} {r : AV × St} (h : evCallOp C c serial f args st = some r) : evCallOp C c' serial f args st = some r := by
  unfold evCallOp at h ⊢
  split at h
  · exact evCallTo_le hc h
  · exact evCallTo_le hc h
  · cases h

theorem evOp_le (hc : CallLe c c') {serial : Bool} {ρ : Look} {o : Oper} {st : St} {r : AV × St} (h : evOp C c serial ρ o st = some r) : evOp C c' serial ρ o st = some r := by
  unfold evOp at h ⊢
  cases hop : o.op with
  | call k =>
    simp only [hop] at h ⊢
    refine bind_le (fun _ h => h) (fun vs b h => ?_) h
    cases hk : k.callee with
    | value f =>
      simp only [hk] at h ⊢
      exact bind_le (fun _ h => h) (fun _ _ h => evCallOp_le hc h) h
    | builtin bi => cases bi <;> (simp only [hk] at h ⊢; exact h)
    | invoke a b => simp only [hk] at h; cases h
  | makeFunc f a b => cases f <;> (simp only [hop] at h ⊢; exact h)
  | next a b => cases b <;> (simp only [hop] at h ⊢; exact h)
  | makeMap t r => cases r <;> (simp only [hop] at h ⊢; exact h)
  | _ => simp only [hop] at h ⊢ <;> first | exact h | cases h

theorem act_le (hc : CallLe c c') {base : Nat} {ops : Array Oper} {bef : List Nat} {o : Oper} {j : Nat} {ts : List AV} {st : St} {lg : Lg} {r : AV × St × Lg} (h : act C c base ops bef o j ts st lg = some r) : act C c' base ops bef o j ts st lg = some r := by
  unfold act at h ⊢
  cases hgk : guardOk ops o ts with
  | false => rw [hgk] at h; cases h
  | true =>
  rw [hgk] at h
  simp only [cond_true] at h ⊢
  cases hw : isWanted ops o ts with
  | false => rw [hw] at h; exact h
  | true =>
    rw [hw] at h
    simp only [cond_true] at h ⊢
    cases hq : quiet C o.op with
    | true => rw [hq] at h; simp only [cond_true] at h ⊢; exact map_le (fun a ha => evOp_le hc ha) h
    | false =>
      rw [hq] at h
      simp only [cond_false] at h ⊢
      cases hs : weakAt C ops.toList bef o.op j with
      | true => rw [hs] at h; exact bind_le (fun a ha => evOp_le hc ha) (fun _ _ h => h) h
      | false => rw [hs] at h; exact bind_le (fun a ha => evOp_le hc ha) (fun _ _ h => h) h

theorem evDrawn_le (hc : CallLe c c') {base : Nat} {ops : Array Oper} {bef : List Nat} : ∀ {l : List (Oper × Nat)} {fr fr' : Fr × Lg}, evDrawn C c base ops bef l fr = some fr' → evDrawn C c' base ops bef l fr = some fr'
  | [], _, _, h => h
  | (_o, _j) :: _r, _fr, _fr', h => bind_le (fun _a ha => map_le (fun _ h => act_le hc h) ha) (fun _a _b h => evDrawn_le hc h) h

theorem evSerial_le (hc : CallLe c c') {ops : Array Oper} : ∀ {l : List Oper} {fr fr' : Fr}, evSerial C c ops l fr = some fr' → evSerial C c' ops l fr = some fr'
  | [], _, _, h => h
  | o :: r, fr, fr', h => by
    unfold evSerial at h ⊢
    cases hgk : guardOk ops o fr.tmps with
    | false => rw [hgk] at h; cases h
    | true =>
    rw [hgk] at h
    simp only [cond_true] at h ⊢
    cases hw : isWanted ops o fr.tmps with
    | true => rw [hw] at h; exact bind_le (fun a ha => evOp_le hc ha) (fun a b h => evSerial_le hc h) h
    | false => rw [hw] at h; exact evSerial_le hc h

def CodeLe (e e' : Code → Fr → Option (Ex × Fr)) : Prop := ∀ k fr r, e k fr = some r → e' k fr = some r

theorem evCall_le {e e' : Code → Fr → Option (Ex × Fr)} (h : CodeLe e e') : CallLe (evCall C e) (evCall C e') := fun f args st r hr => by
  unfold evCall at hr ⊢
  exact bind_le (fun _ h => h) (fun _ _ h1 => bind_le (fun _ h => h) (fun _ _ h2 => bind_le (fun a ha => h _ _ _ ha) (fun _ _ h => h) h2) h1) hr

theorem evStep_le {e e' : Code → Fr → Option (Ex × Fr)} (he : CodeLe e e') : CodeLe (evStep C e) (evStep C e') := fun k fr r h => by
  cases k with
  | region id ops draw =>
    simp only [evStep] at h ⊢
    refine map_le (fun a ha => ?_) h
    cases draw with
    | true => exact map_le (fun b hb => evDrawn_le (evCall_le he) hb) ha
    | false => exact evSerial_le (evCall_le he) ha
  | seq a b =>
    simp only [evStep] at h ⊢
    refine bind_le (fun x hx => he _ _ _ hx) (fun x r h => ?_) h
    obtain ⟨x, fr⟩ := x
    cases x <;> first | exact he _ _ _ h | exact h
  | cond o a b =>
    simp only [evStep] at h ⊢
    refine bind_le (fun _ h => h) (fun v r h => ?_) h
    split at h
    · exact he _ _ _ h
    · exact he _ _ _ h
    · cases h
  | block id a =>
    simp only [evStep] at h ⊢
    exact bind_le (fun x hx => he _ _ _ hx) (fun _ _ h => h) h
  | loop a =>
    simp only [evStep] at h ⊢
    refine bind_le (fun x hx => he _ _ _ hx) (fun x r h => ?_) h
    obtain ⟨x, fr⟩ := x
    cases x <;> first | exact he _ _ _ h | exact h
  | _ => exact h

theorem ev_succ : ∀ n, CodeLe (ev C n) (ev C (n + 1))
  | 0 => fun k fr r h => by simp [ev] at h
  | n + 1 => evStep_le (ev_succ n)

theorem ev_le {n m : Nat} (h : n ≤ m) : CodeLe (ev C n) (ev C m) := by
  induction h with
  | refl => exact fun _ _ _ h => h
  | step _ ih => exact fun k fr r h => ev_succ _ k fr r (ih k fr r h)

theorem evc_le {n m : Nat} (h : n ≤ m) : CallLe (evCall C (ev C n)) (evCall C (ev C m)) := evCall_le (ev_le h)

/-! ### What code comes to, with fuel enough -/
def Big (C : Ctx) (k : Code) (fr : Fr) (x : Ex) (fr' : Fr) : Prop := ∃ n, ev C n k fr = some (x, fr')

def BigOp (C : Ctx) (serial : Bool) (ts : List AV) (o : Oper) (st : St) (v : AV) (st' : St) : Prop := ∃ n, evOp C (evCall C (ev C n)) serial (opVal C ts) o st = some (v, st')

end
end Go.Ev
