/- A PART OF THE PROOF THAT SAVETEXTS HOLDS FOR EVERY INPUT OF BULK AT MOST 1048576. No condition beyond the given statement. This part: EvCode. -/
import Derived.Test.YtciahohaonhdgaaGreatDoorEvOpS
import Derived.Laws.Sem
import Derived.Tactics
namespace Go.Ev
open Go
section
variable {P : Program} {C : Ctx} {w w' w'' : World} {O O' O'' B : Nat → Prop} {M M' M'' : MapB}
theorem Step.trans {st st' st'' : St} (h : Step C B true w O M st w' O' M' st') (k : Step C B true w' O' M' st' w'' O'' M'' st'') : Step C B true w O M st w'' O'' M'' st'' where
 ext := h.ext.trans k.ext
 sit := k.sit
 map := fun b hb => by
  have h1 := h.nxt
  have h2 := k.nxt
  rw [k.map b (by omega), h.map b (by omega)]
 nxt := Nat.le_trans h.nxt k.nxt
 low := Nat.le_trans k.low h.low
 kept := fun b h1 h2 => by
  have := h.nxt
  have := k.low
  rw [k.kept b (by omega) h2, h.kept b h1 (by omega)]
 rest := fun cb h1 h2 h3 => by
  obtain ⟨a1, a2, a3⟩ := h.rest cb h1 h2 h3
  obtain ⟨b1, b2, b3⟩ := k.rest cb a2 (Nat.lt_of_lt_of_le h2 h.ext.size) a3
  exact ⟨b1.trans a1, b2, b3⟩
 lt := fun hl => k.lt (h.lt hl)
 still := fun e => by cases e
structure AR (C : Ctx) (B : Nat → Prop) (w : World) (O : Nat → Prop) (M : MapB) (fr : Fr) (a : Act) : Prop where
 sit : Sit C w O B M fr.st.heap
 lt : ∀ x, O x → x < w.heap.size
 free : ∀ b, fr.st.nxt ≤ b → M b = none
 slots : TR C w O B M fr.tmps a
 nodef : a.defers = []
theorem put_nodef {a : Act} (h : a.defers = []) (d : Option Tmp) (v : Value) : (a.put d v).defers = [] := by
 cases d <;> exact h
theorem AR.step {fr : Fr} {a : Act} (h : AR C B w O M fr a) {st' : St} (k : Step C B true w O M fr.st w' O' M' st') {v : AV} {cv : Value} (hv : VR C w' O' B M' v cv) (d : Option Tmp) :
  AR C B w' O' M' { tmps := putT fr.tmps d v, st := st' } (a.put d cv) where
 sit := k.sit
 lt := k.lt h.lt
 free := fun b hb => by
  have := k.nxt
  rw [k.map b (.inr hb)]
  exact h.free b (Nat.le_trans this hb)
 slots := (h.slots.mono k.ext).put hv d
 nodef := put_nodef h.nodef d cv
theorem getL_of_lt {α : Type} : ∀ {l : List α} {n : Nat} (h : n < l.length), getL l n = some l[n]
 | _ :: _, 0, _ => rfl
 | _ :: xs, n + 1, h => by simpa [getL] using getL_of_lt (l := xs) (n := n) (by simpa using h)
theorem getL_none {α : Type} {l : List α} {n : Nat} (h : l.length ≤ n) : getL l n = none := by
 cases hg : getL l n with
 | none => rfl
 | some v => obtain ⟨h1, _⟩ := getL_some hg; omega
theorem isWanted_sound {ops : Array Oper} {ts : List AV} {a : Act} (ht : TR C w O B M ts a) {o : Oper} (hg : guardOk ops o ts = true) : isWanted ops o ts = Region.wanted o (yielded ops a.tmps) := by
 unfold isWanted Region.wanted
 unfold guardOk at hg
 cases hgo : o.guard with
 | none => rfl
 | some p =>
  obtain ⟨j, want⟩ := p
  rw [hgo] at hg
  simp only at hg ⊢
  have hy : yields ops ts j = yielded ops a.tmps j := by
   unfold yields yielded
   have hl := ht.len
   cases hd : (ops[j]?).bind (·.dst) with
   | none => rfl
   | some d =>
    rw [hd] at hg
    simp only [Option.bind_some] at hg ⊢
    have key : ∀ d : Nat, (match getL ts d with | some v => known v | none => true) = true → (match getL ts d with | some (AV.bool b) => some b | _ => none) = (match a.tmps[d]? with | some (Value.bool b) => some b | _ => none) := fun d hk => by
     by_cases hlt : d < ts.length
     ·have h2 : d < a.tmps.size := by omega
      rw [getL_of_lt hlt] at hk ⊢
      have hr := ht.rel d hlt h2 hk
      rw [Array.getElem?_eq_getElem h2]
      generalize ts[d] = q at hr
      generalize a.tmps[d] = r at hr
      cases hr <;> rfl
     ·rw [Array.getElem?_eq_none (show a.tmps.size ≤ d by omega), getL_none (by omega)]
    exact key d hg
  rw [hy]
  cases yielded ops a.tmps j with
  | none => rfl
  | some b => cases b <;> cases want <;> rfl
theorem evSerial_sound (hT : TyOk P C) (hp : PrimsOk P C) {call : CallF} (hcall : CallOk P C call) {ops : Array Oper} {Q : Exit → Act → World → Prop} {fr' : Fr} : ∀ (l : List Oper) {w : World} {O : Nat → Prop} {M : MapB} {fr : Fr} {a : Act}, evSerial C call ops l fr = some fr' → AR C B w O M fr a →
  (∀ w' O' M' a', AR C B w' O' M' fr' a' → Step C B true w O M fr.st w' O' M' fr'.st → Q .normal a' w') → wpList P ops Q l a w
 | [], w, O, M, fr, a, h, ha, hq => by
  simp only [evSerial, Option.some.injEq] at h
  subst h
  exact hq _ _ _ _ ha (.refl ha.sit)
 | o :: r, w, O, M, fr, a, h, ha, hq => by
  unfold evSerial at h
  unfold wpList
  cases hgk : guardOk ops o fr.tmps with
  | false => rw [hgk] at h; cases h
  | true =>
  rw [hgk] at h
  simp only [cond_true] at h
  rw [← isWanted_sound ha.slots hgk]
  cases hw : isWanted ops o fr.tmps with
  | false =>
   rw [hw] at h
   simp only [cond_false] at h
   simp only [Bool.false_eq_true, if_false]
   have ha' := ha.step (.refl ha.sit) (undef_rel (C := C) (w := w) (O := O) (B := B) (M := M)) o.dst
   exact evSerial_sound hT hp hcall r h ha' hq
  | true =>
   rw [hw] at h
   simp only [cond_true, Option.bind_eq_some_iff] at h
   simp only [if_true]
   obtain ⟨⟨v, st⟩, ho, h⟩ := h
   refine .inl (evOp_sound hT hp hcall (serial := true) ha.sit ha.slots ha.lt (fun _ => ha.free) (fun b hb _ => ha.free b hb) ho fun cv w1 O1 M1 hv k => ?_)
   exact evSerial_sound hT hp hcall r h (ha.step k hv o.dst) fun w2 O2 M2 a2 ha2 k2 => hq _ _ _ _ ha2 (k.trans k2)
def DrawOk (P : Program) (C : Ctx) (call : CallF) (id : Nat) (ops : Array Oper) : Prop :=
 ∀ (B : Nat → Prop) (Q : Exit → Act → World → Prop) (w : World) (O : Nat → Prop) (M : MapB) (fr : Fr) (fl : Fr × Lg) (a : Act),
  evDrawn C call fr.st.nxt ops (Region.before ops).toList (number 0 ops.toList) ({ fr with st := { fr.st with nxt := fr.st.nxt + ops.size * share } }, lg0 ops.size) = some fl → AR C B w O M fr a →
  (∀ w' O' M' a', AR C B w' O' M' (fullFr fl) a' → Step C B true w O M fr.st w' O' M' (fullFr fl).st → Q .normal a' w') → (Code.region id ops true).wp P Q a w
def DrawsOk (P : Program) (C : Ctx) (call : CallF) : Code → Prop
 | .region id ops true => DrawOk P C call id ops
 | .seq a b => DrawsOk P C call a ∧ DrawsOk P C call b
 | .cond _ a b => DrawsOk P C call a ∧ DrawsOk P C call b
 | .block _ c => DrawsOk P C call c
 | .loop c => DrawsOk P C call c
 | _ => True
def Ex.of : Ex → Exit
 | .norm => .normal
 | .exit i => .exit i
 | .ret => .ret
theorem wp_loop_n {Q : Exit → Act → World → Prop} {a : Act} {c : Code} (I : Nat → Act → World → Prop) {n : Nat} (h₀ : I n a w)
  (round : ∀ n a w, I n a w → c.wp P (Exit.then (fun a' w' => ∃ m, m < n ∧ I m a' w') Q) a w) : (Code.loop c).wp P Q a w := by
 intro b k cs
 have key : ∀ n a w, I n a w →
   ∃ e a' w', Q e a' w' ∧ Arrives P (lone (b.at a (.code c :: .inLoop c :: k)) cs w) b k cs e a' w' := by
  intro n
  induction n using Nat.strongRecOn with
  | _ n ih =>
   intro a w hI
   obtain ⟨e, a₁, w₁, hq, harr⟩ := round n a w hI b (.inLoop c :: k) cs
   cases e with
   | normal =>
    obtain ⟨m, hlt, hI₁⟩ := hq
    obtain ⟨e₂, a₂, w₂, hq₂, harr₂⟩ := ih m hlt a₁ w₁ hI₁
    exact ⟨e₂, a₂, w₂, hq₂, .of_steps (Steps.trans harr (.one step_inLoop)) harr₂⟩
   | exit id => exact ⟨_, a₁, w₁, hq, .pass (x := .inLoop c) rfl (fun _ _ => .inl (by simp)) harr⟩
   | goto l => exact ⟨_, a₁, w₁, hq, .pass (x := .inLoop c) rfl (fun _ _ => .inl (by simp)) harr⟩
   | ret => exact ⟨_, a₁, w₁, hq, .pass (x := .inLoop c) rfl (fun _ _ => .inl (by simp)) harr⟩
   | panic ch => exact ⟨_, a₁, w₁, hq, .pass (x := .inLoop c) rfl (fun _ _ => .inl (by simp)) harr⟩
   | outgrown => exact ⟨_, a₁, w₁, hq, .pass (x := .inLoop c) rfl (fun _ _ => .inl (by simp)) harr⟩
 obtain ⟨e, a', w', hq, harr⟩ := key _ a w h₀
 exact ⟨e, a', w', hq, .of_steps (.one step_loop) harr⟩
structure FnsOk (P : Program) (C : Ctx) : Prop where
 fn : ∀ f fn body, C.funs.get f = some fn → fn.body = some body → P.funcs[f]? = some fn ∧ (fn.name == "runtime.NumGoroutine") = false
end
end Go.Ev
namespace Go.Ev
open Go
section
variable {P : Program} {C : Ctx}
theorem run_enter {f : FuncId} {fn : Func} {c : Code} (hf : P.funcs[f]? = some fn) (hname : (fn.name == "runtime.NumGoroutine") = false) (hb : fn.body = some c) (args : Array Value) (w : World) :
  (callFunc f args).run P w = .ok (.enter f args) w := by
 have h1 : fn.name ≠ "runtime.NumGoroutine" := by simpa using hname
 simp [callFunc, hf, h1, hb]
def resF (tmps : Array Value) (r : ResultVar) : Sem Value := match r with
 | .tmp t => pure (tmps.getD t undef)
 | .cell a t => do loadVar t (← asAddr (tmps.getD a undef))
theorem results_sound (hT : TyOk P C) {w : World} {O B : Nat → Prop} {M : MapB} {fr : Fr} {a : Act} (ha : AR C B w O M fr a) : ∀ {l : List ResultVar} {vs : List AV}, results C fr.st.heap fr.tmps l = some vs →
  ∃ us : List Value, (l.mapM (resF a.tmps)).run P w = .ok us w ∧ LR C w O B M vs us
 | [], vs, h => by
  simp only [results, Option.some.injEq] at h
  subst h
  exact ⟨[], by simp, rfl, fun j h => by cases h⟩
 | r :: l, vs, h => by
  have cons : ∀ {v : AV} {u : Value} {vs : List AV} {us : List Value}, VR C w O B M v u → LR C w O B M vs us → LR C w O B M (v :: vs) (u :: us) := fun hv hr => ⟨by simp [hr.len], fun j h1 h2 => by
   cases j with
   | zero => exact hv
   | succ j => exact hr.rel j (by simpa using h1) (by simpa using h2)⟩
  have tmp : ∀ {t : Nat} {v : AV}, getV fr.tmps t = some v → VR C w O B M v (a.tmps.getD t undef) := fun {t v} hg => by
   obtain ⟨hg, hk⟩ := getV_some hg
   obtain ⟨h1, rfl⟩ := getL_some hg
   have hl := ha.slots.len
   have h2 : t < a.tmps.size := by omega
   have := ha.slots.rel t h1 h2 hk
   simpa [h2] using this
  cases r with
  | tmp t =>
   simp only [results, Option.bind_eq_some_iff, Option.some.injEq] at h
   obtain ⟨v, hv, vs', hvs, rfl⟩ := h
   obtain ⟨us, h1, h2⟩ := results_sound hT ha hvs
   refine ⟨_ :: us, ?_, cons (tmp hv) h2⟩
   rw [List.mapM_cons]
   simp only [resF, Sem.run_bind, Sem.run_pure, Result.andThen_ok, h1]
  | cell b t =>
   simp only [results, Option.bind_eq_some_iff, Option.some.injEq] at h
   obtain ⟨p, hp, v, hv, vs', hvs, rfl⟩ := h
   obtain ⟨us, h1, h2⟩ := results_sound hT ha hvs
   obtain ⟨cv, h3, h4⟩ := mLoad_sound (P := P) hT ha.sit (tmp hp) hv
   refine ⟨cv :: us, ?_, cons h4 h2⟩
   have h5 : (do loadVar t (← asAddr (a.tmps.getD b undef)) : Sem Value).run P w = .ok cv w := by
    generalize a.tmps.getD b undef = q at h3
    unfold Instr.loadAt Instr.sureAddr at h3
    cases q with
    | pointer x => cases x with
     | none => simp at h3
     | some x => simpa [asAddr] using h3
    | _ => simp at h3
   rw [List.mapM_cons]
   simp only [resF, Sem.run_bind] at h5 ⊢
   simp only [h5, Sem.run_pure, Result.andThen_ok, h1]
theorem results_run (hT : TyOk P C) {w : World} {O B : Nat → Prop} {M : MapB} {fr : Fr} {a : Act} (ha : AR C B w O M fr a) {fn : Func} {vs : List AV} (h : results C fr.st.heap fr.tmps fn.results.toList = some vs) :
  ∃ v, (Go.results fn a.tmps).run P w = .ok v w ∧ VR C w O B M (pack vs) v := by
 obtain ⟨us, h1, h2⟩ := results_sound (P := P) hT ha h
 refine ⟨(if h : us.toArray.size = 1 then us.toArray[0] else .tuple us.toArray), ?_, ?_⟩
 ·refine (Sem.run_bind (P := P) (w := w) (fn.results.mapM (resF a.tmps)) _).trans ?_
  rw [Array.mapM_eq_mapM_toList]
  simp only [map_eq_pure_bind, Sem.run_bind, Sem.run_pure]
  rw [h1]
  rfl
 ·cases vs with
  | nil =>
   have hl := h2.len
   have : us = [] := by simpa using hl
   subst this
   exact .tup [] [] rfl (fun j h => by cases h)
  | cons v vs => cases vs with
   | nil =>
    have hl := h2.len
    obtain ⟨u, rfl⟩ := List.length_eq_one_iff.1 hl
    have := h2.rel 0 (by simp) (by simp)
    simpa [pack] using this
   | cons v2 vs =>
    have hl := h2.len
    have hne : ¬ us.toArray.size = 1 := by simp at hl ⊢; omega
    rw [dif_neg hne]
    exact .tup _ us h2.len h2.rel
def Draws (P : Program) (C : Ctx) (c : Code) : Prop := ∀ call, CallOk P C call → DrawsOk P C call c
def CodeOk (P : Program) (C : Ctx) (n : Nat) : Prop :=
 ∀ (c : Code) (fr fr' : Fr) (x : Ex), ev C n c fr = some (x, fr') → Draws P C c → ∀ (B : Nat → Prop) (Q : Exit → Act → World → Prop) (w : World) (O : Nat → Prop) (M : MapB) (a : Act), AR C B w O M fr a →
  (∀ w' O' M' a', AR C B w' O' M' fr' a' → Step C B true w O M fr.st w' O' M' fr'.st → Q x.of a' w') → c.wp P Q a w
theorem callOk_of (hT : TyOk P C) (hF : FnsOk P C) (hD : ∀ f fn body, C.funs.get f = some fn → fn.body = some body → Draws P C body) {n : Nat} (h : CodeOk P C n) : CallOk P C (evCall C (ev C n)) := by
 intro f args st r st' he w O B M cargs hs hex hn hLR
 unfold evCall at he
 simp only [Option.bind_eq_some_iff] at he
 obtain ⟨fn, hfn, body, hb, ⟨x, fr⟩, hev, he⟩ := he
 obtain ⟨_, hx, vs, hvs, he⟩ := he
 simp only [Option.some.injEq, Prod.mk.injEq] at he
 obtain ⟨rfl, rfl⟩ := he
 have hx := chk_some hx
 obtain ⟨hf, hname⟩ := hF.fn f fn body hfn hb
 intro o a next Q hnext
 rw [run_enter hf hname hb, Oper.upon_enter]
 have hl := hLR.len
 have hAR : AR C B w O M { tmps := args ++ List.replicate (fn.ntmps - args.length) (.tup []), st := st } { tmps := cargs.toArray ++ Array.replicate (fn.ntmps - cargs.toArray.size) undef, defers := [] } := by
  refine ⟨hs, hex, hn, ⟨by simp [hl], fun j h1 h2 _ => ?_⟩, rfl⟩
  simp only
  by_cases hj : j < args.length
  ·rw [List.getElem_append_left hj, Array.getElem_append_left (by simp [hl]; exact hj)]
   simpa using hLR.rel j hj (by omega)
  ·rw [List.getElem_append_right (by omega), Array.getElem_append_right (by simp [hl]; omega)]
   simp only [List.getElem_replicate, Array.getElem_replicate]
   exact undef_rel
 refine calls_of_wp hf hb (h body _ fr x hev (hD f fn body hfn hb) B _ w O M _ hAR fun w' O' M' a' ha' k => ?_)
 obtain ⟨v, h1, h2⟩ := results_run (P := P) hT ha' hvs
 have fin : a'.defers = [] ∧ ∃ v, (Go.results fn a'.tmps).run P w' = .ok v w' ∧ next (a.put o.dst v) w' := ⟨ha'.nodef, v, h1, hnext v w' ⟨O', M', h2, k⟩⟩
 cases x with
 | norm => exact fin
 | ret => exact fin
 | exit i => cases hx
theorem code_sound (hT : TyOk P C) (hp : PrimsOk P C) (hF : FnsOk P C) (hD : ∀ f fn body, C.funs.get f = some fn → fn.body = some body → Draws P C body) : ∀ n, CodeOk P C n := by
 intro n
 induction n using Nat.strongRecOn with
 | _ n ih =>
  cases n with
  | zero => intro c fr fr' x h; simp [ev] at h
  | succ n =>
   have hcall := callOk_of hT hF hD (ih n (by omega))
   intro c fr fr' x h hd B Q w O M a ha hq
   have h : evStep C (ev C n) c fr = some (x, fr') := h
   cases c with
   | skip =>
    simp only [evStep, Option.some.injEq, Prod.mk.injEq] at h
    obtain ⟨rfl, rfl⟩ := h
    exact wp_skip (hq _ _ _ _ ha (.refl ha.sit))
   | exit i =>
    simp only [evStep, Option.some.injEq, Prod.mk.injEq] at h
    obtain ⟨rfl, rfl⟩ := h
    exact wp_exit (hq _ _ _ _ ha (.refl ha.sit))
   | ret =>
    simp only [evStep, Option.some.injEq, Prod.mk.injEq] at h
    obtain ⟨rfl, rfl⟩ := h
    exact wp_ret (hq _ _ _ _ ha (.refl ha.sit))
   | region id ops draw =>
    simp only [evStep, Option.map_eq_some_iff, Prod.mk.injEq] at h
    obtain ⟨fr1, h5, rfl, rfl⟩ := h
    cases draw with
    | true =>
     obtain ⟨fl, h6, h7⟩ := Option.map_eq_some_iff.1 h5
     obtain rfl := h7
     exact hd _ hcall B Q w O M fr fl a h6 ha hq
    | false => exact wp_region_list (evSerial_sound hT hp hcall _ h5 ha hq)
   | seq c1 c2 =>
    simp only [evStep, Option.bind_eq_some_iff] at h
    obtain ⟨⟨x1, fr1⟩, h1, h⟩ := h
    refine wp_seq (ih n (by omega) c1 fr fr1 x1 h1 (fun call hc => (hd call hc).1) B _ w O M a ha fun w1 O1 M1 a1 ha1 k1 => ?_)
    cases x1 with
    | norm =>
     simp only at h
     exact ih n (by omega) c2 fr1 fr' x h (fun call hc => (hd call hc).2) B Q w1 O1 M1 a1 ha1 fun w2 O2 M2 a2 ha2 k2 => hq _ _ _ _ ha2 (k1.trans k2)
    | exit i =>
     simp only [Option.some.injEq, Prod.mk.injEq] at h
     obtain ⟨rfl, rfl⟩ := h
     exact hq _ _ _ _ ha1 k1
    | ret =>
     simp only [Option.some.injEq, Prod.mk.injEq] at h
     obtain ⟨rfl, rfl⟩ := h
     exact hq _ _ _ _ ha1 k1
   | cond o c1 c2 =>
    simp only [evStep, Option.bind_eq_some_iff] at h
    obtain ⟨v, hv, h⟩ := h
    have hvr := opVal_sound ha.sit ha.slots hv
    split at h
    ·refine wp_cond_true ?_ (ih n (by omega) c1 fr fr' x h (fun call hc => (hd call hc).1) B Q w O M a ha hq)
     generalize a.eval o = q at hvr; cases hvr; rfl
    ·refine wp_cond_false ?_ (ih n (by omega) c2 fr fr' x h (fun call hc => (hd call hc).2) B Q w O M a ha hq)
     generalize a.eval o = q at hvr; cases hvr; rfl
    ·cases h
   | block id c1 =>
    simp only [evStep, Option.bind_eq_some_iff] at h
    obtain ⟨⟨x1, fr1⟩, h1, h⟩ := h
    refine wp_block (ih n (by omega) c1 fr fr1 x1 h1 (fun call hc => hd call hc) B _ w O M a ha fun w1 O1 M1 a1 ha1 k1 => ?_)
    cases x1 with
    | norm =>
     simp only [Option.some.injEq, Prod.mk.injEq] at h
     obtain ⟨rfl, rfl⟩ := h
     exact hq _ _ _ _ ha1 k1
    | ret =>
     simp only [Option.some.injEq, Prod.mk.injEq] at h
     obtain ⟨rfl, rfl⟩ := h
     exact hq _ _ _ _ ha1 k1
    | exit i =>
     show (if i = id then Q .normal a1 w1 else Q (.exit i) a1 w1)
     by_cases e : i = id
     ·rw [if_pos e]
      simp only [(beq_iff i id).2 e, cond_true, Option.some.injEq, Prod.mk.injEq] at h
      obtain ⟨rfl, rfl⟩ := h
      exact hq _ _ _ _ ha1 k1
     ·rw [if_neg e]
      simp only [beq_false e, cond_false, Option.some.injEq, Prod.mk.injEq] at h
      obtain ⟨rfl, rfl⟩ := h
      exact hq _ _ _ _ ha1 k1
   | loop c1 =>
    refine wp_loop_n (fun k a1 w1 => ∃ fr1 O1 M1, k ≤ n + 1 ∧ ev C k (.loop c1) fr1 = some (x, fr') ∧ AR C B w1 O1 M1 fr1 a1 ∧ Step C B true w O M fr.st w1 O1 M1 fr1.st) (n := n + 1) ⟨fr, O, M, Nat.le_refl _, h, ha, .refl ha.sit⟩ ?_
    rintro k a1 w1 ⟨fr1, O1, M1, hk, hev, ha1, k1⟩
    cases k with
    | zero => simp [ev] at hev
    | succ m =>
     have hev : evStep C (ev C m) (.loop c1) fr1 = some (x, fr') := hev
     simp only [evStep, Option.bind_eq_some_iff] at hev
     obtain ⟨⟨x2, fr2⟩, h2, hev⟩ := hev
     refine ih m (by omega) c1 fr1 fr2 x2 h2 (fun call hc => hd call hc) B _ w1 O1 M1 a1 ha1 fun w2 O2 M2 a2 ha2 k2 => ?_
     cases x2 with
     | norm => exact ⟨m, by omega, fr2, O2, M2, by omega, hev, ha2, k1.trans k2⟩
     | exit i =>
      simp only [Option.some.injEq, Prod.mk.injEq] at hev
      obtain ⟨rfl, rfl⟩ := hev
      exact hq _ _ _ _ ha2 (k1.trans k2)
     | ret =>
      simp only [Option.some.injEq, Prod.mk.injEq] at hev
      obtain ⟨rfl, rfl⟩ := hev
      exact hq _ _ _ _ ha2 (k1.trans k2)
   | _ => simp [evStep] at h
theorem run_sound (hT : TyOk P C) (hp : PrimsOk P C) (hF : FnsOk P C) (hD : ∀ f fn body, C.funs.get f = some fn → fn.body = some body → Draws P C body) {n : Nat} {f : FuncId} {args : List AV} {v : AV} {st : St} (h : run C n f args = some (v, st))
  {w : World} {B : Nat → Prop} {cargs : List Value} (hg : ∀ g cs, C.globs g = some cs → VR C w (fun _ => False) B (fun _ => none) (.pdat false cs) (.pointer (some ⟨g, 0, none⟩))) (hB : ∀ b, B b → b < w.heap.size)
  (ha : LR C w (fun _ => False) B (fun _ => none) args cargs) :
  FnOk P f cargs.toArray w fun cv w' => ∃ O' M', VR C w' O' B M' v cv ∧ Ext w (fun _ => False) (fun _ => none) w' O' M' ∧ Sit C w' O' B M' st.heap :=
 ((callOk_of hT hF hD (code_sound hT hp hF hD n)) f args _ v st h w _ B _ cargs ⟨fun b blk h => (by simp [hget] at h), fun b b' blk blk' _ _ _ h => (by simp [hget] at h), hg, fun _ h => h.elim, hB⟩ (fun _ h => h.elim) (fun _ _ => rfl) ha).mono
  fun _ _ ⟨O', M', h1, h2⟩ => ⟨O', M', h1, h2.ext, h2.sit⟩
end
end Go.Ev
