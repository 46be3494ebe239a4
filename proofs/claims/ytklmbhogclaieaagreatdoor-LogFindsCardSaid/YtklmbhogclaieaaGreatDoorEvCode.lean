/- A PART OF THE PROOF THAT ONE CALL OF A LAW OF LAYER 46 (which of any patches have a line with any word) returns true, whatever the input; the input reads as it did. No condition beyond the given statement. This part: EvCode. -/
import Derived.Test.YtklmbhogclaieaaGreatDoorEvOpS
import Derived.Laws.Sem
import Derived.Tactics
namespace Go.Ev
open Go

section
variable {P : Program} {C : Ctx} {w w' w'' : World} {O O' O'' B : Nat → Prop} {M M' M'' : MapB}

theorem Step.trans {st st' st'' : St} (h : Step C B true w O M st w' O' M' st') (k : Step C B true w' O' M' st' w'' O'' M'' st'') : Step C B true w O M st w'' O'' M'' st'' where
  ext := h.ext.trans k.ext
  sit := k.sit
  map := fun b hb => by
    have h1 := h.nxt
    have h2 := k.nxt
    rw [k.map b (by omega), h.map b (by omega)]
  nxt := Nat.le_trans h.nxt k.nxt
  low := Nat.le_trans k.low h.low
  kept := fun b h1 h2 => by
    have := h.nxt
    have := k.low
    rw [k.kept b (by omega) h2, h.kept b h1 (by omega)]
  rest := fun cb h1 h2 h3 => by
    obtain ⟨a1, a2, a3⟩ := h.rest cb h1 h2 h3
    obtain ⟨b1, b2, b3⟩ := k.rest cb a2 (Nat.lt_of_lt_of_le h2 h.ext.size) a3
    exact ⟨b1.trans a1, b2, b3⟩
  lt := fun hl => k.lt (h.lt hl)
  still := fun e => by cases e

/-- how an activation stands -/
structure AR (C : Ctx) (B : Nat → Prop) (w : World) (O : Nat → Prop) (M : MapB) (fr : Fr) (a : Act) : Prop where
  sit : Sit C w O B M fr.st.heap
  lt : ∀ x, O x → x < w.heap.size
  free : ∀ b, fr.st.nxt ≤ b → M b = none
  slots : TR C w O B M fr.tmps a
  nodef : a.defers = []

theorem put_nodef {a : Act} (h : a.defers = []) (d : Option Tmp) (v : Value) : (a.put d v).defers = [] := by
  cases d <;> exact h

theorem AR.step {fr : Fr} {a : Act} (h : AR C B w O M fr a) {st' : St} (k : Step C B true w O M fr.st w' O' M' st') {v : AV} {cv : Value} (hv : VR C w' O' B M' v cv) (d : Option Tmp) :
    AR C B w' O' M' { tmps := putT fr.tmps d v, st := st' } (a.put d cv) where
  sit := k.sit
  lt := k.lt h.lt
  free := fun b hb => by
    have := k.nxt
    rw [k.map b (.inr hb)]
    exact h.free b (Nat.le_trans this hb)
  slots := (h.slots.mono k.ext).put hv d
  nodef := put_nodef h.nodef d cv

theorem getL_of_lt {α : Type} : ∀ {l : List α} {n : Nat} (h : n < l.length), getL l n = some l[n]
  | _ :: _, 0, _ => rfl
  | _ :: xs, n + 1, h => by simpa [getL] using getL_of_lt (l := xs) (n := n) (by simpa using h)

theorem getL_none {α : Type} {l : List α} {n : Nat} (h : l.length ≤ n) : getL l n = none := by
  cases hg : getL l n with
  | none => rfl
  | some v => obtain ⟨h1, _⟩ := getL_some hg; omega

theorem isWanted_sound {ops : Array Oper} {ts : List AV} {a : Act} (ht : TR C w O B M ts a) {o : Oper} (hg : guardOk ops o ts = true) : isWanted ops o ts = Region.wanted o (yielded ops a.tmps) := by
  unfold isWanted Region.wanted
  unfold guardOk at hg
  cases hgo : o.guard with
  | none => rfl
  | some p =>
    obtain ⟨j, want⟩ := p
    rw [hgo] at hg
    simp only at hg ⊢
    have hy : yields ops ts j = yielded ops a.tmps j := by
      unfold yields yielded
      have hl := ht.len
      cases hd : (ops[j]?).bind (·.dst) with
      | none => rfl
      | some d =>
        rw [hd] at hg
        simp only [Option.bind_some] at hg ⊢
        have key : ∀ d : Nat, (match getL ts d with | some v => known v | none => true) = true → (match getL ts d with | some (AV.bool b) => some b | _ => none) = (match a.tmps[d]? with | some (Value.bool b) => some b | _ => none) := fun d hk => by
          by_cases hlt : d < ts.length
          · have h2 : d < a.tmps.size := by omega
            rw [getL_of_lt hlt] at hk ⊢
            have hr := ht.rel d hlt h2 hk
            rw [Array.getElem?_eq_getElem h2]
            generalize ts[d] = q at hr
            generalize a.tmps[d] = r at hr
            cases hr <;> rfl
          · rw [Array.getElem?_eq_none (show a.tmps.size ≤ d by omega), getL_none (by omega)]
        exact key d hg
    rw [hy]
    cases yielded ops a.tmps j with
    | none => rfl
    | some b => cases b <;> cases want <;> rfl

/-- A REGION IN ITS ORDER. -/
theorem evSerial_sound (hT : TyOk P C) (hp : PrimsOk P C) {call : CallF} (hcall : CallOk P C call) {ops : Array Oper} {Q : Exit → Act → World → Prop} {fr' : Fr} : ∀ (l : List Oper) {w : World} {O : Nat → Prop} {M : MapB} {fr : Fr} {a : Act}, evSerial C call ops l fr = some fr' → AR C B w O M fr a →
    (∀ w' O' M' a', AR C B w' O' M' fr' a' → Step C B true w O M fr.st w' O' M' fr'.st → Q .normal a' w') → wpList P ops Q l a w
  | [], w, O, M, fr, a, h, ha, hq => by
    simp only [evSerial, Option.some.injEq] at h
    subst h
    exact hq _ _ _ _ ha (.refl ha.sit)
  | o :: r, w, O, M, fr, a, h, ha, hq => by
    unfold evSerial at h
    unfold wpList
    cases hgk : guardOk ops o fr.tmps with
    | false => rw [hgk] at h; cases h
    | true =>
    rw [hgk] at h
    simp only [cond_true] at h
    rw [← isWanted_sound ha.slots hgk]
    cases hw : isWanted ops o fr.tmps with
    | false =>
      rw [hw] at h
      simp only [cond_false] at h
      simp only [Bool.false_eq_true, if_false]
      have ha' := ha.step (.refl ha.sit) (undef_rel (C := C) (w := w) (O := O) (B := B) (M := M)) o.dst
      exact evSerial_sound hT hp hcall r h ha' hq
    | true =>
      rw [hw] at h
      simp only [cond_true, Option.bind_eq_some_iff] at h
      simp only [if_true]
      obtain ⟨⟨v, st⟩, ho, h⟩ := h
      refine .inl (evOp_sound hT hp hcall (serial := true) ha.sit ha.slots ha.lt (fun _ => ha.free) (fun b hb _ => ha.free b hb) ho fun cv w1 O1 M1 hv k => ?_)
      exact evSerial_sound hT hp hcall r h (ha.step k hv o.dst) fun w2 O2 M2 a2 ha2 k2 => hq _ _ _ _ ha2 (k.trans k2)

/-- what is left to show of the regions whose order is open -/
def DrawOk (P : Program) (C : Ctx) (call : CallF) (id : Nat) (ops : Array Oper) : Prop :=
  ∀ (B : Nat → Prop) (Q : Exit → Act → World → Prop) (w : World) (O : Nat → Prop) (M : MapB) (fr : Fr) (fl : Fr × Lg) (a : Act),
    evDrawn C call fr.st.nxt ops (Region.before ops).toList (number 0 ops.toList) ({ fr with st := { fr.st with nxt := fr.st.nxt + ops.size * share } }, lg0 ops.size) = some fl → AR C B w O M fr a →
    (∀ w' O' M' a', AR C B w' O' M' (fullFr fl) a' → Step C B true w O M fr.st w' O' M' (fullFr fl).st → Q .normal a' w') → (Code.region id ops true).wp P Q a w

def DrawsOk (P : Program) (C : Ctx) (call : CallF) : Code → Prop
  | .region id ops true => DrawOk P C call id ops
  | .seq a b => DrawsOk P C call a ∧ DrawsOk P C call b
  | .cond _ a b => DrawsOk P C call a ∧ DrawsOk P C call b
  | .block _ c => DrawsOk P C call c
  | .loop c => DrawsOk P C call c
  | _ => True

def Ex.of : Ex → Exit
  | .norm => .normal
  | .exit i => .exit i
  | .ret => .ret

theorem wp_loop_n {Q : Exit → Act → World → Prop} {a : Act} {c : Code} (I : Nat → Act → World → Prop) {n : Nat} (h₀ : I n a w)
    (round : ∀ n a w, I n a w → c.wp P (Exit.then (fun a' w' => ∃ m, m < n ∧ I m a' w') Q) a w) : (Code.loop c).wp P Q a w := by
  intro b k cs
  have key : ∀ n a w, I n a w →
      ∃ e a' w', Q e a' w' ∧ Arrives P (lone (b.at a (.code c :: .inLoop c :: k)) cs w) b k cs e a' w' := by
    intro n
    induction n using Nat.strongRecOn with
    | _ n ih =>
      intro a w hI
      obtain ⟨e, a₁, w₁, hq, harr⟩ := round n a w hI b (.inLoop c :: k) cs
      cases e with
      | normal =>
        obtain ⟨m, hlt, hI₁⟩ := hq
        obtain ⟨e₂, a₂, w₂, hq₂, harr₂⟩ := ih m hlt a₁ w₁ hI₁
        exact ⟨e₂, a₂, w₂, hq₂, .of_steps (Steps.trans harr (.one step_inLoop)) harr₂⟩
      | exit id => exact ⟨_, a₁, w₁, hq, .pass (x := .inLoop c) rfl (fun _ _ => .inl (by simp)) harr⟩
      | goto l => exact ⟨_, a₁, w₁, hq, .pass (x := .inLoop c) rfl (fun _ _ => .inl (by simp)) harr⟩
      | ret => exact ⟨_, a₁, w₁, hq, .pass (x := .inLoop c) rfl (fun _ _ => .inl (by simp)) harr⟩
      | panic ch => exact ⟨_, a₁, w₁, hq, .pass (x := .inLoop c) rfl (fun _ _ => .inl (by simp)) harr⟩
      | outgrown => exact ⟨_, a₁, w₁, hq, .pass (x := .inLoop c) rfl (fun _ _ => .inl (by simp)) harr⟩
  obtain ⟨e, a', w', hq, harr⟩ := key _ a w h₀
  exact ⟨e, a', w', hq, .of_steps (.one step_loop) harr⟩

/-- what is promised of the functions -/
structure FnsOk (P : Program) (C : Ctx) : Prop where
  fn : ∀ f fn body, C.funs.get f = some fn → fn.body = some body → P.funcs[f]? = some fn ∧ (fn.name == "runtime.NumGoroutine") = false

end
end Go.Ev
