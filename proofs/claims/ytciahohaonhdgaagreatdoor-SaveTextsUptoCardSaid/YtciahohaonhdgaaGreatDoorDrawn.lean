/- A PART OF THE PROOF THAT SAVETEXTS HOLDS FOR EVERY INPUT OF BULK AT MOST 1048576. No condition beyond the given statement. This part: Drawn. -/
import Derived.Calls
import Derived.StepT
import Derived.Below
import Derived.Sort.Grow
import Derived.Deep.Draws
namespace Go
theorem World.ask_drawn {α : Type} : ∀ (s : Ask α) (w : World), w.drawn ≤ (w.ask s).2.drawn
 | .done a, w => by simp [World.ask]
 | .ask what range k, w => by
  unfold World.ask
  dsimp only
  split
  ·exact World.ask_drawn (k 0) w
  ·exact Nat.le_trans (Nat.le_succ _) (World.ask_drawn (k _) { w with drawn := w.drawn + 1 })
theorem World.sys_drawn (w : World) (c : Sys) : w.drawn ≤ (w.sys c).2.drawn := by
 have h := World.ask_drawn (Kernel.perform c w.os) w
 unfold World.sys
 split
 ·exact Nat.le_refl _
 ·rename_i heq
  rw [heq] at h
  exact h
theorem except_bind_ok {ε α β : Type} {x : Except ε α} {f : α → Except ε β} {b : β} (h : (x >>= f) = .ok b) : ∃ a, x = .ok a ∧ f a = .ok b := by
 cases x with
 | error e => cases h
 | ok a => exact ⟨a, rfl, h⟩
theorem World.viewStore_drawn {p : Program} {w w' : World} {at_ : Addr} {u : TypeId} {k : Addr} {v : Value} {atomic : Bool} {l : List Addr} (h : w.viewStore p at_ u k v atomic = .ok (w', l)) : w.drawn = w'.drawn := by
 unfold World.viewStore at h
 dsimp only at h
 split at h
 ·cases h
 obtain ⟨⟨c, e, frozen, first, like, cells⟩, _, h⟩ := except_bind_ok h
 dsimp only at h
 split at h
 ·rename_i bytes _
  split at h
  ·cases h
  obtain ⟨c', _, h⟩ := except_bind_ok h
  simp only [pure, Except.pure] at h
  cases h
  rfl
 ·cases h
theorem World.farStore_drawn {p : Program} {w w' : World} {a : Addr} {v : Value} {atomic : Bool} {l : List Addr} (h : w.farStore p a v atomic = .ok (w', l)) : w.drawn = w'.drawn := by
 unfold World.farStore at h
 split at h
 ·split at h
  ·rename_i r hr
   cases h
   exact World.viewStore_drawn hr
  ·cases h
 ·cases h
def Result.world {α : Type} : Result α → World
 | .ok _ w => w
 | .halt _ w => w
theorem Sem.run_drawn {α : Type} (p : Program) (s : Sem α) : ∀ w : World, w.drawn ≤ (s.run p w).world.drawn := by
 induction s with
 | pure a => intro w; exact Nat.le_refl _
 | load m a k ih =>
  intro w
  unfold Sem.run
  split
  ·exact ih _ w
  ·split
   ·exact ih _ w
   ·exact Nat.le_refl _
 | store m a v k ih =>
  intro w
  cases v with
  | agg _ => exact Nat.le_refl _
  | tuple _ => exact Nat.le_refl _
  | _ =>
   unfold Sem.run
   split
   ·split
    ·exact Nat.le_refl _
    ·exact Nat.le_trans (m := (w.setCell a _).drawn) (Nat.le_refl _) (ih _)
   ·split
    ·rename_i h
     rw [World.farStore_drawn h]
     exact ih _
    ·exact Nat.le_refl _
 | new o k ih => intro w; exact ih _ { w with heap := w.heap.push o }
 | shape r k ih => intro w; exact ih _ _
 | freeze a n k ih =>
  intro w
  refine Nat.le_trans (Nat.le_of_eq ?_) (ih _)
  unfold World.freeze
  split <;> rfl
 | frozen a k ih => intro w; exact ih _ _
 | getObj r k ih =>
  intro w
  unfold Sem.run
  split
  ·exact Nat.le_refl _
  ·exact ih _ _
  ·exact Nat.le_refl _
 | setObj r o k ih =>
  intro w
  unfold Sem.run
  split
  ·exact Nat.le_refl _
  ·exact ih { w with heap := w.heap.setIfInBounds r o }
  ·exact Nat.le_refl _
 | choose q k ih =>
  intro w
  unfold Sem.run
  split
  ·exact ih _ _
  ·exact Nat.le_trans (Nat.le_succ _) (ih _ { w with drawn := w.drawn + 1 })
 | sys c k ih =>
  intro w
  exact Nat.le_trans (World.sys_drawn w c) (ih _ _)
 | program k ih => intro w; exact ih _ _
 | mark m k ih => intro w; exact ih _
 | halt h => intro w; exact Nat.le_refl _
theorem Sem.ok_drawn {α : Type} {p : Program} {s : Sem α} {w w' : World} {a : α} (h : s.run p w = .ok a w') : w.drawn ≤ w'.drawn := by
 have := Sem.run_drawn p s w
 rw [h] at this
 exact this
theorem Sem.halt_drawn {α : Type} {p : Program} {s : Sem α} {w w' : World} {x : Halt} (h : s.run p w = .halt x w') : w.drawn ≤ w'.drawn := by
 have := Sem.run_drawn p s w
 rw [h] at this
 exact this
end Go
namespace Go
set_option maxRecDepth 100000
def GStep.mono (w : World) : GStep → Prop
 | .go _ w' _ => w.drawn ≤ w'.drawn
 | .comm _ _ _ _ w' _ => w.drawn ≤ w'.drawn
 | .spawn _ _ w' _ => w.drawn ≤ w'.drawn
 | .count _ w' _ => w.drawn ≤ w'.drawn
 | .timer _ _ w' _ => w.drawn ≤ w'.drawn
 | .alone _ _ w' _ => w.drawn ≤ w'.drawn
 | .newcoro _ _ _ w' _ => w.drawn ≤ w'.drawn
 | .coroswitch _ _ _ w' _ => w.drawn ≤ w'.drawn
 | .collect _ w' _ => w.drawn ≤ w'.drawn
 | .watch _ w' _ => w.drawn ≤ w'.drawn
 | .ended .. => True
theorem GStep.mono_after {w : World} (es : Array Event) {s : GStep} (h : s.mono w) : (GStep.after es s).mono w := by
 cases s <;> exact h
theorem GStep.mono_le {w w1 : World} {s : GStep} (hw : w.drawn ≤ w1.drawn) (h : s.mono w1) : s.mono w := by
 cases s
 all_goals first
  | exact trivial
  | exact Nat.le_trans hw h
theorem GStep.mono_ite {w : World} {c : Prop} [Decidable c] {a b : GStep} (h1 : a.mono w) (h2 : b.mono w) : (if c then a else b).mono w := by
 by_cases h : c
 ·rw [if_pos h]; exact h1
 ·rw [if_neg h]; exact h2
theorem dieOf_mono (fr : Frame) (ahead : List ByteArray) (m : String) (b : Bool) (w : World) : (dieOf fr ahead m b w).mono w := Nat.le_refl _
theorem endThrow_mono (fr : Frame) (m : String) (w : World) : (endThrow fr m w).mono w := Nat.le_refl _
theorem endPrinting_mono (p : Program) (fr : Frame) (v : Value) (w : World) : (endPrinting p fr v w).mono w := by
 unfold endPrinting
 dsimp only
 split
 ·exact endThrow_mono _ _ _
 ·trivial
theorem endFatal_mono (p : Program) (fr : Frame) (callers : List Frame) (dying : Option Dying) (m : String) (w : World) : (endFatal p fr callers dying m w).mono w := by
 unfold endFatal
 dsimp only
 split
 ·rename_i h
  exact GStep.mono_le (Sem.ok_drawn h) (dieOf_mono _ _ _ _ _)
 ·trivial
 ·trivial
theorem endWith_mono (w : World) (fd : Nat) (t : ByteArray) (o : Outcome) : (endWith w fd t o).mono w := by
 unfold endWith
 dsimp only
 repeat' split
 all_goals trivial
theorem writeOn_mono (p : Program) (fr : Frame) (d : Dying) (f : Fatal) (w : World) : (writeOn p fr d f w).mono w := by
 unfold writeOn
 simp only [Sem.runT_eq]
 split
 ·trivial
 ·split
  ·rename_i h
   injection h with h1 h2
   exact Sem.ok_drawn h1
  ·rename_i h
   injection h with h1 h2
   exact Sem.halt_drawn h1
  ·trivial
  ·trivial
theorem die_mono (p : Program) (fr : Frame) (d : Dying) (w : World) : (die p fr d w).mono w := by
 unfold die
 simp only [Sem.runT_eq]
 split
 ·exact writeOn_mono _ _ _ _ _
 ·split
  ·split
   ·exact Nat.le_refl _
   ·exact endWith_mono _ _ _ _
  ·split
   ·exact Nat.le_refl _
   ·split
    ·rename_i h
     exact Sem.ok_drawn h
    ·trivial
   ·refine GStep.mono_after _ ?_
    split
    ·rename_i h
     exact Sem.ok_drawn h
    ·rename_i h
     exact Sem.ok_drawn h
    ·trivial
    ·rename_i h
     exact GStep.mono_le (Sem.halt_drawn h) (endPrinting_mono _ _ _ _)
    ·trivial
   ·trivial
theorem doReturn_mono (p : Program) (main : Bool) (fr : Frame) (callers : List Frame) (dying : Option Dying) (v : Value) (w : World) : (doReturn p main fr callers dying v w).mono w := by
 unfold doReturn
 repeat' split
 all_goals first
  | trivial
  | exact Nat.le_refl _
theorem callDeferred_mono (p : Program) (fr : Frame) (callers : List Frame) (dying : Option Dying) (d : Deferred) (w : World) : (callDeferred p fr callers dying d w).mono w := by
 unfold callDeferred
 simp only [Sem.runT_eq]
 refine GStep.mono_ite trivial ?_
 ·refine GStep.mono_after _ ?_
  have h := Sem.run_drawn p (invoke d.target d.args) w
  generalize (invoke d.target d.args).run p w = r at h ⊢
  cases r with
  | ok a w' =>
   have h : w.drawn ≤ w'.drawn := h
   cases a with
   | recover =>
    dsimp only
    split <;> exact h
   | alone on v =>
    cases on with
    | false => exact h
    | true => trivial
   | coroswitch c e =>
    cases e with
    | false => trivial
    | true => exact h
   | _ => first
    | exact h
    | trivial
  | halt a w' =>
   have h : w.drawn ≤ w'.drawn := h
   cases a with
   | fatal m => exact GStep.mono_le h (endFatal_mono _ _ _ _ _ _)
   | throw m => exact GStep.mono_le h (endThrow_mono _ _ _)
   | _ => first
    | exact h
    | trivial
theorem unwind_mono (p : Program) (main : Bool) (fr : Frame) (callers : List Frame) (dying : Option Dying) (w : World) : (unwind p main fr callers dying w).mono w := by
 unfold unwind
 simp only [Sem.runT_eq]
 split
 ·refine GStep.mono_after _ ?_
  split
  ·rename_i h
   exact Sem.ok_drawn h
  ·trivial
 ·exact callDeferred_mono _ _ _ _ _ _
 ·split
  ·trivial
  ·split
   ·trivial
   ·split
    ·exact Nat.le_refl _
    ·split
     ·split
      ·exact Nat.le_refl _
      ·split
       ·rename_i h
        exact Sem.ok_drawn h
       ·trivial
       ·trivial
     ·split
      ·exact endPrinting_mono _ _ _ _
      ·trivial
  ·split
   ·exact doReturn_mono _ _ _ _ _ _ _
   ·refine GStep.mono_after _ ?_
    split
    ·rename_i h
     exact GStep.mono_le (Sem.ok_drawn h) (doReturn_mono _ _ _ _ _ _ _)
    ·trivial
    ·trivial
theorem early_mono (p : Program) (fr : Frame) (callers : List Frame) (dying : Option Dying) (g : Nat) (w : World) : (early p fr callers dying g w).mono w := by
 have hn : ∀ w1 : World, w.drawn ≤ w1.drawn → (match w1.heap[g]? with
  | some (.pending c elem) => GStep.go { frame := fr, callers, status := .running, dying } { w1 with heap := w1.heap.setIfInBounds g (.cells c elem) }
  | _ => .ended (.stuck "early: the variable does not wait" (fr.pos p)) w1).mono w := by
  intro w1 h
  split
  ·exact h
  ·trivial
 unfold early
 dsimp only
 split
 ·exact hn w (Nat.le_refl _)
 ·split
  ·trivial
  ·split
   ·exact hn w (Nat.le_refl _)
   ·split
    ·exact hn w (Nat.le_refl _)
    ·split
     ·trivial
     ·exact Nat.le_refl _
     ·trivial
     ·exact hn w (Nat.le_refl _)
     ·split
      ·exact Nat.le_refl _
      ·split
       ·exact hn w (Nat.le_refl _)
       ·split
        ·rename_i h
         exact hn _ (Sem.ok_drawn h)
        ·rename_i h
         exact Sem.ok_drawn h
        ·trivial
end Go
namespace Go
set_option maxRecDepth 100000
theorem apply_mono (p : Program) (listen : Bool) (fr : Frame) (callers : List Frame) (dying : Option Dying) (s : Sem Next) (w : World) : (stepG.apply p listen fr callers dying s w).mono w := by
 unfold stepG.apply
 have hr : (if listen then s.runT p w #[] else (s.run p w, #[])).1 = s.run p w := by
  cases listen
  ·rfl
  ·simp only [Sem.runT_eq, if_true]
 have h := Sem.run_drawn p s w
 dsimp only
 rw [hr]
 refine GStep.mono_after _ ?_
 generalize s.run p w = r at h ⊢
 cases r with
 | ok a w' =>
  have h : w.drawn ≤ w'.drawn := h
  cases a with
  | callThen d resume saved wrapper =>
   dsimp only
   split <;> exact h
  | row row args =>
   dsimp only
   split <;> exact h
  | stack resume saved =>
   dsimp only
   split <;> exact h
  | recover =>
   dsimp only
   split <;> exact h
  | spawn d =>
   dsimp only
   exact GStep.mono_ite (GStep.mono_le h (endThrow_mono _ _ _)) h
  | _ => exact h
 | halt a w' =>
  have h : w.drawn ≤ w'.drawn := h
  cases a with
  | fatal m => exact GStep.mono_le h (endFatal_mono _ _ _ _ _ _)
  | throw m => exact GStep.mono_le h (endThrow_mono _ _ _)
  | unsupported u =>
   cases u with
   | initOrder g => exact GStep.mono_le h (early_mono _ _ _ _ _ _)
   | _ => trivial
  | _ => first
   | exact h
   | trivial
theorem oper_mono (p : Program) (listen : Bool) (fr : Frame) (callers : List Frame) (dying : Option Dying) (w : World) : (stepG.oper p listen fr callers dying w).mono w := by
 unfold stepG.oper
 split
 ·trivial
 ·split
  ·exact apply_mono p _ _ _ _ _ _
  ·exact apply_mono p _ _ _ _ _ _
theorem exec_mono (p : Program) (main : Bool) (listen : Bool) (fr : Frame) (callers : List Frame) (dying : Option Dying) (w : World) : (stepG.exec p main listen fr callers dying w).mono w := by
 have hleave : ∀ jump : Option Code, (match fr.roundOf with
   | none => if jump matches none | some .ret then GStep.go { frame := { fr with mode := .returning }, callers, status := .running, dying } w else .ended (.stuck "exit, goto: no such block or label" (fr.pos p)) w
   | some l =>
    let (r, es) := (Instr.endRound l jump).runT p w #[]
    GStep.after (seen p fr.fn es) <| match r with
    | .ok v w => doReturn p main fr callers dying v w
    | .halt _ w => .ended (.stuck "range over a function: no such loop" (fr.pos p)) w).mono w := by
  intro jump
  simp only [Sem.runT_eq]
  split
  ·exact GStep.mono_ite (Nat.le_refl _) trivial
  ·refine GStep.mono_after _ ?_
   split
   ·rename_i h
    exact GStep.mono_le (Sem.ok_drawn h) (doReturn_mono _ _ _ _ _ _ _)
   ·trivial
 unfold stepG.exec
 simp only [Sem.runT_eq] at hleave ⊢
 split
 ·exact hleave none
 ·exact hleave (some .ret)
 ·exact Nat.le_refl _
 ·exact Nat.le_refl _
 ·exact Nat.le_refl _
 ·exact Nat.le_refl _
 ·exact Nat.le_refl _
 ·split
  ·exact Nat.le_refl _
  ·trivial
 ·exact Nat.le_refl _
 ·exact Nat.le_refl _
 ·exact Nat.le_refl _
 ·exact Nat.le_refl _
 ·rename_i id k _
  cases exitTo id k with
  | none => exact hleave (some (.exit id))
  | some t => exact Nat.le_refl _
 ·rename_i l k _
  cases gotoIn l k with
  | none => exact hleave (some (.goto l))
  | some t => exact Nat.le_refl _
 ·refine GStep.mono_after _ ?_
  split
  ·rename_i h
   exact GStep.mono_le (Sem.ok_drawn h) (apply_mono p _ _ _ _ _ _)
  ·trivial
 ·trivial
 ·exact apply_mono p _ _ _ _ _ _
 ·refine GStep.mono_after _ ?_
  split
  ·rename_i h
   exact Sem.ok_drawn h
  ·rename_i h
   exact Sem.halt_drawn h
  ·trivial
 ·trivial
 ·exact apply_mono p _ _ _ _ _ _
 ·rename_i row args _ _
  cases Extern.next row with
  | none => trivial
  | some e => exact apply_mono p _ _ _ _ _ _
 ·refine GStep.mono_ite (Nat.le_refl _) ?_
  split
  ·rename_i h
   exact Sem.ok_drawn h
  ·trivial
 ·exact Nat.le_refl _
 ·exact GStep.mono_ite (oper_mono p _ _ _ _ _) (Nat.le_refl _)
theorem stepG_mono (p : Program) (main : Bool) (g : Goroutine) (w : World) (listen : Bool) : (stepG p main g w listen).mono w := by
 unfold stepG
 split
 split
 ·exact die_mono _ _ _ _
 ·exact exec_mono _ _ _ _ _ _ _
 ·exact unwind_mono _ _ _ _ _ _
end Go
namespace Go
set_option maxRecDepth 100000
def Stepped.mono (w : World) : Stepped → Prop
 | .next m => w.drawn ≤ m.world.drawn
 | .ended .. => True
theorem Stepped.mono_le {w w1 : World} {s : Stepped} (hw : w.drawn ≤ w1.drawn) (h : s.mono w1) : s.mono w := by
 cases s
 all_goals first
  | exact trivial
  | exact Nat.le_trans hw h
theorem Stepped.mono_ite {w : World} {c : Prop} [Decidable c] {a b : Stepped} (h1 : a.mono w) (h2 : b.mono w) : (if c then a else b).mono w := by
 by_cases h : c
 ·rw [if_pos h]; exact h1
 ·rw [if_neg h]; exact h2
theorem look_mono (p : Program) (gs : Array Goroutine) (rest : Rest) (w : World) : (look p gs rest w).mono w := by
 unfold look
 dsimp only
 split
 ·refine Stepped.mono_ite trivial ?_
  split
  ·trivial
  ·split
   ·rename_i h
    have := Sem.ok_drawn h
    exact this
   ·trivial
   ·trivial
 ·trivial
theorem waitingAt_drawn {rest : Rest} {cases : Array CommCase} {w w' : World} (h : waitingAt rest cases w = some w') : w.drawn = w'.drawn := by
 unfold waitingAt at h
 split at h
 ·split at h
  ·cases h; rfl
  ·cases h
 ·cases h; rfl
theorem communicate_mono (p : Program) (rest : Rest) (gs : Array Goroutine) (i : Nat) (g : Goroutine) (cs : Array CommCase) (blocking : Bool) (shape : CommShape) (w : World) : (communicate p rest gs i g cs blocking shape w).1.mono w := by
 unfold communicate
 dsimp only
 split
 ·trivial
 ·split
  ·split
   ·split
    ·rename_i h
     exact Nat.le_of_eq (waitingAt_drawn h)
    ·trivial
   ·exact Nat.le_refl _
  ·split
   ·trivial
   ·rename_i h
    have h0 := Sem.ok_drawn h
    split
    ·split
     ·rename_i h1
      exact Nat.le_trans h0 (Sem.halt_drawn h1)
     ·trivial
    ·exact h0
    ·exact h0
    ·split
     ·exact h0
     ·split
      ·rename_i h1
       have h2 := Sem.ok_drawn h1
       exact Nat.le_trans h0 h2
      ·trivial
    ·exact h0
    ·exact h0
    ·trivial
theorem drain_drawn (w : World) (c : Nat) : (drain w c).2.drawn = w.drawn := by
 unfold drain
 split <;> rfl
theorem retime_drawn (m : Machine) (k : Nat) (t : Timer) (a b : Nat) : (retime m k t a b).2.world.drawn = m.world.drawn := by
 unfold retime
 dsimp only
 split
 ·exact drain_drawn _ _
 ·rfl
theorem timerOp_drawn {m m' : Machine} {op : TimerOp} {v : Value} (h : timerOp m op = .ok (v, m')) : m.world.drawn = m'.world.drawn := by
 unfold timerOp at h
 dsimp only at h
 split at h
 ·split at h
  ·cases h; rfl
  ·split at h
   ·split at h
    ·cases h
    ·cases h; rfl
   ·cases h
 ·unfold timerOp.named at h
  split at h
  ·injection h with h
   have := congrArg (fun x => x.2.world.drawn) h
   exact (this.symm.trans (retime_drawn _ _ _ _ _)).symm
  ·cases h
 ·split at h
  ·rename_i m1 hm
   have h1 : m.world.drawn = m1.world.drawn := by
    unfold timerOp.opened at hm
    split at hm
    ·split at hm
     ·cases hm; rfl
     ·cases hm
    ·cases hm; rfl
   unfold timerOp.named at h
   split at h
   ·injection h with h
    have := congrArg (fun x => x.2.world.drawn) h
    exact h1.trans (this.symm.trans (retime_drawn _ _ _ _ _)).symm
   ·cases h
  ·cases h
 ·cases h; rfl
theorem serve_mono (p : Program) (m : Machine) (k : Nat) : (serve p m k).mono m.world := by
 unfold serve
 dsimp only
 split
 ·trivial
 ·exact Nat.le_refl _
 ·split
  ·trivial
  ·exact Nat.le_refl _
theorem runT_mono (p : Program) (m : Machine) (i : Nat) (listen : Bool) : (runT p m i listen).1.mono m.world := by
 unfold runT
 dsimp only
 generalize hs : stepG p (i == 0) _ m.world listen = s
 have h := hs ▸ stepG_mono p (i == 0) _ m.world listen
 split
 ·trivial
 ·exact Stepped.mono_le h (communicate_mono _ _ _ _ _ _ _ _ _)
 ·exact h
 ·exact h
 ·exact Stepped.mono_ite trivial h
 ·exact h
 ·exact Stepped.mono_le h (look_mono _ _ _ _)
 ·exact h
 ·exact h
 ·split
  ·exact h
  ·split
   ·rename_i h1
    have h2 := endThrow_mono _ _ _ |> (h1 ▸ ·)
    exact Nat.le_trans h h2
   ·trivial
  ·trivial
 ·split
  ·rename_i h1
   exact Nat.le_trans h (Nat.le_of_eq (timerOp_drawn h1))
  ·split
   ·rename_i h1
    have h2 := endThrow_mono _ _ _ |> (h1 ▸ ·)
    exact Nat.le_trans h h2
   ·trivial
  ·trivial
  ·trivial
end Go
namespace Go
open Go.RowKit
set_option maxRecDepth 100000
def Move.mono (w : World) : Move → Prop
 | .goroutine m _ => w.drawn ≤ m.world.drawn
 | .machine s _ => s.mono w
theorem Move.mono_ite {w : World} {c : Prop} [Decidable c] {a b : Move} (h1 : a.mono w) (h2 : b.mono w) : (if c then a else b).mono w := by
 by_cases h : c
 ·rw [if_pos h]; exact h1
 ·rw [if_neg h]; exact h2
theorem Move.mono_le {w w1 : World} {s : Move} (hw : w.drawn ≤ w1.drawn) (h : s.mono w1) : s.mono w := by
 cases s
 ·exact Nat.le_trans hw h
 ·exact Stepped.mono_le hw h
theorem askOn_mono (p : Program) (m : Machine) : (askOn p m).mono m.world := by
 have hpick : ∀ m1 : Machine, m.world.drawn ≤ m1.world.drawn → (match (choose (.sched (runnable m.gs m.world.os.mono).length)).run p m1.world with
   | .halt _ w => Move.machine (.ended (.stuck "sched" "") w)
   | .ok k world =>
    if (runnable m.gs m.world.os.mono).length ≤ 1 then .goroutine { m1 with world } ((runnable m.gs m.world.os.mono).getD k 0) else
    match (choose (.extern "sched.slice" 65536)).run p world with
    | .halt _ w => .machine (.ended (.stuck "sched.slice" "") w)
    | .ok n world => .goroutine { m1 with world, rest := { m1.rest with slice := if n = 0 then none else some ((runnable m.gs m.world.os.mono).getD k 0, n) } } ((runnable m.gs m.world.os.mono).getD k 0)).mono m.world := by
  intro m1 h
  split
  ·trivial
  ·rename_i h1
   have h2 := Nat.le_trans h (Sem.ok_drawn h1)
   refine Move.mono_ite h2 ?_
   split
   ·trivial
   ·rename_i h3
    have h4 := Sem.ok_drawn h3
    exact Nat.le_trans h2 h4
 unfold askOn
 dsimp only at hpick ⊢
 split
 ·trivial
 ·rename_i h0
  have h1 := Sem.ok_drawn h0
  split
  ·exact Stepped.mono_le (w1 := _) h1 (serve_mono p { m with world := _ } _)
  ·split
   ·split
    ·exact h1
    ·split
     ·exact h1
     ·split
      ·trivial
      ·trivial
   ·split
    ·exact hpick { m with world := _ } h1
    ·split
     ·trivial
     ·rename_i h2
      have h3 := Sem.ok_drawn h2
      exact hpick { m with world := _ } (Nat.le_trans h1 h3)
     ·rename_i h2
      have h3 := Sem.ok_drawn h2
      exact Nat.le_trans h1 h3
     ·rename_i h2
      have h3 := Sem.ok_drawn h2
      exact hpick (Machine.advanceTo { m with world := _ } _) (Nat.le_trans h1 h3)
theorem ask_mono (p : Program) (m : Machine) : (ask p m).mono m.world := by
 unfold ask
 split
 ·split
  ·trivial
  ·rename_i h
   have h1 := Sem.ok_drawn h
   split
   ·rename_i h2
    have h3 := h2 ▸ look_mono p m.gs m.rest _
    exact Move.mono_le (Nat.le_trans h1 h3) (askOn_mono _ _)
   ·rename_i h2
    exact Stepped.mono_le h1 (look_mono p m.gs m.rest _)
  ·rename_i h
   have h1 := Sem.ok_drawn h
   exact Move.mono_le h1 (askOn_mono _ _)
 ·exact askOn_mono _ _
theorem move_mono (p : Program) (m : Machine) : (move p m).mono m.world := by
 unfold move
 split
 ·exact Move.mono_ite (Nat.le_refl _) trivial
 ·split
  ·exact Move.mono_ite (Nat.le_refl _) (ask_mono p _)
  ·exact ask_mono _ _
theorem step_mono (p : Program) (m : Machine) : (step p m).mono m.world := by
 unfold step stepT
 have h := move_mono p m
 generalize move p m = r at h ⊢
 cases r with
 | goroutine m1 i => exact Stepped.mono_le h (runT_mono _ _ _ _)
 | machine s ops => exact h
theorem runN_mono (p : Program) : ∀ (n : Nat) (m : Machine), (runN p n m).mono m.world
 | 0, m => Nat.le_refl _
 | n + 1, m => by
  have h := step_mono p m
  unfold runN
  generalize step p m = s at h ⊢
  cases s with
  | next m1 => exact Stepped.mono_le h (runN_mono p n m1)
  | ended o w => trivial
theorem Steps.drawn {P : Program} {m m' : Machine} (h : Steps P m m') : m.world.drawn ≤ m'.world.drawn := by
 obtain ⟨n, hn⟩ := h
 have := runN_mono P n m
 rw [hn] at this
 exact this
theorem Calls.drawn {P : Program} {f : FuncId} {args : Array Value} {w : World} {R : Ending → World → Prop} (h : Calls P f args w R) :
  Calls P f args w fun e w' => R e w' ∧ (∀ v, e = .returned v → w.drawn ≤ w'.drawn) := by
 intro cs
 obtain ⟨e, w', fr, h1, h2, h3, h4⟩ := h cs
 refine ⟨e, w', fr, ⟨h1, ?_⟩, h2, h3, h4⟩
 rintro v rfl
 have : Steps P _ _ := h2
 exact this.drawn
theorem below_grown_eq {w w' : World} (h : Below w.heap.size w w') (hd : w.drawn ≤ w'.drawn) : ∃ q os, w' = Sort.grow (w.drewN q) os := by
 refine ⟨w'.drawn - w.drawn, w'.heap.extract w.heap.size w'.heap.size, ?_⟩
 have hheap : w'.heap = w.heap ++ w'.heap.extract w.heap.size w'.heap.size := by
  apply Array.ext_getElem?
  intro k
  by_cases hk : k < w.heap.size
  ·rw [Array.getElem?_append_left hk]
   exact h.block k hk
  ·rw [Array.getElem?_append_right (by omega), Array.getElem?_extract]
   have hs := h.size
   by_cases h2 : k < w'.heap.size
   ·rw [if_pos (by omega)]
    congr 1
    omega
   ·rw [if_neg (by omega), Array.getElem?_eq_none (by omega)]
 unfold Sort.grow World.drewN
 cases w' with
 | mk heap tape drawn os output =>
  simp only at hheap hd
  have e1 := h.os
  have e2 := h.tape
  have e3 := h.output
  simp only at e1 e2 e3
  subst e1 e2 e3
  simp only [World.mk.injEq, true_and]
  refine ⟨hheap, ?_, trivial⟩
  omega
theorem Calls.grows {P : Program} {f : FuncId} {args : Array Value} {w : World} {v : Value} (h : Calls P f args w fun e w' => e = .returned v ∧ Below w.heap.size w w') :
  Calls P f args w fun e w' => e = .returned v ∧ ∃ q os, w' = Sort.grow (w.drewN q) os :=
 h.drawn.mono fun _ _ ⟨⟨h1, h2⟩, h3⟩ => ⟨h1, below_grown_eq h2 (h3 v h1)⟩
end Go
