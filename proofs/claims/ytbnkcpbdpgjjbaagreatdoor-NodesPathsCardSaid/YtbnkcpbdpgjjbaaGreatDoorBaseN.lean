/- A PART OF THE PROOF THAT ONE CALL OF A LAW OF LAYER 18 (of nodes that may be, each path leads there) returns true, whatever the input; the input reads as it did. No condition beyond the given statement. This part: BaseN. -/
import Derived.Test.YtbnkcpbdpgjjbaaGreatDoorFactsN
import Derived.Test.YtbnkcpbdpgjjbaaGreatDoorAwN
import Derived.Test.YtbnkcpbdpgjjbaaGreatDoorNpShelf
namespace Go.Proofs.Tn
open Go Go.Ev Go.Proofs Go.RowKit
set_option maxRecDepth 100000

set_option maxHeartbeats 0 in
theorem indexByteOk (D : Ctx) : PrimOk Tryz.prog D 140 phiIndexByte := primIndexByte (fun args w => run_callFunc_indexByte Tryz.func140 (by kernel_rfl) (by kernel_rfl) (by kernel_rfl) (by kernel_rfl) args w)
set_option maxHeartbeats 0 in
theorem countOk (D : Ctx) : PrimOk Tryz.prog D 112 phiCount := primCount (fun args w => run_callFunc_standIn Tryz.func112 (by kernel_rfl) (by kernel_rfl) (by kernel_rfl) (by kernel_rfl) args w)
theorem enters38 : ∀ args w, (callFunc 38 args).run Tryz.prog w = .ok (.enter 38 args) w := enters_of Tryz.func38 (by kernel_rfl) rfl
theorem joinOk (D : Ctx) : PrimOk Tryz.prog D 38 phiJoin := primJoin enters38 Tryz.strings_Join_none Tryz.strings_Join

theorem hasTi {D : Ctx} {t : TypeId} (h : (D.ti t).isSome = true) : ∃ i, D.ti t = some i := Option.isSome_iff_exists.1 h

set_option maxHeartbeats 0 in
theorem extsOk : ExtsOk Tryz.prog C := by
  intro g e hg
  have hg : exts g = some e := hg
  unfold exts at hg
  cases h1 : Nat.beq g 116 with
  | true =>
    rw [h1] at hg
    obtain rfl := (beq_iff _ _).1 h1
    have : Go.Ev.Extern.overlaps = e := Option.some.inj hg
    subst this
    exact ⟨37, 4, _, Tryz.underlying37, hasTi (by kernel_rfl), fun args w => run_callFunc_standIn Tryz.func116 (by kernel_rfl) (by kernel_rfl) (by kernel_rfl) (by kernel_rfl) args w⟩
  | false => rw [h1] at hg; cases hg

theorem primFns0 : PrimFns Tryz.prog C := by
  intro f φ hφ ds r h w B cargs _ _ hl
  have hφ2 : prims f = some φ := hφ
  clear hφ
  have hφ := hφ2
  clear hφ2
  unfold prims at hφ
  cases h1 : Nat.beq f 140 with
  | true =>
    rw [h1] at hφ
    simp only [cond_true, Option.some.injEq] at hφ
    obtain rfl := (beq_iff _ _).1 h1
    subst hφ
    exact indexByteOk C ds r h w B cargs hl
  | false =>
    rw [h1] at hφ
    simp only [cond_false] at hφ
    cases h2 : Nat.beq f 112 with
    | true =>
      rw [h2] at hφ
      simp only [cond_true, Option.some.injEq] at hφ
      obtain rfl := (beq_iff _ _).1 h2
      subst hφ
      exact countOk C ds r h w B cargs hl
    | false =>
      rw [h2] at hφ
      simp only [cond_false] at hφ
      cases h3 : Nat.beq f 38 with
      | true =>
        rw [h3] at hφ
        simp only [cond_true, Option.some.injEq] at hφ
        obtain rfl := (beq_iff _ _).1 h3
        subst hφ
        exact joinOk C ds r h w B cargs hl
      | false => rw [h3] at hφ; cases hφ

theorem mixed : Tryz.prog.follows .mixedOrders = true := by kernel_rfl
theorem tyOk : TyOk Tryz.prog C := tyOk_of typesAll
theorem fnsOk : FnsOk Tryz.prog C := fnsOk_of funsAll
theorem primsOk : PrimsOk Tryz.prog C := ⟨primFns0, extsOk⟩
theorem drawsOk : ∀ f fn body, C.funs.get f = some fn → fn.body = some body → Draws Tryz.prog C body := drawsOk_of mixed tyOk primsOk funsAll

theorem isTrue2_some {x : Option (AV × St)} (h : isTrue2 x = true) : ∃ st, x = some (.bool true, st) := by
  unfold isTrue2 at h
  split at h
  · rename_i b st
    subst h
    exact ⟨st, rfl⟩
  · cases h

/-- AWAKE IS TRUE: whatever the tape. -/
theorem awake_ok (w : World) : FnOk Tryz.prog 5 #[] w fun cv w' => cv = .bool true ∧ Below w.heap.size w w' := by
  obtain ⟨st, h⟩ := isTrue2_some awake
  have := run_sound tyOk primsOk fnsOk drawsOk (runK_sound h) (w := w) (B := fun _ => False) (cargs := []) (fun g cs hg => by cases hg) (fun _ h => h.elim) ⟨rfl, fun j h => by cases h⟩
  refine this.mono fun cv w' ⟨O', M', hv, hx, _⟩ => ?_
  cases hv
  exact ⟨rfl, hx.os, hx.tape, hx.output, hx.size, fun k hk => hx.keep k hk (fun h => h)⟩

theorem calls_of_fn {f : FuncId} {args : Array Value} {w : World} {R : Value → World → Prop} {fn : Func} {c : Code} (hf : Tryz.prog.funcs[f]? = some fn) (hn : (fn.name == "runtime.NumGoroutine") = false) (hb : fn.body = some c)
    (h : FnOk Tryz.prog f args w R) : ∀ {o : Oper} {a : Act} {next : Act → World → Prop} {Q : Exit → Act → World → Prop}, (∀ v w', R v w' → next (a.put o.dst v) w') → Calls Tryz.prog f args w (fun
    | .returned v, w'' => next (a.put o.dst v) w''
    | .panicked chain, w'' => Q (.panic chain) a w''
    | .outgrown, _ => LetsOut Q) := fun {o a next Q} hx => by
  have := h o a next Q hx
  rw [run_enter hf hn hb args w, Oper.upon_enter] at this
  exact this

theorem awakeCalls (w : World) : Calls Tryz.prog 5 #[] w fun e w' => e = .returned (.bool true) ∧ Below w.heap.size w w' := by
  have := calls_of_fn (o := { op := .move (.const (.bool true)), dst := some 0, type := 4, pos := "", after := #[], guard := none }) (a := { tmps := #[undef], defers := [] }) (next := fun a w' => a.tmps[0]? = some (.bool true) ∧ Below w.heap.size w w') (Q := fun _ _ _ => False) fr5.1 fr5.2.1 rfl (awake_ok w) (fun v w' ⟨h1, h2⟩ => by subst h1; exact ⟨rfl, h2⟩)
  refine this.mono fun e w' h => ?_
  cases e with
  | returned v =>
    obtain ⟨h1, h2⟩ := h
    refine ⟨?_, h2⟩
    have : (some v : Option Value) = some (.bool true) := h1
    cases this
    rfl
  | panicked c => exact h.elim
  | outgrown => obtain ⟨_, _, h⟩ := h; exact h.elim
end Go.Proofs.Tn
