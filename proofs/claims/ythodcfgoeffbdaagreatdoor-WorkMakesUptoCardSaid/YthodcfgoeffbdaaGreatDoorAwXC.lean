/- A PART OF THE PROOF THAT WORKMAKES HOLDS FOR EVERY INPUT OF BULK AT MOST 1048576. No condition beyond the given statement. This part: AwXC. -/
import Derived.Test.YthodcfgoeffbdaaGreatDoorFactsW
import Derived.Test.YthodcfgoeffbdaaGreatDoorBaseX
import Derived.Test.YthodcfgoeffbdaaGreatDoorWName
import Derived.Deep.Slices
namespace Go.Proofs.Wc
open Go Go.Ev Go.Proofs Go.RowKit
set_option maxRecDepth 100000

theorem hasTi {D : Ctx} {t : TypeId} (h : (D.ti t).isSome = true) : ∃ i, D.ti t = some i := Option.isSome_iff_exists.1 h
theorem entersJ : ∀ args w, (callFunc 161 args).run Tryz.prog w = .ok (.enter 161 args) w := enters_of Tryz.func161 (by kernel_rfl) rfl

set_option maxHeartbeats 0 in
theorem indexByteOk (D : Ctx) : PrimOk Tryz.prog D 270 phiIndexByte := primIndexByte (fun args w => run_callFunc_indexByte Tryz.func270 (by kernel_rfl) (by kernel_rfl) (by kernel_rfl) (by kernel_rfl) args w)
set_option maxHeartbeats 0 in
theorem countOk (D : Ctx) : PrimOk Tryz.prog D 241 phiCount := primCount (fun args w => run_callFunc_standIn Tryz.func241 (by kernel_rfl) (by kernel_rfl) (by kernel_rfl) (by kernel_rfl) args w)
theorem joinOk (D : Ctx) : PrimOk Tryz.prog D 161 phiJoin := primJoin entersJ Tryz.strings_Join_none Tryz.strings_Join

set_option maxHeartbeats 0 in
theorem extsOk (D : Ctx) (ht : D.types = types) (he : D.ext = exts) : ExtsOk Tryz.prog D := by
  intro g e hg
  rw [he] at hg
  unfold exts at hg
  have ti : ∀ t, D.ti t = C0.ti t := fun t => by unfold Ctx.ti; rw [ht]; rfl
  have ov : ∀ b : Bool, (bif b then some Go.Ev.Extern.overlaps else none) = some e → b = true ∧ e = .overlaps := fun b h => by
    cases b with
    | true => exact ⟨rfl, (Option.some.inj h).symm⟩
    | false => cases h
  obtain ⟨h2, rfl⟩ := ov _ hg
  simp only [Bool.or_eq_true, beq_iff] at h2
  rcases h2 with rfl | rfl
  · exact ⟨47, 4, _, Tryz.underlying47, by rw [ti]; exact hasTi (by kernel_rfl), fun args w => run_callFunc_standIn Tryz.func158 (by kernel_rfl) (by kernel_rfl) (by kernel_rfl) (by kernel_rfl) args w⟩
  · exact ⟨22, 4, _, Tryz.underlying22, by rw [ti]; exact hasTi (by kernel_rfl), fun args w => run_callFunc_standIn Tryz.func168 (by kernel_rfl) (by kernel_rfl) (by kernel_rfl) (by kernel_rfl) args w⟩

theorem primFns0 (D : Ctx) {f : FuncId} {φ : List AV → Option AV} (hφ : prims0 f = some φ) {ds : List AV} {r : AV} (h : φ ds = some r) {w : World} {B : Nat → Prop} {cargs : List Value} (_hB : ∀ b, B b → b < w.heap.size) (hl : LR D w (fun _ => False) B (fun _ => none) ds cargs) :
    FnOk Tryz.prog f cargs.toArray w fun cv w' => VR D w' (fun _ => False) B (fun _ => none) r cv ∧ Ext w (fun _ => False) (fun _ => none) w' (fun _ => False) (fun _ => none) := by
  unfold prims0 at hφ
  cases h1 : Nat.beq f 270 with
  | true =>
    rw [h1] at hφ
    simp only [cond_true, Option.some.injEq] at hφ
    obtain rfl := (beq_iff _ _).1 h1
    subst hφ
    exact indexByteOk D ds r h w B cargs hl
  | false =>
    rw [h1] at hφ
    simp only [cond_false] at hφ
    cases h2 : Nat.beq f 241 with
    | true =>
      rw [h2] at hφ
      simp only [cond_true, Option.some.injEq] at hφ
      obtain rfl := (beq_iff _ _).1 h2
      subst hφ
      exact countOk D ds r h w B cargs hl
    | false =>
      rw [h2] at hφ
      simp only [cond_false] at hφ
      cases h3 : Nat.beq f 161 with
      | true =>
        rw [h3] at hφ
        simp only [cond_true, Option.some.injEq] at hφ
        obtain rfl := (beq_iff _ _).1 h3
        subst hφ
        exact joinOk D ds r h w B cargs hl
      | false =>
        rw [h3] at hφ
        simp only [cond_false] at hφ
        cases hφ

theorem mixed : Tryz.prog.follows .mixedOrders = true := by kernel_rfl

/-- a context, and all that is promised of it -/
structure Good (D : Ctx) : Prop where
  types : D.types = types
  funs : D.funs = funs
  ext : D.ext = exts
  prim : PrimFns Tryz.prog D

theorem Good.ty {D : Ctx} (g : Good D) : TyOk Tryz.prog D := tyOk_of (by rw [g.types]; exact typesAll)
theorem Good.fns {D : Ctx} (g : Good D) : FnsOk Tryz.prog D := fnsOk_of (by rw [g.funs]; exact funsAll)
theorem Good.prims {D : Ctx} (g : Good D) : PrimsOk Tryz.prog D := ⟨g.prim, extsOk D g.types g.ext⟩
theorem Good.draws {D : Ctx} (g : Good D) : ∀ f fn body, D.funs.get f = some fn → fn.body = some body → Draws Tryz.prog D body := drawsOk_of mixed g.ty g.prims (by rw [g.funs]; exact funsAll)

theorem good0 : Good C0 := ⟨rfl, rfl, rfl, fun _ _ hφ _ _ h _ _ _ _ hB hl => primFns0 C0 hφ h hB hl⟩

theorem isTrue2_some {x : Option (AV × St)} (h : isTrue2 x = true) : ∃ st, x = some (.bool true, st) := by
  unfold isTrue2 at h
  split at h
  · rename_i b st
    subst h
    exact ⟨st, rfl⟩
  · cases h

theorem calls_of_fn {f : FuncId} {args : Array Value} {w : World} {R : Value → World → Prop} {fn : Func} {c : Code} (hf : Tryz.prog.funcs[f]? = some fn) (hn : (fn.name == "runtime.NumGoroutine") = false) (hb : fn.body = some c)
    (h : FnOk Tryz.prog f args w R) : ∀ {o : Oper} {a : Act} {next : Act → World → Prop} {Q : Exit → Act → World → Prop}, (∀ v w', R v w' → next (a.put o.dst v) w') → Calls Tryz.prog f args w (fun
    | .returned v, w'' => next (a.put o.dst v) w''
    | .panicked chain, w'' => Q (.panic chain) a w''
    | .outgrown, _ => LetsOut Q) := fun {o a next Q} hx => by
  have := h o a next Q hx
  rw [run_enter hf hn hb args w, Oper.upon_enter] at this
  exact this

/-- a function without arguments that the evaluator found true -/
theorem trueCalls {D : Ctx} (g : Good D) {f : FuncId} {fn : Func} {c : Code} (hf : FnRow Tryz.prog f fn) (hb : fn.body = some c) {n : Nat} (hr : isTrue2 (runK D n f []) = true) (w : World)
    (hg : ∀ k cs, D.globs k = some cs → VR D w (fun _ => False) (fun _ => False) (fun _ => none) (.pdat false cs) (.pointer (some ⟨k, 0, none⟩))) : Calls Tryz.prog f #[] w fun e w' => e = .returned (.bool true) ∧ Below w.heap.size w w' := by
  obtain ⟨st, h⟩ := isTrue2_some hr
  have h1 := run_sound g.ty g.prims g.fns g.draws (runK_sound h) (w := w) (B := fun _ => False) (cargs := []) hg (fun _ h => h.elim) ⟨rfl, fun j h => by cases h⟩
  have h2 : FnOk Tryz.prog f #[] w fun cv w' => cv = .bool true ∧ Below w.heap.size w w' := h1.mono fun cv w' ⟨O', M', hv, hx, _⟩ => by
    cases hv
    exact ⟨rfl, hx.os, hx.tape, hx.output, hx.size, fun k hk => hx.keep k hk (fun h => h)⟩
  have := calls_of_fn (o := { op := .move (.const (.bool true)), dst := some 0, type := 4, pos := "", after := #[], guard := none }) (a := { tmps := #[undef], defers := [] }) (next := fun a w' => a.tmps[0]? = some (.bool true) ∧ Below w.heap.size w w') (Q := fun _ _ _ => False) hf.1 hf.2.1 hb h2 (fun v w' ⟨h1, h2⟩ => by subst h1; exact ⟨rfl, h2⟩)
  refine this.mono fun e w' h => ?_
  cases e with
  | returned v =>
    obtain ⟨h1, h2⟩ := h
    refine ⟨?_, h2⟩
    have : (some v : Option Value) = some (.bool true) := h1
    cases this
    rfl
  | panicked c => exact h.elim
  | outgrown => obtain ⟨_, _, h⟩ := h; exact h.elim
end Go.Proofs.Wc
namespace Go.Proofs.Wc
open Go Go.Ev Go.Proofs Go.RowKit
theorem awakeX_calls (w : World) : Calls Tryz.prog 5 #[] w fun e w' => e = .returned (.bool true) ∧ Below w.heap.size w w' :=
  trueCalls good0 fr5 rfl awakeX w (fun k cs h => by cases h)
end Go.Proofs.Wc
