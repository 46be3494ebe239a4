/- A PART OF THE PROOF THAT ONE CALL OF A LAW OF LAYER 46 (which of any patches have a line with any word) returns true, whatever the input; the input reads as it did. No condition beyond the given statement. This part: BaseG. -/
import Derived.Test.YtklmbhogclaieaaGreatDoorFactsW
import Derived.Test.YtklmbhogclaieaaGreatDoorBaseW
import Derived.Test.YtklmbhogclaieaaGreatDoorWSet
import Derived.Deep.Slices
namespace Go.Proofs.Wc
open Go Go.Ev Go.Proofs Go.RowKit
set_option maxRecDepth 100000

theorem bytesLess_op : ∀ x y : List UInt8, Go.Ev.bytesLess x y = Op.bytesLess x y
  | _, [] => by unfold Go.Ev.bytesLess Op.bytesLess; rfl
  | [], _ :: _ => by unfold Go.Ev.bytesLess Op.bytesLess; rfl
  | a :: x, b :: y => by unfold Go.Ev.bytesLess Op.bytesLess; rw [bytesLess_op x y]
theorem insQ_eq (x : List UInt8) : ∀ l, insQ x l = W.insS x l
  | [] => rfl
  | y :: r => by
    unfold insQ W.insS
    rw [bytesLess_op, Go.Proofs.bytesLess_eq, insQ_eq x r]
    by_cases h1 : y < x
    · simp [h1]
    · by_cases h2 : y = x
      · simp [h2]
      · have : (y == x) = false := by simpa using h2
        simp [h1, h2, this]
theorem setQ_eq (l : List (List UInt8)) : setQ l = W.setS l := by
  unfold setQ W.setS
  have : (fun (o : List (List UInt8)) x => insQ x o) = fun o x => W.insS x o := funext fun o => funext fun x => insQ_eq x o
  rw [this]

theorem insS_ne (x : List UInt8) : ∀ l, W.insS x l ≠ []
  | [] => by simp [W.insS]
  | y :: r => by unfold W.insS; split <;> (try split) <;> simp
theorem foldl_ne (l : List (List UInt8)) : ∀ o : List (List UInt8), (o ≠ [] ∨ l ≠ []) → l.foldl (fun o x => W.insS x o) o ≠ [] := by
  induction l with
  | nil => intro o h; simpa using h
  | cons x r ih => intro o _; exact ih _ (.inl (insS_ne x o))
theorem setS_ne {l : List (List UInt8)} (h : l ≠ []) : W.setS l ≠ [] := foldl_ne l [] (.inr h)

theorem pairsQ_spec : ∀ {xs : List AV} {l : List (List UInt8)}, pairsQ xs = some l → l.length = 2 * xs.length ∧ ∀ j (h : j < xs.length), ∃ a b, xs[j] = .agg [.str a, .str b] ∧ l[2 * j]? = some a ∧ l[2 * j + 1]? = some b
  | [], l, h => by
    obtain rfl := Option.some.inj h
    exact ⟨rfl, fun j h => by cases h⟩
  | x :: r, l, h => by
    unfold pairsQ at h
    split at h
    · rename_i heq
      cases heq
    · rename_i a b r' heq
      cases heq
      obtain ⟨t, ht, rfl⟩ := Option.map_eq_some_iff.1 h
      obtain ⟨h1, h2⟩ := pairsQ_spec ht
      refine ⟨by simp [h1]; omega, fun j hj => ?_⟩
      cases j with
      | zero => exact ⟨a, b, rfl, rfl, rfl⟩
      | succ j =>
        obtain ⟨a', b', e1, e2, e3⟩ := h2 j (by simpa using hj)
        refine ⟨a', b', e1, ?_, ?_⟩
        · rw [show 2 * (j + 1) = 2 * j + 1 + 1 by omega]; simpa using e2
        · rw [show 2 * (j + 1) + 1 = 2 * j + 1 + 1 + 1 by omega]; simpa using e3
    · cases h

/-- texts in a new block, as data -/
theorem vr_texts {D : Ctx} {w : World} {B : Nat → Prop} {b c : Nat} {xs : List ByteArray} {ss : List (List UInt8)} (ht : W.TextsAt w b 0 xs) (hs : xs.map (·.data.toList) = ss) (_hne : xs ≠ []) (hB : ¬ B b) (hc : xs.length ≤ c) :
    VR D w (fun _ => False) B (fun _ => none) (.sdat false 1 (ss.map .str) none) (.slice (some ⟨b, 0, none⟩) xs.length c) := by
  have hl : (ss.map AV.str).length = xs.length := by rw [← hs]; simp
  rw [← hl]
  refine .sdat false 1 (ss.map .str) none b 0 c (fun i _ => .string (xs.getD i ByteArray.empty)) (fun _ => ht.lt) (fun _ h => h) (fun _ _ => hB) ?_ (by omega) (fun k h => by cases h) (fun i hi => by simp [AV.cells]) (fun i j hi hj => ?_) (fun i hi j hj => ?_) (fun i hi j hj => ?_)
  · exact datL_of fun v hv => by
      obtain ⟨s, _, rfl⟩ := List.mem_map.1 hv
      rfl
  · have hi' : i < xs.length := by omega
    obtain rfl : j = 0 := by omega
    rw [List.getD_eq_getElem?_getD, List.getElem?_eq_getElem hi']
    have := ht.cell i xs[i] (List.getElem?_eq_getElem hi')
    simpa using this
  · simp [AV.cells] at hj ⊢
    subst hj
    rfl
  · have hi' : i < xs.length := by omega
    have hss : i < ss.length := by simpa using hi
    rw [List.getD_eq_getElem?_getD, List.getElem?_eq_getElem hi']
    have h0 : j = 0 := by simpa [AV.cells] using hj
    subst h0
    simp only [List.getElem_map, AV.cells, List.getElem_cons_zero]
    refine .str _ _ ?_
    show xs[i].data.toList = ss[i]
    subst hs
    simp

theorem hasTi {D : Ctx} {t : TypeId} (h : (D.ti t).isSome = true) : ∃ i, D.ti t = some i := Option.isSome_iff_exists.1 h
theorem entersN : ∀ args w, (callFunc 166 args).run Tryz.prog w = .ok (.enter 166 args) w := enters_of Tryz.func166 (by kernel_rfl) rfl
theorem entersJ : ∀ args w, (callFunc 111 args).run Tryz.prog w = .ok (.enter 111 args) w := enters_of Tryz.func111 (by kernel_rfl) rfl

theorem namesOk (D : Ctx) {ds : List AV} {r : AV} (h : phiNames ds = some r) {w : World} {B : Nat → Prop} {cargs : List Value} (hBl : ∀ b, B b → b < w.heap.size) (hl : LR D w (fun _ => False) B (fun _ => none) ds cargs) :
    FnOk Tryz.prog 166 cargs.toArray w fun cv w' => VR D w' (fun _ => False) B (fun _ => none) r cv ∧ Ext w (fun _ => False) (fun _ => none) w' (fun _ => False) (fun _ => none) := by
  intro o a next Q hn
  rw [entersN, Oper.upon_enter]
  unfold phiNames at h
  split at h
  · obtain rfl := Option.some.inj h
    obtain ⟨x, rfl, hx⟩ := lr_one hl
    cases hx
    exact (W.event_names_nil w).mono fun e w' ⟨h1, h2⟩ => by
      subst h1
      exact hn _ _ ⟨.snil, ext_of_below h2⟩
  · rename_i t x xs cap
    simp only [Option.bind_eq_some_iff, Option.some.injEq] at h
    obtain ⟨l, hpl, _, hch, rfl⟩ := h
    have hch := Nat.le_of_ble_eq_true (chk_some hch)
    obtain ⟨v, rfl, hx⟩ := lr_one hl
    obtain ⟨e1, e2⟩ := pairsQ_spec hpl
    generalize hX : x :: xs = X at *
    have hXne : X ≠ [] := by rw [← hX]; simp
    cases hx with
    | sdat _ _ _ _ blk o' c vs hlt hO hB hc hlen hcap hsz hcell hic hv =>
      have hb := hlt hXne
      have hcells : ∀ j (h : j < X.length), ∃ d : ByteArray × ByteArray, vs j 0 = .string d.1 ∧ vs j 1 = .string d.2 ∧ l[2 * j]? = some d.1.data.toList ∧ l[2 * j + 1]? = some d.2.data.toList := fun j h => by
        obtain ⟨p, q, e3, e4, e5⟩ := e2 j h
        have hcl : X[j].cells = [AV.str p, AV.str q] := by rw [e3]; rfl
        have h0 := hv j h 0 (by rw [hcl]; simp)
        have h1 := hv j h 1 (by rw [hcl]; simp)
        simp only [hcl, List.getElem_cons_zero, List.getElem_cons_succ] at h0 h1
        generalize vs j 0 = q0 at h0
        generalize vs j 1 = q1 at h1
        cases h0 with
        | str _ x0 hx0 => cases h1 with
          | str _ x1 hx1 => exact ⟨(x0, x1), rfl, rfl, by rw [e4, ← hx0], by rw [e5, ← hx1]⟩
      obtain ⟨S, hS⟩ := Go.Deep.choose_lt hcells
      let ps : List (ByteArray × ByteArray) := (List.range X.length).map S
      have hpl2 : ps.length = X.length := by simp [ps]
      have hps : ∀ j d, ps[j]? = some d → j < X.length ∧ d = S j := fun j d hd => by
        have hj : j < X.length := by rw [← hpl2]; exact (List.getElem?_eq_some_iff.1 hd).1
        refine ⟨hj, ?_⟩
        simp only [ps, List.getElem?_map, List.getElem?_range hj, Option.map_some, Option.some.injEq] at hd
        exact hd.symm
      have hflat : (W.flatP ps).map (·.data.toList) = l := by
        refine List.ext_getElem? fun i => ?_
        rw [List.getElem?_map]
        by_cases hi : i < l.length
        · have hj : i / 2 < X.length := by omega
          obtain ⟨_, _, s3, s4⟩ := hS (i / 2) hj
          have hfp : ∀ (qs : List (ByteArray × ByteArray)) (j : Nat) d, qs[j]? = some d → (W.flatP qs)[2 * j]? = some d.1 ∧ (W.flatP qs)[2 * j + 1]? = some d.2 := by
            intro qs
            induction qs with
            | nil => intro j d hd; cases hd
            | cons y ys ih =>
              intro j d hd
              have hfc : W.flatP (y :: ys) = y.1 :: y.2 :: W.flatP ys := rfl
              cases j with
              | zero =>
                have : y = d := by simpa using hd
                subst this
                rw [hfc]
                exact ⟨rfl, rfl⟩
              | succ j =>
                have := ih j d (by simpa using hd)
                rw [hfc, show 2 * (j + 1) = 2 * j + 1 + 1 by omega]
                simpa using this
          have hg : ps[i / 2]? = some (S (i / 2)) := by simp [ps, hj]
          obtain ⟨f1, f2⟩ := hfp ps _ _ hg
          rcases Nat.mod_two_eq_zero_or_one i with hm | hm
          · rw [show 2 * (i / 2) = i by omega] at f1 s3
            rw [f1, s3]; rfl
          · rw [show 2 * (i / 2) + 1 = i by omega] at f2 s4
            rw [f2, s4]; rfl
        · have h1 : (W.flatP ps).length ≤ i := by rw [W.flatP_length, hpl2]; omega
          rw [List.getElem?_eq_none h1, List.getElem?_eq_none (by omega)]; rfl
      have hcall := W.event_names blk o' c ps w ⟨hb, fun j d hd => by
        obtain ⟨hj, rfl⟩ := hps j d hd
        obtain ⟨s1, s2, _, _⟩ := hS j hj
        have g0 := hcell j 0 hj (by omega)
        have g1 := hcell j 1 hj (by omega)
        rw [s1] at g0
        rw [s2] at g1
        exact ⟨by simpa using g0, g1⟩⟩ (by omega)
      rw [hpl2] at hcall
      refine hcall.mono fun e w' ⟨⟨v', h1, h2⟩, h3⟩ => ?_
      subst h1
      have hset : (W.setB (W.flatP ps)).map (·.data.toList) = setQ l := by
        rw [setQ_eq, ← hflat]
        exact W.setB_l8 (W.flatP ps)
      have hlne : l ≠ [] := fun e => by rw [e] at e1; have := List.length_pos_iff.2 hXne; simp at e1; omega
      have hne : W.setB (W.flatP ps) ≠ [] := fun e => by
        rw [e, setQ_eq] at hset
        exact setS_ne hlne hset.symm
      rcases h2 with ⟨h2, _⟩ | ⟨b2, c2, rfl, h4, h5, h6⟩
      · exact absurd h2 hne
      · exact hn _ _ ⟨vr_texts h5 hset hne (fun hB2 => by have := hBl b2 hB2; omega) h6, ext_of_below h3⟩
  · cases h
end Go.Proofs.Wc
namespace Go.Proofs.Wc
open Go Go.Ev Go.Proofs Go.RowKit
set_option maxRecDepth 100000

set_option maxHeartbeats 0 in
theorem indexByteOk (D : Ctx) : PrimOk Tryz.prog D 349 phiIndexByte := primIndexByte (fun args w => run_callFunc_indexByte Tryz.func349 (by kernel_rfl) (by kernel_rfl) (by kernel_rfl) (by kernel_rfl) args w)
set_option maxHeartbeats 0 in
theorem countOk (D : Ctx) : PrimOk Tryz.prog D 403 phiCount := primCount (fun args w => run_callFunc_standIn Tryz.func403 (by kernel_rfl) (by kernel_rfl) (by kernel_rfl) (by kernel_rfl) args w)
theorem joinOk (D : Ctx) : PrimOk Tryz.prog D 111 phiJoin := primJoin entersJ Tryz.strings_Join_none Tryz.strings_Join

set_option maxHeartbeats 0 in
theorem extsOk (D : Ctx) (ht : D.types = types) (he : D.ext = exts) : ExtsOk Tryz.prog D := by
  intro g e hg
  rw [he] at hg
  unfold exts at hg
  have ti : ∀ t, D.ti t = C0.ti t := fun t => by unfold Ctx.ti; rw [ht]; rfl
  have ov : ∀ b : Bool, (bif b then some Go.Ev.Extern.overlaps else none) = some e → b = true ∧ e = .overlaps := fun b h => by
    cases b with
    | true => exact ⟨rfl, (Option.some.inj h).symm⟩
    | false => cases h
  obtain ⟨h2, rfl⟩ := ov _ hg
  simp only [Bool.or_eq_true, beq_iff] at h2
  rcases h2 with rfl | rfl
  · exact ⟨63, 4, _, Tryz.underlying63, by rw [ti]; exact hasTi (by kernel_rfl), fun args w => run_callFunc_standIn Tryz.func302 (by kernel_rfl) (by kernel_rfl) (by kernel_rfl) (by kernel_rfl) args w⟩
  · exact ⟨41, 4, _, Tryz.underlying41, by rw [ti]; exact hasTi (by kernel_rfl), fun args w => run_callFunc_standIn Tryz.func311 (by kernel_rfl) (by kernel_rfl) (by kernel_rfl) (by kernel_rfl) args w⟩

theorem primFns0 (D : Ctx) {f : FuncId} {φ : List AV → Option AV} (hφ : prims0 f = some φ) {ds : List AV} {r : AV} (h : φ ds = some r) {w : World} {B : Nat → Prop} {cargs : List Value} (hB : ∀ b, B b → b < w.heap.size) (hl : LR D w (fun _ => False) B (fun _ => none) ds cargs) :
    FnOk Tryz.prog f cargs.toArray w fun cv w' => VR D w' (fun _ => False) B (fun _ => none) r cv ∧ Ext w (fun _ => False) (fun _ => none) w' (fun _ => False) (fun _ => none) := by
  unfold prims0 at hφ
  cases h1 : Nat.beq f 349 with
  | true =>
    rw [h1] at hφ
    simp only [cond_true, Option.some.injEq] at hφ
    obtain rfl := (beq_iff _ _).1 h1
    subst hφ
    exact indexByteOk D ds r h w B cargs hl
  | false =>
    rw [h1] at hφ
    simp only [cond_false] at hφ
    cases h2 : Nat.beq f 403 with
    | true =>
      rw [h2] at hφ
      simp only [cond_true, Option.some.injEq] at hφ
      obtain rfl := (beq_iff _ _).1 h2
      subst hφ
      exact countOk D ds r h w B cargs hl
    | false =>
      rw [h2] at hφ
      simp only [cond_false] at hφ
      cases h3 : Nat.beq f 111 with
      | true =>
        rw [h3] at hφ
        simp only [cond_true, Option.some.injEq] at hφ
        obtain rfl := (beq_iff _ _).1 h3
        subst hφ
        exact joinOk D ds r h w B cargs hl
      | false =>
        rw [h3] at hφ
        simp only [cond_false] at hφ
        cases h4 : Nat.beq f 166 with
        | true =>
          rw [h4] at hφ
          simp only [cond_true, Option.some.injEq] at hφ
          obtain rfl := (beq_iff _ _).1 h4
          subst hφ
          exact namesOk D h hB hl
        | false => rw [h4] at hφ; cases hφ

theorem mixed : Tryz.prog.follows .mixedOrders = true := by kernel_rfl

/-- a context, and all that is promised of it -/
structure Good (D : Ctx) : Prop where
  types : D.types = types
  funs : D.funs = funs
  ext : D.ext = exts
  prim : PrimFns Tryz.prog D

theorem Good.ty {D : Ctx} (g : Good D) : TyOk Tryz.prog D := tyOk_of (by rw [g.types]; exact typesAll)
theorem Good.fns {D : Ctx} (g : Good D) : FnsOk Tryz.prog D := fnsOk_of (by rw [g.funs]; exact funsAll)
theorem Good.prims {D : Ctx} (g : Good D) : PrimsOk Tryz.prog D := ⟨g.prim, extsOk D g.types g.ext⟩
theorem Good.draws {D : Ctx} (g : Good D) : ∀ f fn body, D.funs.get f = some fn → fn.body = some body → Draws Tryz.prog D body := drawsOk_of mixed g.ty g.prims (by rw [g.funs]; exact funsAll)

theorem good0 : Good C0 := ⟨rfl, rfl, rfl, fun _ _ hφ _ _ h _ _ _ _ hB hl => primFns0 C0 hφ h hB hl⟩

theorem isTrue2_some {x : Option (AV × St)} (h : isTrue2 x = true) : ∃ st, x = some (.bool true, st) := by
  unfold isTrue2 at h
  split at h
  · rename_i b st
    subst h
    exact ⟨st, rfl⟩
  · cases h

theorem calls_of_fn {f : FuncId} {args : Array Value} {w : World} {R : Value → World → Prop} {fn : Func} {c : Code} (hf : Tryz.prog.funcs[f]? = some fn) (hn : (fn.name == "runtime.NumGoroutine") = false) (hb : fn.body = some c)
    (h : FnOk Tryz.prog f args w R) : ∀ {o : Oper} {a : Act} {next : Act → World → Prop} {Q : Exit → Act → World → Prop}, (∀ v w', R v w' → next (a.put o.dst v) w') → Calls Tryz.prog f args w (fun
    | .returned v, w'' => next (a.put o.dst v) w''
    | .panicked chain, w'' => Q (.panic chain) a w''
    | .outgrown, _ => LetsOut Q) := fun {o a next Q} hx => by
  have := h o a next Q hx
  rw [run_enter hf hn hb args w, Oper.upon_enter] at this
  exact this

/-- a function without arguments that the evaluator found true -/
theorem trueCalls {D : Ctx} (g : Good D) {f : FuncId} {fn : Func} {c : Code} (hf : FnRow Tryz.prog f fn) (hb : fn.body = some c) {n : Nat} (hr : isTrue2 (runK D n f []) = true) (w : World)
    (hg : ∀ k cs, D.globs k = some cs → VR D w (fun _ => False) (fun _ => False) (fun _ => none) (.pdat false cs) (.pointer (some ⟨k, 0, none⟩))) : Calls Tryz.prog f #[] w fun e w' => e = .returned (.bool true) ∧ Below w.heap.size w w' := by
  obtain ⟨st, h⟩ := isTrue2_some hr
  have h1 := run_sound g.ty g.prims g.fns g.draws (runK_sound h) (w := w) (B := fun _ => False) (cargs := []) hg (fun _ h => h.elim) ⟨rfl, fun j h => by cases h⟩
  have h2 : FnOk Tryz.prog f #[] w fun cv w' => cv = .bool true ∧ Below w.heap.size w w' := h1.mono fun cv w' ⟨O', M', hv, hx, _⟩ => by
    cases hv
    exact ⟨rfl, hx.os, hx.tape, hx.output, hx.size, fun k hk => hx.keep k hk (fun h => h)⟩
  have := calls_of_fn (o := { op := .move (.const (.bool true)), dst := some 0, type := 4, pos := "", after := #[], guard := none }) (a := { tmps := #[undef], defers := [] }) (next := fun a w' => a.tmps[0]? = some (.bool true) ∧ Below w.heap.size w w') (Q := fun _ _ _ => False) hf.1 hf.2.1 hb h2 (fun v w' ⟨h1, h2⟩ => by subst h1; exact ⟨rfl, h2⟩)
  refine this.mono fun e w' h => ?_
  cases e with
  | returned v =>
    obtain ⟨h1, h2⟩ := h
    refine ⟨?_, h2⟩
    have : (some v : Option Value) = some (.bool true) := h1
    cases this
    rfl
  | panicked c => exact h.elim
  | outgrown => obtain ⟨_, _, h⟩ := h; exact h.elim
end Go.Proofs.Wc
