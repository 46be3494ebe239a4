/- A PART OF THE PROOFS THAT ONE CALL OF A LAW (the nil repository of layer 34; no desk, no power of layer 37) returns true, whatever the input; the input reads as it did. No condition beyond the given statement. This part: RepoW. -/
import Derived.Test.YtngfenfmhbfcaaaGreatDoorLightR2
import Derived.Test.YtngfenfmhbfcaaaGreatDoorLightR3
import Derived.Test.YtngfenfmhbfcaaaGreatDoorRestR
namespace Go.Proofs.Tr
open Go Go.Ev Go.Proofs Go.RowKit
set_option maxRecDepth 1000000

structure Hide (p : Prop) : Prop where
  out : p

theorem calls_of_fn {f : FuncId} {args : Array Value} {w : World} {R : Value → World → Prop} {fn : Func} {c : Code} (hf : Tryz.prog.funcs[f]? = some fn) (hn : (fn.name == "runtime.NumGoroutine") = false) (hb : fn.body = some c)
    (h : FnOk Tryz.prog f args w R) : ∀ {o : Oper} {a : Act} {next : Act → World → Prop} {Q : Exit → Act → World → Prop}, (∀ v w', R v w' → next (a.put o.dst v) w') → Calls Tryz.prog f args w (fun
    | .returned v, w'' => next (a.put o.dst v) w''
    | .panicked chain, w'' => Q (.panic chain) a w''
    | .outgrown, _ => LetsOut Q) := fun {o a next Q} hx => by
  have := h o a next Q hx
  rw [run_enter hf hn hb args w, Oper.upon_enter] at this
  exact this

theorem awakeCalls (w : World) : Calls Tryz.prog 6 #[] w fun e w' => e = .returned (.bool true) ∧ Below w.heap.size w w' := by
  have := calls_of_fn (o := { op := .move (.const (.bool true)), dst := some 0, type := 4, pos := "", after := #[], guard := none }) (a := { tmps := #[undef], defers := [] }) (next := fun a w' => a.tmps[0]? = some (.bool true) ∧ Below w.heap.size w w') (Q := fun _ _ _ => False) fr6.1 fr6.2.1 rfl (awake_ok w) (fun v w' ⟨h1, h2⟩ => by subst h1; exact ⟨rfl, h2⟩)
  refine this.mono fun e w' h => ?_
  cases e with
  | returned v =>
    obtain ⟨h1, h2⟩ := h
    refine ⟨?_, h2⟩
    have : (some v : Option Value) = some (.bool true) := h1
    cases this
    rfl
  | panicked c => exact h.elim
  | outgrown => obtain ⟨_, _, h⟩ := h; exact h.elim

/-- a slice of strings, and what stands for it -/
def SlR (w : World) (v : AV) (cv : Value) : Prop := (v = .snil ∧ cv = .slice none 0 0) ∨ ∃ xs b o c, v = .sdat true 1 xs none ∧ cv = .slice (some ⟨b, o, none⟩) xs.length c ∧ xs.length ≤ c ∧ (xs ≠ [] → b < w.heap.size) ∧
  ∀ j (h : j < xs.length), ∃ s : ByteArray, xs[j] = .str s.data.toList ∧ w.cell? ⟨b, o + j, none⟩ = some (.string s)

theorem SlR.mono {w w' : World} {v : AV} {cv : Value} (h : SlR w v cv) (hb : Below w.heap.size w w') : SlR w' v cv := by
  rcases h with h | ⟨xs, b, o, c, h1, h2, h3, h4, h5⟩
  · exact .inl h
  · refine .inr ⟨xs, b, o, c, h1, h2, h3, fun hx => Nat.lt_of_lt_of_le (h4 hx) hb.size, fun j hj => ?_⟩
    obtain ⟨s, h6, h7⟩ := h5 j hj
    refine ⟨s, h6, ?_⟩
    rw [cell_of_block (hb.block b (h4 (fun e => by subst e; simp at hj)))]
    exact h7

theorem SlR.vr {w : World} {v : AV} {cv : Value} {_n : Nat} (h : SlR w v cv) : VR C8 w (fun _ => False) (fun _ => False) (fun _ => none) v cv := by
  rcases h with ⟨rfl, rfl⟩ | ⟨xs, b, o, c, rfl, rfl, h3, h4, h5⟩
  · exact .snil
  · have hs : ∀ j (h : j < xs.length), ∃ s : ByteArray, xs[j] = .str s.data.toList ∧ w.cell? ⟨b, o + j, none⟩ = some (.string s) := h5
    refine .sdat true 1 xs none b o c (fun i _ => (w.cell? ⟨b, o + i, none⟩).getD undef) h4 (fun _ h => h) (fun _ h => by cases h) (datL_of fun u hu => ?_) h3 (fun k h => by cases h) (fun i hi => ?_) (fun i j hi hj => ?_) (fun i hi j hj => ?_) (fun i hi j hj => ?_)
    · obtain ⟨j, hj, rfl⟩ := List.getElem_of_mem hu
      obtain ⟨s, h6, _⟩ := hs j hj
      rw [h6]; rfl
    · obtain ⟨s, h6, _⟩ := hs i hi
      rw [h6]; rfl
    · obtain ⟨s, h6, h7⟩ := hs i hi
      have : j = 0 := by omega
      subst this
      simp only [Nat.mul_one, Nat.add_zero, h7, Option.getD_some]
    · obtain ⟨s, h6, h7⟩ := hs i hi
      have hc : xs[i].cells = [.str s.data.toList] := by rw [h6]; rfl
      have : j = 0 := by rw [hc] at hj; simpa using hj
      subst this
      simp only [hc, List.getElem_cons_zero]
      rfl
    · obtain ⟨s, h6, h7⟩ := hs i hi
      have hc : xs[i].cells = [.str s.data.toList] := by rw [h6]; rfl
      have : j = 0 := by rw [hc] at hj; simpa using hj
      subst this
      simp only [hc, List.getElem_cons_zero, h7, Option.getD_some]
      exact .str _ _ rfl

theorem SlR.strs {w : World} {v : AV} {a : Option Addr} {n c : Nat} (h : SlR w v (.slice a n c)) : Strs w a n ∧ n ≤ c := by
  rcases h with ⟨_, h⟩ | ⟨xs, b, o, c', _, h, h3, h4, h5⟩
  · cases h
    exact ⟨.inl rfl, Nat.le_refl _⟩
  · cases h
    refine ⟨?_, h3⟩
    by_cases hx : xs = []
    · subst hx; exact .inl rfl
    · exact .inr ⟨b, o, rfl, h4 hx, fun j hj => by obtain ⟨s, _, h7⟩ := h5 j hj; exact ⟨s, h7⟩⟩

theorem restOk {w : World} {v u : AV} {cv cu : Value} (hv : SlR w v cv) (hu : SlR w u cu) (k ek : Int) (nm p t : List UInt8) : okR (restRun (cCells k ek nm p t v u)) = true := by
  rcases hv with ⟨rfl, _⟩ | ⟨xs, _, _, _, rfl, _⟩ <;> rcases hu with ⟨rfl, _⟩ | ⟨ys, _, _, _, rfl, _⟩
  · exact rest00 ..
  · exact rest01 ..
  · exact rest10 ..
  · exact rest11 ..

/-- WHAT IS LEFT, behind the first 'if'. -/
theorem restWalk (k ek : Int) (nm p t : ByteArray) (v u : AV) (cv cu : Value) (w : World) (hv : SlR w v cv) (hu : SlR w u cu) (blk : Nat) (hblk : blk < w.heap.size) (a : Act) (ha : a.tmps.size = 117) (hd : a.defers = []) (h1 : a.tmps[1]? = some (.pointer (some ⟨blk, 0, none⟩)))
    (hc : ∀ j, j < 7 → w.cell? ⟨blk, j, none⟩ = #[.int .i64 k, .string nm, cv, .int .i64 ek, .string p, .string t, cu][j]?) (R : Ending → World → Prop) (hR : ∀ w', Below w.heap.size w w' → R (.returned (.bool true)) w') :
    Code.wp Tryz.prog restR (bodyPost Tryz.prog Tryz.f3 R) a w := by
  have hok := restOk hv hu k ek nm.data.toList p.data.toList t.data.toList
  unfold okR at hok
  split at hok
  · rename_i kf hrun
    split at hok
    · rename_i b hb
      subst hok
      have hlike : Like (restTs (cCells k ek nm.data.toList p.data.toList t.data.toList v u)) (treeOf 117 (restTs (cCells k ek nm.data.toList p.data.toList t.data.toList v u))) := by
        have := like_args (n := 117) (l := restTs (cCells k ek nm.data.toList p.data.toList t.data.toList v u)) (by omega) (by simp [restTs])
        have e : 117 - (restTs (cCells k ek nm.data.toList p.data.toList t.data.toList v u)).length = 0 := by simp [restTs]
        rw [e] at this
        simpa using this
      obtain ⟨ts', hev, hl'⟩ := evK_le 400 restR _ ⟨_, { heap := [], nxt := 0, low := 0 }⟩ kf .ret hlike hrun
      have hcells : VR C8 w (fun _ => False) (fun _ => False) (fun _ => none) (.pdat true (cCells k ek nm.data.toList p.data.toList t.data.toList v u)) (.pointer (some ⟨blk, 0, none⟩)) := by
        have hcell : v.isCell = true ∧ u.isCell = true ∧ dat true v = true ∧ dat true u = true := by
          have one : ∀ {v : AV} {cv : Value}, SlR w v cv → v.isCell = true ∧ dat true v = true := fun {v cv} h => by
            rcases h with ⟨rfl, _⟩ | ⟨xs, _, _, _, rfl, _, _, _, h5⟩
            · exact ⟨rfl, rfl⟩
            · refine ⟨rfl, ?_⟩
              have : datL true xs = true := datL_of fun u hu => by
                obtain ⟨j, hj, rfl⟩ := List.getElem_of_mem hu
                obtain ⟨s, h6, _⟩ := h5 j hj
                rw [h6]; rfl
              simp [dat, this]
          exact ⟨(one hv).1, (one hu).1, (one hv).2, (one hu).2⟩
        obtain ⟨c1, c2, d1, d2⟩ := hcell
        refine .pdat true _ blk 0 (fun j => (#[.int .i64 k, .string nm, cv, .int .i64 ek, .string p, .string t, cu] : Array Value)[j]?.getD undef) hblk (fun h => h) (fun h => by cases h) (by simp [cCells, datL, dat, d1, d2]) (fun j hj => ?_) (fun j hj => ?_) (fun j hj => ?_)
        · have hj : j < 7 := hj
          rw [Nat.zero_add, hc j hj]
          match j, hj with
          | 0, _ => rfl
          | 1, _ => rfl
          | 2, _ => rfl
          | 3, _ => rfl
          | 4, _ => rfl
          | 5, _ => rfl
          | 6, _ => rfl
        · have hj : j < 7 := hj
          match j, hj with
          | 0, _ => rfl
          | 1, _ => rfl
          | 2, _ => exact c1
          | 3, _ => rfl
          | 4, _ => rfl
          | 5, _ => rfl
          | 6, _ => exact c2
        · have hj : j < 7 := hj
          match j, hj with
          | 0, _ => exact .int _ _
          | 1, _ => exact .str _ _ rfl
          | 2, _ => exact hv.vr (_n := 0)
          | 3, _ => exact .int _ _
          | 4, _ => exact .str _ _ rfl
          | 5, _ => exact .str _ _ rfl
          | 6, _ => exact hu.vr (_n := 0)
      have hAR : AR C8 (fun _ => False) w (fun _ => False) (fun _ => none) { tmps := restTs (cCells k ek nm.data.toList p.data.toList t.data.toList v u), st := { heap := [], nxt := 0, low := 0 } } a := by
        refine ⟨⟨fun b blk h => (by simp [hget] at h), fun b b' blk blk' _ _ _ h => (by simp [hget] at h), fun g cs hg => (by rw [good8.globs] at hg; cases hg), fun _ h => h.elim, fun _ h => h.elim⟩, fun _ h => h.elim, fun _ _ => rfl, ⟨by rw [ha]; simp [restTs], fun j h1' h2' hk => ?_⟩, hd⟩
        match j, h1', h2', hk with
        | 0, _, _, hk => cases hk
        | 1, _, h2', _ =>
          rw [Array.getElem?_eq_getElem h2'] at h1
          have e : a.tmps[1] = .pointer (some ⟨blk, 0, none⟩) := Option.some.inj h1
          simp only
          rw [e]
          exact hcells
        | j + 2, h1', _, hk =>
          simp only [restTs, List.getElem_cons_succ, List.getElem_replicate] at hk
          cases hk
      refine code_sound good8.ty good8.prims good8.fns good8.draws 400 restR _ _ .ret hev (draws_of mixed good8.ty good8.prims restR (by kernel_rfl)) _ _ w _ _ a hAR fun w' O' M' a' ha' hs => ?_
      have hg : getL ts' 2 = some (.bool true) := by rw [← hl' 2]; exact hb
      obtain ⟨cv', hr1, hr2⟩ := results_run (P := Tryz.prog) good8.ty ha' (fn := Tryz.f3) (vs := [.bool true]) (by
        show (Go.Ev.results C8 kf.st.heap ts' [.tmp 2]) = _
        simp [Go.Ev.results, getV, hg, known])
      cases hr2
      exact ⟨ha'.nodef, .bool true, hr1, hR w' ⟨hs.ext.os, hs.ext.tape, hs.ext.output, hs.ext.size, fun b hb => hs.ext.keep b hb (fun h => h)⟩⟩
    · cases hok
  · cases hok
end Go.Proofs.Tr
