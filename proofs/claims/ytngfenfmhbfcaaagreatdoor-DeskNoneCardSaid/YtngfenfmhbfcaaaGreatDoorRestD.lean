/- A PART OF THE PROOFS THAT ONE CALL OF A LAW (the nil repository of layer 34; no desk, no power of layer 37) returns true, whatever the input; the input reads as it did. No condition beyond the given statement. This part: RestD. -/
import Derived.Test.YtngfenfmhbfcaaaGreatDoorGoodD
import Derived.Test.YtngfenfmhbfcaaaGreatDoorLightD
namespace Go.Proofs.Tr
open Go Go.Ev Go.Proofs Go.RowKit
set_option maxRecDepth 1000000
set_option maxHeartbeats 0

noncomputable def restD : Code := match Tryz.f4.body with
  | some (.seq _ (.seq _ r)) => r
  | _ => .skip
abbrev DD : AV := .sown 0 0 [] none
def stCells (sk k ek : Int) (rp fr nm p t : List UInt8) (ns ls : AV) : List AV := [.int .i64 sk, .str rp, .str fr, .int .i64 k, .str nm, ns, .int .i64 ek, .str p, .str t, ls]
def restTsD (cs : List AV) : List AV := DD :: .pdat true cs :: List.replicate 94 DD
noncomputable def okRD (r : Option (Ex × FrK)) : Bool := match r with
  | some (.ret, k) => match (accOf 2).get k.tmps with
    | some (.bool b) => b
    | _ => false
  | _ => false
noncomputable def restRunD (cs : List AV) : Option (Ex × FrK) := evK C 400 (codeOf C restD) ⟨treeOf 96 (restTsD cs), { heap := [], nxt := 0, low := 0 }⟩
theorem restT (k ek : Int) (rp fr nm p t : List UInt8) (u v : AV) : okRD (restRunD (stCells 7 k ek rp fr nm p t u v)) = true := by kernel_rfl
theorem restN (n : Nat) (k ek : Int) (rp fr nm p t : List UInt8) (u v : AV) : okRD (restRunD (stCells (Int.negSucc n) k ek rp fr nm p t u v)) = true := by kernel_rfl
theorem restB (n : Nat) (k ek : Int) (rp fr nm p t : List UInt8) (u v : AV) : okRD (restRunD (stCells (Int.ofNat (n + 8)) k ek rp fr nm p t u v)) = true := by kernel_rfl
theorem rest0 (k ek : Int) (rp fr nm p t : List UInt8) (u v : AV) : okRD (restRunD (stCells 0 k ek rp fr nm p t u v)) = true := by kernel_rfl
theorem rest1 (k ek : Int) (rp fr nm p t : List UInt8) (u v : AV) : okRD (restRunD (stCells 1 k ek rp fr nm p t u v)) = true := by kernel_rfl
theorem rest2 (k ek : Int) (rp fr nm p t : List UInt8) (u v : AV) : okRD (restRunD (stCells 2 k ek rp fr nm p t u v)) = true := by kernel_rfl
theorem rest3 (k ek : Int) (rp fr nm p t : List UInt8) (u v : AV) : okRD (restRunD (stCells 3 k ek rp fr nm p t u v)) = true := by kernel_rfl
theorem rest4 (k ek : Int) (rp fr nm p t : List UInt8) (u v : AV) : okRD (restRunD (stCells 4 k ek rp fr nm p t u v)) = true := by kernel_rfl
theorem rest5 (k ek : Int) (rp fr nm p t : List UInt8) (u v : AV) : okRD (restRunD (stCells 5 k ek rp fr nm p t u v)) = true := by kernel_rfl
theorem rest6 (k ek : Int) (rp fr nm p t : List UInt8) (u v : AV) : okRD (restRunD (stCells 6 k ek rp fr nm p t u v)) = true := by kernel_rfl
theorem restAll (sk k ek : Int) (rp fr nm p t : List UInt8) (u v : AV) : okRD (restRunD (stCells sk k ek rp fr nm p t u v)) = true := by
  match sk with
  | .negSucc n => exact restN n ..
  | .ofNat 0 => exact rest0 ..
  | .ofNat 1 => exact rest1 ..
  | .ofNat 2 => exact rest2 ..
  | .ofNat 3 => exact rest3 ..
  | .ofNat 4 => exact rest4 ..
  | .ofNat 5 => exact rest5 ..
  | .ofNat 6 => exact rest6 ..
  | .ofNat 7 => exact restT ..
  | .ofNat (n + 8) => exact restB n ..
end Go.Proofs.Tr
namespace Go.Proofs.Tr
open Go Go.Ev Go.Proofs Go.RowKit
set_option maxRecDepth 1000000

structure Hide (p : Prop) : Prop where
  out : p

theorem calls_of_fn {f : FuncId} {args : Array Value} {w : World} {R : Value → World → Prop} {fn : Func} {c : Code} (hf : Tryz.prog.funcs[f]? = some fn) (hn : (fn.name == "runtime.NumGoroutine") = false) (hb : fn.body = some c)
    (h : FnOk Tryz.prog f args w R) : ∀ {o : Oper} {a : Act} {next : Act → World → Prop} {Q : Exit → Act → World → Prop}, (∀ v w', R v w' → next (a.put o.dst v) w') → Calls Tryz.prog f args w (fun
    | .returned v, w'' => next (a.put o.dst v) w''
    | .panicked chain, w'' => Q (.panic chain) a w''
    | .outgrown, _ => LetsOut Q) := fun {o a next Q} hx => by
  have := h o a next Q hx
  rw [run_enter hf hn hb args w, Oper.upon_enter] at this
  exact this

theorem awakeCallsD (w : World) : Calls Tryz.prog 21 #[] w fun e w' => e = .returned (.bool true) ∧ Below w.heap.size w w' := by
  have := calls_of_fn (o := { op := .move (.const (.bool true)), dst := some 0, type := 4, pos := "", after := #[], guard := none }) (a := { tmps := #[undef], defers := [] }) (next := fun a w' => a.tmps[0]? = some (.bool true) ∧ Below w.heap.size w w') (Q := fun _ _ _ => False) fr21.1 fr21.2.1 rfl (awakeD_ok w) (fun v w' ⟨h1, h2⟩ => by subst h1; exact ⟨rfl, h2⟩)
  refine this.mono fun e w' h => ?_
  cases e with
  | returned v =>
    obtain ⟨h1, h2⟩ := h
    refine ⟨?_, h2⟩
    have : (some v : Option Value) = some (.bool true) := h1
    cases this
    rfl
  | panicked c => exact h.elim
  | outgrown => obtain ⟨_, _, h⟩ := h; exact h.elim

/-- a slice of strings, and what stands for it -/
def SlR (w : World) (v : AV) (cv : Value) : Prop := (v = .snil ∧ cv = .slice none 0 0) ∨ ∃ xs b o c, v = .sdat true 1 xs none ∧ cv = .slice (some ⟨b, o, none⟩) xs.length c ∧ xs.length ≤ c ∧ (xs ≠ [] → b < w.heap.size) ∧
  ∀ j (h : j < xs.length), ∃ s : ByteArray, xs[j] = .str s.data.toList ∧ w.cell? ⟨b, o + j, none⟩ = some (.string s)

theorem SlR.mono {w w' : World} {v : AV} {cv : Value} (h : SlR w v cv) (hb : Below w.heap.size w w') : SlR w' v cv := by
  rcases h with h | ⟨xs, b, o, c, h1, h2, h3, h4, h5⟩
  · exact .inl h
  · refine .inr ⟨xs, b, o, c, h1, h2, h3, fun hx => Nat.lt_of_lt_of_le (h4 hx) hb.size, fun j hj => ?_⟩
    obtain ⟨s, h6, h7⟩ := h5 j hj
    refine ⟨s, h6, ?_⟩
    rw [cell_of_block (hb.block b (h4 (fun e => by subst e; simp at hj)))]
    exact h7

theorem SlR.vr {w : World} {v : AV} {cv : Value} {_n : Nat} (h : SlR w v cv) : VR C w (fun _ => False) (fun _ => False) (fun _ => none) v cv := by
  rcases h with ⟨rfl, rfl⟩ | ⟨xs, b, o, c, rfl, rfl, h3, h4, h5⟩
  · exact .snil
  · have hs : ∀ j (h : j < xs.length), ∃ s : ByteArray, xs[j] = .str s.data.toList ∧ w.cell? ⟨b, o + j, none⟩ = some (.string s) := h5
    refine .sdat true 1 xs none b o c (fun i _ => (w.cell? ⟨b, o + i, none⟩).getD undef) h4 (fun _ h => h) (fun _ h => by cases h) (datL_of fun u hu => ?_) h3 (fun k h => by cases h) (fun i hi => ?_) (fun i j hi hj => ?_) (fun i hi j hj => ?_) (fun i hi j hj => ?_)
    · obtain ⟨j, hj, rfl⟩ := List.getElem_of_mem hu
      obtain ⟨s, h6, _⟩ := hs j hj
      rw [h6]; rfl
    · obtain ⟨s, h6, _⟩ := hs i hi
      rw [h6]; rfl
    · obtain ⟨s, h6, h7⟩ := hs i hi
      have : j = 0 := by omega
      subst this
      simp only [Nat.mul_one, Nat.add_zero, h7, Option.getD_some]
    · obtain ⟨s, h6, h7⟩ := hs i hi
      have hc : xs[i].cells = [.str s.data.toList] := by rw [h6]; rfl
      have : j = 0 := by rw [hc] at hj; simpa using hj
      subst this
      simp only [hc, List.getElem_cons_zero]
      rfl
    · obtain ⟨s, h6, h7⟩ := hs i hi
      have hc : xs[i].cells = [.str s.data.toList] := by rw [h6]; rfl
      have : j = 0 := by rw [hc] at hj; simpa using hj
      subst this
      simp only [hc, List.getElem_cons_zero, h7, Option.getD_some]
      exact .str _ _ rfl

theorem SlR.strs {w : World} {v : AV} {a : Option Addr} {n c : Nat} (h : SlR w v (.slice a n c)) : Strs w a n ∧ n ≤ c := by
  rcases h with ⟨_, h⟩ | ⟨xs, b, o, c', _, h, h3, h4, h5⟩
  · cases h
    exact ⟨.inl rfl, Nat.le_refl _⟩
  · cases h
    refine ⟨?_, h3⟩
    by_cases hx : xs = []
    · subst hx; exact .inl rfl
    · exact .inr ⟨b, o, rfl, h4 hx, fun j hj => by obtain ⟨s, _, h7⟩ := h5 j hj; exact ⟨s, h7⟩⟩

/-- WHAT IS LEFT, behind the first 'if'. -/
theorem restWalkD (sk k ek : Int) (rp fr nm p t : ByteArray) (v u : AV) (cv cu : Value) (w : World) (hv : SlR w v cv) (hu : SlR w u cu) (blk : Nat) (hblk : blk < w.heap.size) (a : Act) (ha : a.tmps.size = 96) (hd : a.defers = []) (h1 : a.tmps[1]? = some (.pointer (some ⟨blk, 0, none⟩)))
    (hc : ∀ j, j < 10 → w.cell? ⟨blk, j, none⟩ = #[.int .i64 sk, .string rp, .string fr, .int .i64 k, .string nm, cv, .int .i64 ek, .string p, .string t, cu][j]?) (R : Ending → World → Prop) (hR : ∀ w', Below w.heap.size w w' → R (.returned (.bool true)) w') :
    Code.wp Tryz.prog restD (bodyPost Tryz.prog Tryz.f4 R) a w := by
  have hok := restAll sk k ek rp.data.toList fr.data.toList nm.data.toList p.data.toList t.data.toList v u
  generalize hcs : stCells sk k ek rp.data.toList fr.data.toList nm.data.toList p.data.toList t.data.toList v u = cs at hok
  unfold okRD at hok
  split at hok
  · rename_i kf hrun
    split at hok
    · rename_i b hb
      subst hok
      have hlike : Like (restTsD cs) (treeOf 96 (restTsD cs)) := by
        have := like_args (n := 96) (l := restTsD cs) (by omega) (by simp [restTsD])
        have e : 96 - (restTsD cs).length = 0 := by simp [restTsD]
        rw [e] at this
        simpa using this
      obtain ⟨ts', hev, hl'⟩ := evK_le 400 restD _ ⟨_, { heap := [], nxt := 0, low := 0 }⟩ kf .ret hlike hrun
      have hcells : VR C w (fun _ => False) (fun _ => False) (fun _ => none) (.pdat true cs) (.pointer (some ⟨blk, 0, none⟩)) := by
        subst hcs
        have hcell : v.isCell = true ∧ u.isCell = true ∧ dat true v = true ∧ dat true u = true := by
          have one : ∀ {v : AV} {cv : Value}, SlR w v cv → v.isCell = true ∧ dat true v = true := fun {v cv} h => by
            rcases h with ⟨rfl, _⟩ | ⟨xs, _, _, _, rfl, _, _, _, h5⟩
            · exact ⟨rfl, rfl⟩
            · refine ⟨rfl, ?_⟩
              have : datL true xs = true := datL_of fun u hu => by
                obtain ⟨j, hj, rfl⟩ := List.getElem_of_mem hu
                obtain ⟨s, h6, _⟩ := h5 j hj
                rw [h6]; rfl
              simp [dat, this]
          exact ⟨(one hv).1, (one hu).1, (one hv).2, (one hu).2⟩
        obtain ⟨c1, c2, d1, d2⟩ := hcell
        refine .pdat true _ blk 0 (fun j => (#[.int .i64 sk, .string rp, .string fr, .int .i64 k, .string nm, cv, .int .i64 ek, .string p, .string t, cu] : Array Value)[j]?.getD undef) hblk (fun h => h) (fun h => by cases h) (by simp [stCells, datL, dat, d1, d2]) (fun j hj => ?_) (fun j hj => ?_) (fun j hj => ?_)
        · have hj : j < 10 := hj
          rw [Nat.zero_add, hc j hj]
          match j, hj with
          | 0, _ => rfl
          | 1, _ => rfl
          | 2, _ => rfl
          | 3, _ => rfl
          | 4, _ => rfl
          | 5, _ => rfl
          | 6, _ => rfl
          | 7, _ => rfl
          | 8, _ => rfl
          | 9, _ => rfl
        · have hj : j < 10 := hj
          match j, hj with
          | 0, _ => rfl
          | 1, _ => rfl
          | 2, _ => rfl
          | 3, _ => rfl
          | 4, _ => rfl
          | 5, _ => exact c1
          | 6, _ => rfl
          | 7, _ => rfl
          | 8, _ => rfl
          | 9, _ => exact c2
        · have hj : j < 10 := hj
          match j, hj with
          | 0, _ => exact .int _ _
          | 1, _ => exact .str _ _ rfl
          | 2, _ => exact .str _ _ rfl
          | 3, _ => exact .int _ _
          | 4, _ => exact .str _ _ rfl
          | 5, _ => exact hv.vr (_n := 0)
          | 6, _ => exact .int _ _
          | 7, _ => exact .str _ _ rfl
          | 8, _ => exact .str _ _ rfl
          | 9, _ => exact hu.vr (_n := 0)
      have hAR : AR C (fun _ => False) w (fun _ => False) (fun _ => none) { tmps := restTsD cs, st := { heap := [], nxt := 0, low := 0 } } a := by
        refine ⟨⟨fun b blk h => (by simp [hget] at h), fun b b' blk blk' _ _ _ h => (by simp [hget] at h), fun g cs hg => (by rw [good0.globs] at hg; cases hg), fun _ h => h.elim, fun _ h => h.elim⟩, fun _ h => h.elim, fun _ _ => rfl, ⟨by rw [ha]; simp [restTsD], fun j h1' h2' hk => ?_⟩, hd⟩
        match j, h1', h2', hk with
        | 0, _, _, hk => cases hk
        | 1, _, h2', _ =>
          rw [Array.getElem?_eq_getElem h2'] at h1
          have e : a.tmps[1] = .pointer (some ⟨blk, 0, none⟩) := Option.some.inj h1
          simp only
          rw [e]
          exact hcells
        | j + 2, h1', _, hk =>
          simp only [restTsD, List.getElem_cons_succ, List.getElem_replicate] at hk
          cases hk
      refine code_sound good0.ty good0.prims good0.fns good0.draws 400 restD _ _ .ret hev (draws_of mixed good0.ty good0.prims restD (by kernel_rfl)) _ _ w _ _ a hAR fun w' O' M' a' ha' hs => ?_
      have hg : getL ts' 2 = some (.bool true) := by rw [← hl' 2]; exact hb
      obtain ⟨cv', hr1, hr2⟩ := results_run (P := Tryz.prog) good0.ty ha' (fn := Tryz.f4) (vs := [.bool true]) (by
        show (Go.Ev.results C kf.st.heap ts' [.tmp 2]) = _
        simp [Go.Ev.results, getV, hg, known])
      cases hr2
      exact ⟨ha'.nodef, .bool true, hr1, hR w' ⟨hs.ext.os, hs.ext.tape, hs.ext.output, hs.ext.size, fun b hb => hs.ext.keep b hb (fun h => h)⟩⟩
    · cases hok
  · cases hok
end Go.Proofs.Tr
namespace Go.Proofs.Tr
open Go Go.Ev Go.Proofs Go.RowKit
set_option maxRecDepth 1000000

set_option maxHeartbeats 4000000 in
theorem deskWalk (sk k ek : Int) (rp fr nm p t : ByteArray) (na la : Option Addr) (nn nc ln lc : Nat) (v u : AV) (w : World) (hv : SlR w v (.slice na nn nc)) (hu : SlR w u (.slice la ln lc)) (hn : nn < 9223372036854775808) (hl : ln < 9223372036854775808) :
    Calls Tryz.prog 4 #[.agg #[.int .i64 sk, .string rp, .string fr, .int .i64 k, .string nm, .slice na nn nc, .int .i64 ek, .string p, .string t, .slice la ln lc]] w fun e w' => e = .returned (.bool true) ∧ Below w.heap.size w w' := by
  obtain ⟨hN, hnc⟩ := hv.strs
  obtain ⟨hL, hlc⟩ := hu.strs
  go_enter Tryz.func4, Tryz.ntmps4
  go_wp2_with fail
  rename_i K2 aK2 K1 aK1 K0 aK0
  have hRest := Hide.mk aK2
  clear aK2
  have hsz : (w.alloc (.cells #[.int .i64 sk, .string rp, .string fr, .int .i64 k, .string nm, .slice na nn nc, .int .i64 ek, .string p, .string t, .slice la ln lc] 55)).heap.size = w.heap.size + 1 := by simp
  have hc := cell_new (w.alloc (.cells #[.int .i64 sk, .string rp, .string fr, .int .i64 k, .string nm, .slice na nn nc, .int .i64 ek, .string p, .string t, .slice la ln lc] 55)) #[.int .i64 sk, .string rp, .string fr, .int .i64 k, .string nm, .slice na nn nc, .int .i64 ek, .string p, .string t, .slice la ln lc] 55
  rw [hsz] at hc
  refine (light35 (w.heap.size + 1) 1 (Nat.le_refl _) sk k ek rp fr nm p t na la nn nc ln lc hnc hlc _ ((hN.alloc' _).alloc' _) ((hL.alloc' _).alloc' _) hn hl (by simp) (fun j _ => hc j)).mono ?_
  rintro e w1 ⟨⟨bb, rfl⟩, hB1⟩
  cases bb with
  | false =>
    go_wp2_with fail
    refine (awakeCallsD w1).mono ?_
    rintro e w2 ⟨rfl, hB2⟩
    go_wp2_with fail
    go_ret
    exact ⟨rfl, below_trans' (below_trans' (below_alloc2 w _ _) (by simpa [hsz] using hB1)) hB2⟩
  | true =>
    go_wp2_with fail
    refine (awakeCallsD w1).mono ?_
    rintro e w2 ⟨rfl, hB2⟩
    go_wp2_with fail
    apply hRest.out
    have hB := below_trans' hB1 hB2
    have hB0 := below_trans' (below_alloc2 w _ _) hB
    have hB9 := below_trans' (below_alloc (w.alloc (.cells #[.int .i64 sk, .string rp, .string fr, .int .i64 k, .string nm, .slice na nn nc, .int .i64 ek, .string p, .string t, .slice la ln lc] 55)) _) hB
    refine restWalkD sk k ek rp fr nm p t v u (.slice na nn nc) (.slice la ln lc) w2 (hv.mono hB0) (hu.mono hB0) w.heap.size (Nat.lt_of_lt_of_le (by simp; omega) hB.size) _ rfl rfl rfl (fun j hj => ?_) _ (fun w' hb => ⟨rfl, below_trans' hB0 hb⟩)
    rw [cell_of_block (hB9.block w.heap.size (by simp))]
    exact cell_new w _ 55 j
end Go.Proofs.Tr
