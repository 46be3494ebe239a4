/- A PART OF THE PROOF THAT SAVETEXTS HOLDS FOR EVERY INPUT OF BULK AT MOST 1048576. No condition beyond the given statement. This part: EvOpS. -/
import Derived.Test.YtciahohaonhdgaaGreatDoorEvHand
namespace Go.Ev
open Go
section
variable {P : Program} {C : Ctx} {w : World} {O B : Nat → Prop} {M : MapB}
def Free (M : MapB) (st st2 : St) : Prop := ∀ b, st.nxt ≤ b → b ≤ st2.nxt → M b = none
theorem wp_of_runs {o : Oper} {a : Act} {next : Act → World → Prop} {Q : Exit → Act → World → Prop} {cv : Value} {w' : World} (h : (execOp a.eval o).run P w = .ok (.value cv) w') (hn : next (a.put o.dst cv) w') : o.wp P a w next Q := by
 unfold Oper.wp; rw [h]; exact hn
theorem wp_of_skip {o : Oper} {a : Act} {next : Act → World → Prop} {Q : Exit → Act → World → Prop} {w' : World} (h : (execOp a.eval o).run P w = .ok .skip w') (hn : next (a.put o.dst undef) w') : o.wp P a w next Q := by
 unfold Oper.wp; rw [h]; exact hn
theorem alloc_at (w : World) (x : Obj) : (w.alloc x).heap[w.heap.size]? = some x := heap_alloc_new w x
theorem mAppend_nxt {serial : Bool} {t t2 : TypeId} {s x v : AV} {st st2 : St} (h : mAppend C serial t t2 s x st = some (v, st2)) : st.nxt ≤ st2.nxt := by
 unfold mAppend at h
 simp only [Option.bind_eq_some_iff] at h
 obtain ⟨e, hte, i, hi, z, hz, d2, hd2, _, hkd, _, hpos, ⟨n, new⟩, hsrc, h⟩ := h
 simp only at h
 have nx : ∀ (x y : St) (u : AV), some (u, y) = some (v, st2) → st.nxt ≤ y.nxt → st.nxt ≤ st2.nxt := fun x y u h1 h2 => by
  simp only [Option.some.injEq, Prod.mk.injEq] at h1
  rw [← h1.2]; exact h2
 have cd : ∀ {b : Bool} {p q : Option (AV × St)}, (bif b then p else q) = some (v, st2) → p = some (v, st2) ∨ q = some (v, st2) := fun {b p q} h => by cases b <;> first | exact .inl h | exact .inr h
 have bd : ∀ {α : Type} {p : Option α} {f : α → Option (AV × St)}, p.bind f = some (v, st2) → ∃ y, f y = some (v, st2) := fun {α p f} h => by
  obtain ⟨y, _, h⟩ := Option.bind_eq_some_iff.1 h; exact ⟨y, h⟩
 have h00 : st.nxt ≤ st.nxt := Nat.le_refl _
 have h01 : st.nxt ≤ st.nxt + 1 := Nat.le_succ _
 split at h
 ·rcases cd h with h | h
  ·exact nx st _ _ h h00
  ·obtain ⟨_, h⟩ := bd h
   exact nx st _ _ h h01
 ·obtain ⟨_, h⟩ := bd h
  rcases cd h with h | h
  ·obtain ⟨_, h⟩ := bd h
   exact nx st _ _ h h00
  ·obtain ⟨_, h⟩ := bd h
   exact nx st _ _ h h01
 ·rcases cd h with h | h
  ·exact nx st _ _ h h00
  ·obtain ⟨⟨e', cs⟩, h⟩ := bd h
   obtain ⟨_, h⟩ := bd h
   split at h
   ·rcases cd h with h | h
    ·obtain ⟨_, h⟩ := bd h
     exact nx st _ _ h h00
    ·obtain ⟨_, h⟩ := bd h
     exact nx st _ _ h h01
   ·obtain ⟨_, h⟩ := bd h
    rcases cd h with h | h
    ·exact nx st _ _ h h00
    ·obtain ⟨_, h⟩ := bd h
     exact nx st _ _ h h01
 ·cases h
theorem mAppendZ_nxt {t : TypeId} {s x v : AV} {st st2 : St} (h : mAppendZ C t s x st = some (v, st2)) : st.nxt ≤ st2.nxt := by
 unfold mAppendZ at h
 simp only [Option.bind_eq_some_iff] at h
 obtain ⟨e, hte, i, hie, z, hz, _, hpos, n, hnx, h⟩ := h
 split at h
 ·cases hb : Nat.beq n 0 with
  | true =>
   rw [hb] at h
   simp only [cond_true, Option.some.injEq, Prod.mk.injEq] at h
   rw [← h.2]
   exact Nat.le_refl _
  | false =>
   rw [hb] at h
   simp only [cond_false, Option.bind_eq_some_iff, Option.some.injEq, Prod.mk.injEq] at h
   obtain ⟨_, _, _, rfl⟩ := h
   simp [St.new]
 ·cases h
theorem undef_rel : VR C w O B M (.tup []) undef := .tup [] [] rfl (fun j h => by cases h)
set_option maxHeartbeats 4000000 in
theorem evOp_sound (hT : TyOk P C) (hp : PrimsOk P C) {call : CallF} (hcall : CallOk P C call) {serial : Bool} {ts : List AV} {a : Act} {o : Oper} {st st2 : St} {v : AV} (hs : Sit C w O B M st.heap) (ht : TR C w O B M ts a)
  (hl : ∀ x, O x → x < w.heap.size) (hse : serial = true → ∀ b, st.nxt ≤ b → M b = none) (hfr : Free M st st2) (h : evOp C call serial (opVal C ts) o st = some (v, st2))
  {next : Act → World → Prop} {Q : Exit → Act → World → Prop} (hnext : ∀ cv w' O' M', VR C w' O' B M' v cv → Step C B serial w O M st w' O' M' st2 → next (a.put o.dst cv) w') : o.wp P a w next Q := by
 have hnil : Sit C w O B M [] := ⟨fun b blk h => (by simp [hget] at h), fun b b' blk blk' _ _ _ h => (by simp [hget] at h), hs.glob, hs.sep, hs.bl⟩
 cases hq : quiet C o.op with
 | true =>
  obtain ⟨rfl, cv, h1, h2⟩ := quiet_sound (P := P) hT hnil ht hq h
  exact wp_of_runs h1 (hnext _ _ _ _ h2 (.refl hs))
 | false =>
 have E : ∀ {x : Operand} {u : AV}, opVal C ts x = some u → VR C w O B M u (a.eval x) := fun h => opVal_sound hs ht h
 have keeps : ∀ {y : Option AV}, y.map (keep st) = some (v, st2) → y = some v ∧ st2 = st := fun {y} h => by
  cases y with
  | none => cases h
  | some y => simp only [Option.map_some, keep, Option.some.injEq, Prod.mk.injEq] at h; exact ⟨by rw [h.1], h.2.symm⟩
 have hle : ∀ {w' O' M'}, Step C B serial w O M st w' O' M' st2 → st.nxt ≤ st2.nxt := fun k => k.nxt
 unfold evOp at h
 cases hop : o.op with
 | move | assign | pick | build | nilCheck | binOp | unOp | makeInterface | makeFunc | fieldAddr | field | indexAddr | index | extract => rw [hop] at hq; simp [quiet] at hq
 | alloc e =>
  simp only [hop, Option.bind_eq_some_iff, Option.some.injEq, Prod.mk.injEq] at h
  obtain ⟨i, hi, z, hz, rfl, rfl⟩ := h
  obtain ⟨h1, h2⟩ := hT.ty e i hi
  obtain ⟨zv, hz1, hz2, hz3, hz4, hz5⟩ := zero_some hz
  have hzr := run_zeroValue (P := P) (w := w) h2 hz1
  have hn : M st.nxt = none := hfr _ (Nat.le_refl _) (by simp [St.new])
  have hcr := hz5 C (w.alloc (.cells zv.cells e (0, 0))) (fun b => O b ∨ b = w.heap.size) B (upd M st.nxt (w.heap.size, 0))
  refine wp_of_runs (cv := .pointer (some ⟨w.heap.size, 0 + 0, none⟩)) (w' := w.alloc (.cells zv.cells e (0, 0))) ?_ (hnext _ _ _ _ (.pref _ _ _ _ (by simp [upd])) (Step.new hs _ hn (BlkR.ofCR (cc := zv.cells) (alloc_at _ _) (by simp [hz3, hz4]) (by
   have : (zv.cells.toList.drop 0).take z.cells.length = zv.cells.toList := by
    rw [List.drop_zero, List.take_of_length_le]; simp [hz3, hz4]
   rw [this]; exact hcr))))
  simp only [execOp, hop]
  refine run_v ?_
  simp only [Instr.alloc, Sem.run_bind, hzr, Result.andThen_ok, newVar, newRow, run_newObj]
  rfl
 | box e x =>
  simp only [hop, Option.bind_eq_some_iff, Option.some.injEq, Prod.mk.injEq] at h
  obtain ⟨u, hu, row, hrow, rfl, rfl⟩ := h
  have hv := E hu
  have hn : M st.nxt = none := hfr _ (Nat.le_refl _) (by simp [St.new])
  have hcr := (hv.mono (Ext.alloc (.cells (a.eval x).cells e (0, 0)) hn 0)).row hrow
  refine wp_of_runs (cv := .pointer (some ⟨w.heap.size, 0 + 0, none⟩)) (w' := w.alloc (.cells (a.eval x).cells e (0, 0))) ?_ (hnext _ _ _ _ (.pref _ _ _ _ (by simp [upd])) (Step.new hs _ hn (BlkR.ofCR (cc := (a.eval x).cells) (alloc_at _ _) (by have := hcr.len; simp at this; omega) (by
   have : ((a.eval x).cells.toList.drop 0).take row.length = (a.eval x).cells.toList := by
    rw [List.drop_zero, List.take_of_length_le]; rw [hcr.len]; exact Nat.le_refl _
   rw [this]; exact hcr))))
  simp only [execOp, hop]
  refine run_v ?_
  simp only [Instr.box, newVar, newRow, Sem.run_bind, run_newObj, Result.andThen_ok]
  rfl
 | buildSlice t len parts =>
  simp only [hop, Option.bind_eq_some_iff] at h
  obtain ⟨ps, hps, h⟩ := h
  have hpr := partV_sound hs ht hps
  have hnx : st.nxt ≤ st2.nxt := by
   unfold mBuildSlice at h
   simp only [Option.bind_eq_some_iff, Option.some.injEq, Prod.mk.injEq] at h
   obtain ⟨_, _, _, _, _, _, _, _, _, _, _, rfl⟩ := h
   simp [St.new]
  obtain ⟨cv, w', O', M', h1, h2, h3⟩ := mBuildSlice_sound (P := P) (serial := serial) hT hs (hfr _ (Nat.le_refl _) hnx) hpr h
  refine wp_of_runs ?_ (hnext _ _ _ _ h2 h3)
  simp only [execOp, hop]
  refine run_v ?_
  rw [← h1]; congr 2; apply Array.ext'; simp
 | load t x =>
  simp only [hop, Option.bind_eq_some_iff] at h
  obtain ⟨u, hu, h⟩ := h
  obtain ⟨h1, rfl⟩ := keeps h
  obtain ⟨cv, h3, h4⟩ := mLoad_sound (P := P) hT hs (E hu) h1
  refine wp_of_runs ?_ (hnext _ _ _ _ h4 (.refl hs))
  simp only [execOp, hop]
  exact run_v h3
 | store t x y =>
  simp only [hop, Option.bind_eq_some_iff] at h
  obtain ⟨_, hser, u, hu, u', hu', h⟩ := h
  have hser := chk_some hser
  subst hser
  obtain ⟨st', h5, e⟩ := Option.map_eq_some_iff.1 h
  simp only [Prod.mk.injEq] at e
  obtain ⟨rfl, rfl⟩ := e
  obtain ⟨w', h3, h4⟩ := mStore_sound (P := P) hT hs (E hu) (E hu') h5
  refine wp_of_skip ?_ (hnext _ _ _ _ undef_rel h4)
  simp only [execOp, hop]
  exact run_u h3
 | convert src dst x =>
  simp only [hop, Option.bind_eq_some_iff] at h
  obtain ⟨u, hu, h⟩ := h
  have plainC : (mConvert C src dst u st.heap).map (keep st) = some (v, st2) → o.wp P a w next Q := fun h => by
   obtain ⟨h1, rfl⟩ := keeps h
   obtain ⟨cv, h3, h4⟩ := mConvert_sound (P := P) hT hs (E hu) h1
   refine wp_of_runs ?_ (hnext _ _ _ _ h4 (.refl hs))
   simp only [execOp, hop]
   exact run_v h3
  split at h
  ·rename_i b
   split at h
   ·rename_i e hd
    have h0 := h
    unfold mBytes at h0
    simp only [Option.bind_eq_some_iff] at h0
    obtain ⟨_, _, i, _, h0⟩ := h0
    have hnx : st.nxt ≤ st2.nxt := by
     split at h0
     ·simp only [Option.bind_eq_some_iff, Option.some.injEq, Prod.mk.injEq] at h0
      obtain ⟨_, _, _, rfl⟩ := h0
      simp [St.new]
     ·cases h0
    obtain ⟨cv, w', O', M', h1, h2, h3⟩ := mBytes_sound (P := P) (serial := serial) hT hs (hfr _ (Nat.le_refl _) hnx) hd (E hu) h
    refine wp_of_runs ?_ (hnext _ _ _ _ h2 h3)
    simp only [execOp, hop]
    exact run_v h1
   ·exact plainC h
  ·exact plainC h
 | makeSlice t l c =>
  simp only [hop, Option.bind_eq_some_iff] at h
  obtain ⟨u, hu, u', hu', h⟩ := h
  have hnx : st.nxt ≤ st2.nxt := by
   unfold mMakeSlice at h
   simp only [Option.bind_eq_some_iff, Option.some.injEq, Prod.mk.injEq] at h
   obtain ⟨_, _, _, _, _, _, _, _, _, _, _, _, _, rfl⟩ := h
   simp [St.new]
  obtain ⟨cv, w', O', M', h1, h2, h3⟩ := mMakeSlice_sound (P := P) (serial := serial) hT hs (hfr _ (Nat.le_refl _) hnx) (E hu) (E hu') h
  refine wp_of_runs ?_ (hnext _ _ _ _ h2 h3)
  simp only [execOp, hop]
  exact run_v h1
 | slice t x lo hi mx =>
  simp only [hop, Option.bind_eq_some_iff] at h
  obtain ⟨u, hu, l, hlo, hh, hhi, m, hmx, h⟩ := h
  obtain ⟨h1, rfl⟩ := keeps h
  obtain ⟨cv, h3, h4⟩ := mSlice_sound (P := P) hT hs (E hu) (optV_sound hs ht hlo) (optV_sound hs ht hhi) (optV_sound hs ht hmx) h1
  refine wp_of_runs ?_ (hnext _ _ _ _ h4 (.refl hs))
  simp only [execOp, hop]
  exact run_v h3
 | makeMap t r =>
  cases r with
  | some r => simp only [hop] at h; cases h
  | none =>
   simp only [hop, Option.bind_eq_some_iff, Option.some.injEq, Prod.mk.injEq] at h
   obtain ⟨d, hd, _, hc, rfl, rfl⟩ := h
   have hn : M st.nxt = none := hfr _ (Nat.le_refl _) (by simp [St.new])
   have hst := step_newMap (C := C) (B := B) (serial := serial) (st := st) (ks := []) (us := []) (bs := []) (ck := 0) (es := #[]) hs hn trivial
   refine wp_of_runs (cv := .map (some w.heap.size)) (w' := w.alloc (.map #[] 0)) ?_ (hnext _ _ _ _ hst.1 hst.2)
   simp only [execOp, hop]
   refine run_v ?_
   simp only [Option.map_none, Instr.makeMap, Sem.run_bind, Sem.run_pure, Result.andThen_ok, run_newObjA]
 | lookup t x k ok =>
  simp only [hop, Option.bind_eq_some_iff] at h
  obtain ⟨u, hu, uk, huk, h⟩ := h
  obtain ⟨h1, rfl⟩ := keeps h
  obtain ⟨cv, h3, h4⟩ := mLookup_sound (P := P) hT hs (E hu) (E huk) h1
  refine wp_of_runs ?_ (hnext _ _ _ _ h4 (.refl hs))
  simp only [execOp, hop]
  exact run_v h3
 | mapUpdate t m k x =>
  simp only [hop, Option.bind_eq_some_iff] at h
  obtain ⟨_, hser, um, hum, uk, huk, uv, huv, h⟩ := h
  have hser := chk_some hser
  subst hser
  obtain ⟨st', h5, e⟩ := Option.map_eq_some_iff.1 h
  simp only [Prod.mk.injEq] at e
  obtain ⟨rfl, rfl⟩ := e
  obtain ⟨w', h3, h4⟩ := mUpdate_sound (P := P) hT hs (E hum) (E huk) (E huv) h5
  refine wp_of_skip ?_ (hnext _ _ _ _ undef_rel h4)
  simp only [execOp, hop]
  exact run_u h3
 | typeAssert x xt t ok =>
  simp only [hop, Option.bind_eq_some_iff] at h
  obtain ⟨u, hu, h⟩ := h
  have hv := E hu
  split at h
  ·rename_i t' u'
   simp only [Option.bind_eq_some_iff, Option.some.injEq, Prod.mk.injEq] at h
   obtain ⟨d, hd, _, hc, _, ht', rfl, rfl⟩ := h
   have ht' := (beq_iff _ _).1 (chk_some ht')
   subst ht'
   have hc := chk_some hc
   have hud := hT.under hd
   generalize hq2 : a.eval x = q at hv
   cases hv with
   | ifc _ _ cu hvu =>
    have hrun : (Instr.typeAssert (.iface t' cu) xt t' ok).run P w = .ok (if ok then .tuple #[cu, .bool true] else cu) w := by
     cases d <;> first | (cases hc; done) | simp [Instr.typeAssert, run_underlying hud]
    have hex : (execOp a.eval o).run P w = .ok (.value (if ok then .tuple #[cu, .bool true] else cu)) w := by
     simp only [execOp, hop]
     rw [hq2]
     exact run_v hrun
    refine wp_of_runs hex (hnext _ _ _ _ ?_ (.refl hs))
    cases ok with
    | false => exact hvu
    | true =>
     refine .tup [u', .bool true] [cu, .bool true] rfl fun j h1 h2 => ?_
     match j, h1, h2 with
     | 0, _, _ => exact hvu
     | 1, _, _ => exact .bool _
  ·cases h
 | range t x =>
  simp only [hop, Option.bind_eq_some_iff] at h
  obtain ⟨d, hd, u, hu, h⟩ := h
  have hv := E hu
  split at h
  ·rename_i s
   simp only [Option.some.injEq, Prod.mk.injEq] at h
   obtain ⟨rfl, rfl⟩ := h
   have hn : M st.nxt = none := hfr _ (Nat.le_refl _) (by simp [St.new])
   obtain ⟨bs, e, hb⟩ := hv.str_inv
   refine wp_of_runs (cv := .pointer (some ⟨w.heap.size, 0 + 0, none⟩)) (w' := w.alloc (.stringIter bs 0)) ?_ (hnext _ _ _ _ (.pref _ _ _ _ (by simp [upd])) (Step.new hs _ hn (.siter s 0 bs (by first | exact hb | exact hb.symm | exact e | exact e.symm) rfl (alloc_at _ _))))
   simp only [execOp, hop]
   refine run_v ?_
   simp only [Instr.range, Sem.run_bind, run_underlying (hT.under hd), Result.andThen_ok, e, Sem.run_pure, run_newObj]
   rfl
  ·rename_i kt et
   simp only [Option.some.injEq, Prod.mk.injEq] at h
   obtain ⟨rfl, rfl⟩ := h
   have hn : M st.nxt = none := hfr _ (Nat.le_refl _) (by simp [St.new])
   have e : a.eval x = .map none := by
    generalize a.eval x = q at hv
    cases hv
    rfl
   refine wp_of_runs (cv := .pointer (some ⟨w.heap.size, 0 + 0, none⟩)) (w' := w.alloc (.mapIter none 0 #[] 0)) ?_ (hnext _ _ _ _ (.pref _ _ _ _ (by simp [upd])) (Step.new hs _ hn (.miter none none 0 [] 0 (fun b e => by cases e) (fun _ => rfl) rfl (alloc_at _ _))))
   simp only [execOp, hop]
   refine run_v ?_
   rw [e]
   simp only [Instr.range, Sem.run_bind, run_underlying (hT.under hd), Result.andThen_ok, Sem.run_pure, run_newObj]
   rfl
  ·rename_i kt et m
   simp only [Option.bind_eq_some_iff] at h
   obtain ⟨⟨ks, us, bs, ck⟩, hm, h⟩ := h
   simp only [Option.some.injEq, Prod.mk.injEq] at h
   obtain ⟨rfl, rfl⟩ := h
   have hn : M st.nxt = none := hfr _ (Nat.le_refl _) (by simp [St.new])
   obtain ⟨cb, base, hM, _, hr⟩ := hs.own m _ (hmap_some hm)
   obtain ⟨hb0, es, hblk, _⟩ := hr.map_inv
   subst hb0
   have e : a.eval x = .map (some cb) := by
    generalize a.eval x = q at hv
    cases hv with
    | mref _ cb' hM' => rw [hM] at hM'; cases hM'; rfl
   have hne : m ≠ st.nxt := fun e => by rw [e, hn] at hM; cases hM
   refine wp_of_runs (cv := .pointer (some ⟨w.heap.size, 0 + 0, none⟩)) (w' := w.alloc (.mapIter (some cb) ck #[] ck)) ?_ (hnext _ _ _ _ (.pref _ _ _ _ (by simp [upd])) (Step.new hs _ hn (.miter (some m) (some cb) ck [] ck (fun b e => by cases e; exact ⟨cb, rfl, by simp [upd, hne, hM]⟩) (fun e => by cases e) rfl (alloc_at _ _))))
   simp only [execOp, hop]
   refine run_v ?_
   rw [e]
   have hgo : (getObj cb).run P w = .ok (.map es ck) w := by simp [getObj, Sem.run, hblk]
   simp only [Instr.range, Sem.run_bind, run_underlying (hT.under hd), Result.andThen_ok, hgo, Sem.run_pure, run_newObj]
   rfl
  ·cases h
 | next x s =>
  cases s with
  | true =>
   simp only [hop, Option.bind_eq_some_iff] at h
   obtain ⟨_, hser, u, hu, h⟩ := h
   have hser := chk_some hser
   subst hser
   obtain ⟨cv, w', h1, h2, h3⟩ := mNext_sound (P := P) (ty := o.type) hs (E hu) h
   refine wp_of_runs ?_ (hnext _ _ _ _ h2 h3)
   simp only [execOp, hop]
   exact run_v h1
  | false =>
   simp only [hop, Option.bind_eq_some_iff] at h
   obtain ⟨_, hser, u, hu, h⟩ := h
   have hser := chk_some hser
   subst hser
   obtain ⟨cv, w', h1, h2, h3⟩ := mNextM_sound (P := P) (ty := o.type) hs (E hu) h
   refine wp_of_runs ?_ (hnext _ _ _ _ h2 h3)
   simp only [execOp, hop]
   exact run_v h1
 | entry x =>
  simp only [hop, Option.bind_eq_some_iff, Option.map_eq_some_iff] at h
  obtain ⟨u, hu, r, hr, h⟩ := h
  obtain ⟨rfl, rfl⟩ := Prod.mk.inj h
  obtain ⟨cv, h1, h2⟩ := mEntry_sound (P := P) hs (E hu) hr
  refine wp_of_runs ?_ (hnext _ _ _ _ h2 (.refl hs))
  simp only [execOp, hop]
  exact run_v h1
 | call c =>
  simp only [hop, Option.bind_eq_some_iff] at h
  obtain ⟨callee, args, argTypes⟩ := c
  rw [hop] at hq
  simp only at h
  obtain ⟨vs, hvs, h⟩ := h
  obtain ⟨hlv, hr⟩ := vals_sound hs ht hvs
  have hargs : args.map a.eval = (args.toList.map a.eval).toArray := by apply Array.ext'; simp
  have hl2 : (args.toList.map a.eval).length = vs.length := by simp [hlv]
  have one : ∀ u, vs = [u] → ∃ cu, args.map a.eval = #[cu] ∧ VR C w O B M u cu := fun u e => by
   subst e
   obtain ⟨cu, e2⟩ := List.length_eq_one_iff.1 hl2
   refine ⟨cu, by rw [hargs, e2], ?_⟩
   have := hr 0 (by simp) (by rw [e2]; simp)
   simpa [e2] using this
  have two : ∀ u u', vs = [u, u'] → ∃ cu cu', args.map a.eval = #[cu, cu'] ∧ VR C w O B M u cu ∧ VR C w O B M u' cu' := fun u u' e => by
   subst e
   obtain ⟨cu, cu', e2⟩ := list_two hl2
   refine ⟨cu, cu', by rw [hargs, e2], ?_, ?_⟩
   ·have := hr 0 (by simp) (by rw [e2]; simp)
    simpa [e2] using this
   ·have := hr 1 (by simp) (by rw [e2]; simp)
    simpa [e2] using this
  cases callee with
  | builtin b =>
   cases b with
   | cap | min | max => simp [quiet] at hq
   | len =>
    simp only at h
    split at h
    ·rename_i t tr u e1
     obtain ⟨h1, rfl⟩ := keeps h
     have h0 : argTypes[0]? = some t := by rw [← Array.getElem?_toList, e1]; rfl
     obtain ⟨cu, e2, hx⟩ := one _ rfl
     obtain ⟨cv, h3, h4⟩ := mLen_sound (P := P) (ty := o.type) hT (.inr hs) h0 hx h1
     refine wp_of_runs ?_ (hnext _ _ _ _ h4 (.refl hs))
     simp only [execOp, hop, resolve, e2, invoke, builtin, Sem.run_bind, Sem.run_pure, Result.andThen_ok, h3]
    ·cases h
   | delete =>
    simp only at h
    split at h
    ·rename_i t tr m k e1
     simp only [Option.bind_eq_some_iff] at h
     obtain ⟨_, hser, h⟩ := h
     have hser := chk_some hser
     subst hser
     have h0 : argTypes[0]? = some t := by rw [← Array.getElem?_toList, e1]; rfl
     obtain ⟨cu, cu', e2, hx, hy⟩ := two _ _ rfl
     obtain ⟨cv, w', h1, h2, h3⟩ := mDelete_sound (P := P) (ty := o.type) hT hs h0 hx hy h
     refine wp_of_runs ?_ (hnext _ _ _ _ h2 h3)
     simp only [execOp, hop, resolve, e2, invoke, builtin, Sem.run_bind, Sem.run_pure, Result.andThen_ok, h1]
    ·cases h
   | append =>
    simp only at h
    split at h
    ·rename_i t t2 s x e1
     have e1 : argTypes = #[t, t2] := by apply Array.ext'; exact e1
     subst e1
     obtain ⟨cu, cu', e2, hx, hy⟩ := two _ _ rfl
     cases hi2 : isInt C t2 with
     | true =>
      rw [hi2] at h
      simp only [cond_true] at h
      have hnx : st.nxt ≤ st2.nxt := mAppendZ_nxt h
      obtain ⟨cv, w', O', M', h1, h2, h3⟩ := mAppendZ_sound (P := P) (ty := o.type) hT hs (hfr _ (Nat.le_refl _) hnx) hi2 hx hy h
      refine wp_of_runs ?_ (hnext _ _ _ _ h2 h3)
      simp only [execOp, hop, resolve, e2, invoke, builtin, Sem.run_bind, Sem.run_pure, Result.andThen_ok, h1]
     | false =>
     rw [hi2] at h
     simp only [cond_false] at h
     have hnx : st.nxt ≤ st2.nxt := mAppend_nxt h
     obtain ⟨cv, w', O', M', h1, h2, h3⟩ := mAppend_sound (P := P) (ty := o.type) hT hs (hfr _ (Nat.le_refl _) hnx) hx hy h
     refine wp_of_runs ?_ (hnext _ _ _ _ h2 h3)
     simp only [execOp, hop, resolve, e2, invoke, builtin, Sem.run_bind, Sem.run_pure, Result.andThen_ok, h1]
    ·cases h
   | copy =>
    simp only at h
    split at h
    ·rename_i t tr d s e1
     simp only [Option.bind_eq_some_iff] at h
     obtain ⟨_, hser, h⟩ := h
     have hser := chk_some hser
     subst hser
     have h0 : argTypes[0]? = some t := by rw [← Array.getElem?_toList, e1]; rfl
     obtain ⟨cu, cu', e2, hx, hy⟩ := two _ _ rfl
     obtain ⟨cv, w', h1, h2, h3⟩ := mCopy_sound (P := P) (ty := o.type) hT hs h0 hx hy h
     refine wp_of_runs ?_ (hnext _ _ _ _ h2 h3)
     simp only [execOp, hop, resolve, e2, invoke, builtin, Sem.run_bind, Sem.run_pure, Result.andThen_ok, h1]
    ·cases h
   | clear =>
    simp only at h
    split at h
    ·rename_i t tr d e1
     simp only [Option.bind_eq_some_iff] at h
     obtain ⟨_, hser, h⟩ := h
     have hser := chk_some hser
     subst hser
     have h0 : argTypes[0]? = some t := by rw [← Array.getElem?_toList, e1]; rfl
     obtain ⟨cu, e2, hx⟩ := one _ rfl
     obtain ⟨cv, w', h1, h2, h3⟩ := mClear_sound (P := P) (ty := o.type) hT hs h0 hx h
     refine wp_of_runs ?_ (hnext _ _ _ _ h2 h3)
     simp only [execOp, hop, resolve, e2, invoke, builtin, Sem.run_bind, Sem.run_pure, Result.andThen_ok, h1]
    ·cases h
   | _ => simp at h
  | value fo =>
   simp only [Option.bind_eq_some_iff] at h
   obtain ⟨fv, hf, h⟩ := h
   have hfv := E hf
   have done : ∀ (g : FuncId) (as : List AV) (cas : List Value), LR C w O B M as cas → (execOp a.eval o).run P w = (callFunc g cas.toArray).run P w → evCallTo C call serial g as st = some (v, st2) → o.wp P a w next Q := fun g as cas hLR hex hto => by
    have hrun : ∀ {R : Value → World → Prop}, FnOk P g cas.toArray w R → (∀ cv w', R cv w' → next (a.put o.dst cv) w') → o.wp P a w next Q := fun {R} hF hR => by
     have := hF o a next Q hR
     unfold Oper.wp
     rw [hex]; exact this
    have fin : ∀ cv w', (∃ O' M', VR C w' O' B M' v cv ∧ Step C B serial w O M st w' O' M' st2) → next (a.put o.dst cv) w' := fun cv w' ⟨O', M', h1, h2⟩ => hnext _ _ _ _ h1 h2
    unfold evCallTo at hto
    split at hto
    ·rename_i φ hφ
     exact hrun (callPrim_sound hp.prim hs hl hφ hLR hto) fin
    ·split at hto
     ·rename_i e he
      exact hrun (evExtern_sound hT hp.ext hs (fun b h1 h2 => hfr b h1 (Nat.le_of_lt h2)) he hLR hto) fin
     ·cases hsd : (serial && !(C.data g)) with
      | true =>
       rw [hsd] at hto
       simp only [cond_true] at hto
       have hs1 : serial = true := by cases serial <;> simp_all
       subst hs1
       exact hrun (callHere_sound hcall hs hl (hse rfl) hLR hto) fin
      | false =>
       rw [hsd] at hto
       simp only [cond_false] at hto
       exact hrun (callData_sound hcall hs hl (fun b h1 h2 => hfr b h1 (Nat.le_of_lt h2)) hLR hto) fin
   unfold evCallOp at h
   split at h
   ·rename_i g cap
    obtain ⟨cvs, efo, hcl, hcv⟩ : ∃ cvs : List Value, a.eval fo = .func (.func g) #[] cvs.toArray ∧ cvs.length = cap.length ∧ ∀ j (h : j < cap.length) (h' : j < cvs.length), VR C w O B M cap[j] cvs[j] := by
     generalize a.eval fo = q at hfv
     cases hfv with
     | clo _ _ cvs hl hv => exact ⟨cvs, rfl, hl, hv⟩
    refine done g (vs ++ cap) (args.toList.map a.eval ++ cvs) ⟨by simp [hlv, hcl], fun j h1 h2 => ?_⟩ ?_ h
    ·by_cases hj : j < vs.length
     ·rw [List.getElem_append_left hj, List.getElem_append_left (by omega)]
      exact hr j hj _
     ·rw [List.getElem_append_right (by omega), List.getElem_append_right (by omega)]
      have : j - (args.toList.map a.eval).length = j - vs.length := by omega
      simp only [this]
      exact hcv _ _ _
    ·simp only [execOp, hop, resolve, efo, Deferred.ofValue, Sem.run_bind, Sem.run_pure, Result.andThen_ok, invoke]
     congr 2
     apply Array.ext'
     simp
   ·rename_i g first
    obtain ⟨cvs, efo, hcl, hcv⟩ : ∃ cvs : List Value, a.eval fo = .func (.func g) cvs.toArray #[] ∧ cvs.length = first.length ∧ ∀ j (h : j < first.length) (h' : j < cvs.length), VR C w O B M first[j] cvs[j] := by
     generalize a.eval fo = q at hfv
     cases hfv with
     | bnd _ _ cvs hl hv => exact ⟨cvs, rfl, hl, hv⟩
    refine done g (first ++ vs) (cvs ++ args.toList.map a.eval) ⟨by simp [hlv, hcl], fun j h1 h2 => ?_⟩ ?_ h
    ·by_cases hj : j < first.length
     ·rw [List.getElem_append_left hj, List.getElem_append_left (by omega)]
      exact hcv j hj _
     ·rw [List.getElem_append_right (by omega), List.getElem_append_right (by omega)]
      have : j - cvs.length = j - first.length := by omega
      simp only [this]
      exact hr _ _ _
    ·simp only [execOp, hop, resolve, efo, Deferred.ofValue, Sem.run_bind, Sem.run_pure, Result.andThen_ok, invoke]
     congr 2
     apply Array.ext'
     simp
   ·cases h
  | invoke _ _ => simp at h
 | _ => simp only [hop] at h; cases h
end
end Go.Ev
