/- A PART OF THE PROOF THAT ONE CALL OF A LAW OF LAYER 46 (which of any patches have a line with any word) returns true, whatever the input; the input reads as it did. No condition beyond the given statement. This part: EvOpsB. -/
import Derived.Test.YtklmbhogclaieaaGreatDoorEvOpsA
import Derived.Laws.BytesString
namespace Go.Ev
open Go

section
variable {P : Program} {C : Ctx} {w : World} {O B : Nat → Prop} {M : MapB} {H : Heap}

theorem run_getMap {r ck : Nat} {es : Array MapEntry} (hb : w.heap[r]? = some (.map es ck)) : (getObj r).run P w = .ok (.map es ck) w := by simp [getObj, Sem.run, hb]
theorem run_setMap {r ck : Nat} {es : Array MapEntry} (o : Obj) (hb : w.heap[r]? = some (.map es ck)) : (setObj r o).run P w = .ok () { w with heap := w.heap.setIfInBounds r o } := by simp [setObj, Sem.run, hb]

theorem mLen_sound (hT : TyOk P C) {t ty : TypeId} {x v : AV} {cx : Value} {ts : Array TypeId} (hs : isMap C t = false ∨ Sit C w O B M H) (h0 : ts[0]? = some t) (hx : VR C w O B M x cx) (h : mLen C t x H = some v) : ∃ cv, (Builtin.len_ ts ty #[cx]).run P w = .ok cv w ∧ VR C w O B M v cv := by
  unfold mLen at h
  simp only [Option.bind_eq_some_iff] at h
  obtain ⟨d, hd, h⟩ := h
  have hu := hT.under hd
  split at h
  · obtain ⟨bs, rfl, rfl⟩ := hx.str_inv
    obtain rfl := Option.some.inj h
    exact ⟨_, by simp [Builtin.len_, h0, run_underlying hu, goInt], .int _ _⟩
  · cases hx; obtain rfl := Option.some.inj h
    exact ⟨_, by simp [Builtin.len_, h0, run_underlying hu, goInt], .int _ _⟩
  · cases hx; obtain rfl := Option.some.inj h
    exact ⟨_, by simp [Builtin.len_, h0, run_underlying hu, goInt], .int _ _⟩
  · cases hx; obtain rfl := Option.some.inj h
    exact ⟨_, by simp [Builtin.len_, h0, run_underlying hu, goInt], .int _ _⟩
  · cases hx; obtain rfl := Option.some.inj h
    exact ⟨_, by simp [Builtin.len_, h0, run_underlying hu, goInt], .int _ _⟩
  · cases hx with
    | mdat _ _ _ _ _ blk es hlt hO hB hck hcu hblk hlk =>
      obtain rfl := Option.some.inj h
      refine ⟨.int .i64 es.size, by simp [Builtin.len_, h0, run_underlying hu, goInt, run_getMap hblk], ?_⟩
      rw [hlk]; exact .int _ _
  · rename_i b
    rcases hs with hs | hs
    · simp [isMap, hd] at hs
    · obtain ⟨⟨ks, us, bs, ck⟩, hm, e⟩ := Option.map_eq_some_iff.1 h
      obtain rfl := e
      cases hx with
      | mref _ cb hM =>
        obtain ⟨cb', base, hM', _, hr⟩ := hs.own b _ (hmap_some hm)
        rw [hM] at hM'
        obtain ⟨rfl, rfl⟩ := Prod.mk.inj (Option.some.inj hM')
        cases hr with
        | map _ _ _ _ es h0' hblk hlk =>
          refine ⟨.int .i64 es.size, by simp [Builtin.len_, h0, run_underlying hu, goInt, run_getMap hblk], ?_⟩
          rw [hlk]; exact .int _ _
  · cases h

theorem mCap_sound (hT : TyOk P C) {t ty : TypeId} {x v : AV} {cx : Value} {ts : Array TypeId} (h0 : ts[0]? = some t) (hx : VR C w O B M x cx) (h : mCap C t x = some v) : ∃ cv, (Builtin.cap_ ts ty #[cx]).run P w = .ok cv w ∧ VR C w O B M v cv := by
  unfold mCap at h
  simp only [Option.bind_eq_some_iff] at h
  obtain ⟨e, he, h⟩ := h
  have hu := hT.elem he
  split at h
  · cases hx; obtain rfl := Option.some.inj h
    exact ⟨_, by simp [Builtin.cap_, h0, run_underlying hu, goInt], .int _ _⟩
  · rename_i n
    obtain ⟨cb, base, c, e1, i1, cc, fz, rfl, _, _, _, _, _, hcap, _⟩ := hx.sref_inv
    obtain rfl := Option.some.inj h
    rw [hcap n rfl]
    exact ⟨_, by simp [Builtin.cap_, h0, run_underlying hu, goInt], .int _ _⟩
  · rename_i n
    obtain ⟨blk, o, c, vs, rfl, _, hcap, _⟩ := hx.sdat_cells
    obtain rfl := Option.some.inj h
    rw [hcap n rfl]
    exact ⟨_, by simp [Builtin.cap_, h0, run_underlying hu, goInt], .int _ _⟩
  · cases h

theorem mCopy_sound (hT : TyOk P C) {st st' : St} (hs : Sit C w O B M st.heap) {t ty : TypeId} {ts : Array TypeId} (h0 : ts[0]? = some t) {d s v : AV} {cd cs : Value} (hd : VR C w O B M d cd) (hsv : VR C w O B M s cs) (h : mCopy C t d s st = some (v, st')) :
    ∃ cv w', (Builtin.copy_ ts ty #[cd, cs]).run P w = .ok cv w' ∧ VR C w' O B M v cv ∧ Step C B true w O M st w' O M st' := by
  unfold mCopy at h
  simp only [Option.bind_eq_some_iff] at h
  obtain ⟨e, he, sz, hsz, _, hpos, ⟨n, new⟩, hsrc, h⟩ := h
  have hpos : 0 < sz := by simpa using chk_some hpos
  have hu := hT.elem he
  obtain ⟨i, hi, hi2⟩ := size_some hsz
  have hie := (hT.ty e i hi).2
  obtain ⟨us, hcn, hnl, hlen, hfc⟩ := source_sound (P := P) hs hsv hsrc
  have hul : us.length = n * sz := by rw [hcn.len, hnl]
  split at h
  · cases hd
    simp only [Option.some.injEq, Prod.mk.injEq] at h
    obtain ⟨rfl, rfl⟩ := h
    have hf := (hfc 0 (Nat.zero_le _)).1
    refine ⟨.int .i64 0, w, ?_, .int _ _, .refl hs⟩
    simp [Builtin.copy_, h0, run_underlying hu, hlen, run_sizeOf hie, hi2, hf, goInt]
  · rename_i b off len cap
    simp only [Option.bind_eq_some_iff, Option.some.injEq, Prod.mk.injEq] at h
    obtain ⟨⟨e', acs⟩, hcs, _, hch, rfl, rfl⟩ := h
    have hch : off + min n len * sz ≤ acs.length := by simpa using chk_some hch
    obtain ⟨cb, base, c, e1, i1, cc, fz, rfl, hM, hblk, _⟩ := hd.sref_inv
    obtain ⟨cc', fz', hblk', hfz, hfit', hO, hcr, hat⟩ := hs.cells hcs hM
    rw [hblk] at hblk'
    cases hblk'
    have hf := (hfc (min n len) (Nat.min_le_left _ _)).1
    have hrow := hcn.take (min n len * sz)
    have hrl : (new.take (min n len * sz)).length = min n len * sz := by
      rw [List.length_take, hnl]
      exact Nat.min_eq_left (Nat.mul_le_mul_right _ (Nat.min_le_left _ _))
    have hul2 : (us.take (min n len * sz)).length = min n len * sz := by rw [hrow.len, hrl]
    have hst := run_storeCells_fz (P := P) cb (base + off) e' fz (us.take (min n len * sz)) 0 cc w hblk hfz.or (by omega) hrow.one
    simp only [Nat.add_zero] at hst
    have hw := step_write hs hcs hM hblk hrow (off := off) (by omega)
    refine ⟨.int .i64 (min n len : Nat), _, ?_, .int _ _, hw⟩
    simp only [Builtin.copy_, h0, List.getElem?_toArray, List.getElem?_cons_zero, List.getElem?_cons_succ, Sem.run_bind, run_underlying hu, Result.andThen_ok, hlen, run_sizeOf hie, hi2, show Nat.min n len = min n len from rfl, hf, hst, Sem.run_pure, goInt]
  · cases h

theorem mClear_sound (hT : TyOk P C) {st st' : St} (hs : Sit C w O B M st.heap) {t ty : TypeId} {ts : Array TypeId} (h0 : ts[0]? = some t) {x v : AV} {cx : Value} (hx : VR C w O B M x cx) (h : mClear C t x st = some (v, st')) :
    ∃ cv w', (Builtin.clear_ ts ty #[cx]).run P w = .ok cv w' ∧ VR C w' O B M v cv ∧ Step C B true w O M st w' O M st' := by
  unfold mClear at h
  simp only [Option.bind_eq_some_iff] at h
  obtain ⟨e, he, i, hi, z, hz, h⟩ := h
  have hu := hT.elem he
  obtain ⟨h1, h2⟩ := hT.ty e i hi
  obtain ⟨zv, hz1, hz2, hz3, hz4, hz5⟩ := zero_some hz
  have tupN : ∀ w' : World, VR C w' O B M (.tup []) (.tuple #[]) := fun w' => .tup [] [] rfl (fun j h => by cases h)
  split at h
  · cases hx
    simp only [Option.some.injEq, Prod.mk.injEq] at h
    obtain ⟨rfl, rfl⟩ := h
    exact ⟨_, w, by simp [Builtin.clear_, h0, run_underlying hu], tupN w, .refl hs⟩
  · obtain ⟨blk, o, c, vs, rfl, _⟩ := hx.sdat_cells
    simp only [Option.some.injEq, Prod.mk.injEq] at h
    obtain ⟨rfl, rfl⟩ := h
    exact ⟨_, w, by simp [Builtin.clear_, h0, run_underlying hu], tupN w, .refl hs⟩
  · rename_i b off len cap
    obtain ⟨cb, base, c, e1, i1, cc, fz, rfl, hM, hblk, _⟩ := hx.sref_inv
    cases hb : Nat.beq len 0 with
    | true =>
      rw [hb] at h
      obtain rfl := (beq_iff _ _).1 hb
      simp only [cond_true, Option.some.injEq, Prod.mk.injEq] at h
      obtain ⟨rfl, rfl⟩ := h
      exact ⟨_, w, by simp [Builtin.clear_, h0, run_underlying hu], tupN w, .refl hs⟩
    | false =>
      rw [hb] at h
      simp only [cond_false, Option.bind_eq_some_iff, Option.some.injEq, Prod.mk.injEq] at h
      obtain ⟨⟨e', acs⟩, hcs, _, hch, rfl, rfl⟩ := h
      have hch := chk_some hch
      simp only [Bool.and_eq_true, Nat.ble_eq, Nat.blt_eq] at hch
      have hne : len ≠ 0 := fun e => by rw [e] at hb; cases hb
      obtain ⟨cc', fz', hblk', hfz, hfit', hO, hcr, hat⟩ := hs.cells hcs hM
      rw [hblk] at hblk'
      cases hblk'
      have hrow := (hz5 C w O B M).repl len
      have hrl := rep_length len z.cells
      rw [hz3] at hrl
      have hzc : (Builtin.zeroCells zv.cells len).toList = (List.replicate len zv.cells.toList).flatten := by
        have := rep_mod len zv.cells
        simp only [Builtin.zeroCells]
        rw [this]
      have hlz : ((List.replicate len zv.cells.toList).flatten).length = len * i.info.size := by rw [hrow.len, hrl]
      have hst := run_storeCells_fz (P := P) cb (base + off) _ fz ((List.replicate len zv.cells.toList).flatten) 0 cc w hblk hfz.or (by omega) hrow.one
      simp only [Nat.add_zero] at hst
      have hw := step_write hs hcs hM hblk hrow (off := off) (by omega)
      refine ⟨.tuple #[], _, ?_, tupN _, hw⟩
      obtain ⟨k, rfl⟩ : ∃ k, len = k + 1 := ⟨len - 1, by omega⟩
      simp only [Builtin.clear_, h0, List.getElem?_toArray, List.getElem?_cons_zero, Sem.run_bind, run_underlying hu, Result.andThen_ok, run_zeroValue h2 hz1, hzc, hst, Sem.run_pure]
  · cases h

theorem u8s_sound : ∀ {cs : List AV} {vs : List Value} {l : List UInt8}, CR C w O B M cs vs → u8s cs = some l → ∃ ns : List Nat, vs = ns.map (fun (n : Nat) => Value.int .u8 (n : Int)) ∧ l = ns.map UInt8.ofNat
  | [], vs, l, hc, h => by
    have := hc.len
    simp [u8s] at h
    subst h
    exact ⟨[], by simp at this; simp [this], rfl⟩
  | x :: r, vs, l, hc, h => by
    unfold u8s at h
    split at h
    · rename_i heq; cases heq
    · rename_i n r' heq
      cases heq
      simp only [Option.bind_eq_some_iff, Option.some.injEq] at h
      obtain ⟨l', hl', rfl⟩ := h
      cases vs with
      | nil => have := hc.len; simp at this
      | cons v vs =>
        have h1 := hc.rel 0 (by simp) (by simp)
        simp only [List.getElem_cons_zero] at h1
        have hr := hc.drop 1
        simp only [List.drop_succ_cons, List.drop_zero] at hr
        obtain ⟨ns, h2, h3⟩ := u8s_sound hr hl'
        cases h1
        exact ⟨n :: ns, by simp [h2], by simp [h3]⟩
    · cases h

theorem push_all (ns : List Nat) (s : ByteArray) : ((ns.map fun (n : Nat) => (n : Int)).foldl (fun r n => r.push (UInt8.ofNat n.toNat)) s).data.toList = s.data.toList ++ ns.map UInt8.ofNat := by
  induction ns generalizing s with
  | nil => simp
  | cons n ns ih =>
    simp only [List.map_cons, List.foldl_cons, ih]
    simp [ByteArray.push]

theorem mConvert_sound (hT : TyOk P C) (hs : Sit C w O B M H) {src dst : TypeId} {x v : AV} {cx : Value} (hx : VR C w O B M x cx) (h : mConvert C src dst x H = some v) :
    ∃ cv, (convert src dst cx).run P w = .ok cv w ∧ VR C w O B M v cv := by
  unfold mConvert at h
  simp only [Option.bind_eq_some_iff] at h
  obtain ⟨s, hsd, d, hdd, h⟩ := h
  have hus := hT.under hsd
  have hud := hT.under hdd
  split at h
  · cases hx; obtain rfl := Option.some.inj h
    exact ⟨_, by simp [convert, run_underlying hus, run_underlying hud, Conv.intToInt], .int _ _⟩
  · obtain ⟨bs, rfl, rfl⟩ := hx.str_inv
    obtain rfl := Option.some.inj h
    exact ⟨_, by simp [convert, run_underlying hus, run_underlying hud], .str _ _ rfl⟩
  · split at h
    · rename_i e
      simp only [Option.bind_eq_some_iff] at h
      obtain ⟨ed, hed, h⟩ := h
      have hue := hT.under hed
      split at h
      · cases hx; obtain rfl := Option.some.inj h
        refine ⟨.string .empty, ?_, .str _ _ rfl⟩
        simp [convert, run_underlying hus, run_underlying hud, run_underlying hue, Conv.bytesToString]
      · rename_i b off len cap _
        simp only [Option.bind_eq_some_iff, Option.some.injEq] at h
        obtain ⟨⟨e', cs⟩, hcs, _, hch, l, hl, rfl⟩ := h
        have hch : off + len ≤ cs.length := by simpa using chk_some hch
        obtain ⟨cb, base, c, e1, i1, cc, fz, rfl, hM, _⟩ := hx.sref_inv
        obtain ⟨cc', fz', hblk, hfz, hfit, hO, hcr, hat⟩ := hs.cells hcs hM
        obtain ⟨ns, h1, h2⟩ := u8s_sound ((hcr.drop off).take len) hl
        have hld := run_loadCells_at (P := P) (n := len) (hat.drop off) (by simp; omega)
        have hlen : (((cc'.toList.drop base).take cs.length).drop off).length ≥ len := by simp; omega
        rw [h1] at hld
        have e1 : (ns.map fun (n : Nat) => Value.int .u8 (n : Int)) = (ns.map fun (n : Nat) => (n : Int)).map (Value.int .u8) := by simp
        rw [e1] at hld
        refine ⟨_, (run_convert_bytes_string w src dst e _ _ _ hus hue hud).trans (run_bytesToString w _ len c _ hld), .str _ _ ?_⟩
        rw [push_all, h2]
        rfl
      · cases h
    · cases h
  · cases h

end
end Go.Ev
namespace Go.Ev
open Go

section
variable {P : Program} {C : Ctx} {w : World} {O B : Nat → Prop} {M : MapB} {H : Heap}

theorem mNext_sound {st st' : St} (hs : Sit C w O B M st.heap) {ty : TypeId} {x v : AV} {cx : Value} (hx : VR C w O B M x cx) (h : mNext x st = some (v, st')) :
    ∃ cv w', (Instr.next cx true ty).run P w = .ok cv w' ∧ VR C w' O B M v cv ∧ Step C B true w O M st w' O M st' := by
  unfold mNext at h
  split at h
  · rename_i b
    split at h
    · rename_i s pos hg
      cases hx with
      | pref _ _ cb base hM =>
        obtain ⟨cb', base', hM', hO, hr⟩ := hs.own b _ hg
        rw [hM] at hM'
        obtain ⟨rfl, rfl⟩ := Prod.mk.inj (Option.some.inj hM')
        cases hr with
        | siter _ _ bs hb hb0 hblk =>
          subst hb0
          subst hb
          cases hq : Nat.blt pos bs.data.toList.length with
          | true =>
            rw [hq] at h
            simp only [cond_true, Option.bind_eq_some_iff, Option.some.injEq, Prod.mk.injEq] at h
            obtain ⟨⟨c, wd⟩, hu, rfl, rfl⟩ := h
            have hlt : pos < bs.size := by simpa using hq
            unfold utf8At at hu
            split at hu
            · rename_i c0 r hdr
              simp only [Option.bind_eq_some_iff, Option.some.injEq, Prod.mk.injEq] at hu
              obtain ⟨_, hc, rfl, rfl⟩ := hu
              have hc : c0.toNat < 128 := by simpa using chk_some hc
              have hc0 : bs[pos] = c0 := by
                have h1 : (bs.data.toList.drop pos)[0]? = some c0 := by rw [hdr]; rfl
                rw [List.getElem?_drop, Nat.add_zero, List.getElem?_eq_getElem (by simpa using hlt)] at h1
                have h2 := Option.some.inj h1
                show bs.data[pos] = c0
                simpa using h2
              have hd := decode_ascii bs pos hlt (by rw [hc0]; exact hc)
              rw [hc0] at hd
              have hrun : (Instr.next (.pointer (some ⟨cb, 0 + 0, none⟩)) true ty).run P w = .ok (.tuple #[.bool true, goInt pos, .int .i32 c0.toNat]) { w with heap := w.heap.setIfInBounds cb (.stringIter bs (pos + 1)) } := by
                simp [Instr.next, getObj, setObj, Sem.run, hblk, hlt, hd, Bind.bind, Sem.bind, Pure.pure]
              have hx' : Ext w O M { w with heap := w.heap.setIfInBounds cb (.stringIter bs (pos + 1)) } O M := by
                refine ⟨rfl, rfl, rfl, by simp, fun k hk hn => ?_, fun k c e fz hk => ⟨c, ?_, rfl⟩, fun _ h => .inl h, fun _ _ h => h⟩
                · simp only [Array.getElem?_setIfInBounds]
                  rw [if_neg (fun e : cb = k => hn (e ▸ hO))]
                · simp only [Array.getElem?_setIfInBounds]
                  rw [if_neg (fun e : cb = k => by subst e; rw [hblk] at hk; cases hk)]
                  exact hk
              have hlt2 : cb < w.heap.size := (Array.getElem?_eq_some_iff.1 hblk).1
              refine ⟨_, _, hrun, .tup _ [_, _, _] rfl (fun j h1 h2 => ?_), Step.put hs hg hM hx' (fun k hk => ?_) (.siter _ _ bs rfl rfl (by simp [hlt2]))⟩
              · match j with
                | 0 => exact .bool _
                | 1 => exact .int _ _
                | 2 => exact .int _ _
              · simp only [Array.getElem?_setIfInBounds]
                rw [if_neg (fun e => hk e.symm)]
            · cases hu
          | false =>
            rw [hq] at h
            simp only [cond_false, Option.some.injEq, Prod.mk.injEq] at h
            obtain ⟨rfl, rfl⟩ := h
            have hge : ¬ pos < bs.size := by
              intro hh
              have : Nat.blt pos bs.data.toList.length = true := by simpa using hh
              rw [this] at hq; cases hq
            refine ⟨.tuple #[.bool false], w, ?_, .tup _ [_] rfl (fun j h1 h2 => ?_), .refl hs⟩
            · simp [Instr.next, getObj, Sem.run, hblk, hge, Bind.bind, Sem.bind, Pure.pure]
            · match j with
              | 0 => exact .bool _
    · cases h
  · cases h

/-- what is shown of a call -/
def FnOk (P : Program) (f : FuncId) (args : Array Value) (w : World) (R : Value → World → Prop) : Prop :=
  ∀ (o : Oper) (a : Act) (next : Act → World → Prop) (Q : Exit → Act → World → Prop), (∀ v w', R v w' → next (a.put o.dst v) w') → o.upon P a next Q ((callFunc f args).run P w)

theorem FnOk.mono {f : FuncId} {args : Array Value} {R R' : Value → World → Prop} (h : FnOk P f args w R) (hr : ∀ v w', R v w' → R' v w') : FnOk P f args w R' :=
  fun o a next Q hn => h o a next Q fun v w' hv => hn v w' (hr v w' hv)

/-- pointwise -/
structure LR (C : Ctx) (w : World) (O B : Nat → Prop) (M : MapB) (xs : List AV) (vs : List Value) : Prop where
  len : vs.length = xs.length
  rel : ∀ j (h : j < xs.length) (h' : j < vs.length), VR C w O B M xs[j] vs[j]

/-- WHAT A CALLER MAY LEAN ON: a function that is run in its caller's heap. -/
def CallOk (P : Program) (C : Ctx) (call : CallF) : Prop :=
  ∀ (f : FuncId) (args : List AV) (st : St) (r : AV) (st' : St), call f args st = some (r, st') → ∀ (w : World) (O B : Nat → Prop) (M : MapB) (cargs : List Value), Sit C w O B M st.heap → (∀ x, O x → x < w.heap.size) →
    (∀ b, st.nxt ≤ b → M b = none) → LR C w O B M args cargs →
    FnOk P f cargs.toArray w fun cv w' => ∃ O' M', VR C w' O' B M' r cv ∧ Step C B true w O M st w' O' M' st'

end
end Go.Ev
