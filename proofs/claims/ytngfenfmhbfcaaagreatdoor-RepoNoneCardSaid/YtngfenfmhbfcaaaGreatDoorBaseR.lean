/- A PART OF THE PROOFS THAT ONE CALL OF A LAW (the nil repository of layer 34; no desk, no power of layer 37) returns true, whatever the input; the input reads as it did. No condition beyond the given statement. This part: BaseR. -/
import Derived.Test.YtngfenfmhbfcaaaGreatDoorEvSizeR
import Derived.Test.YtngfenfmhbfcaaaGreatDoorFactsR
import Derived.Test.YtngfenfmhbfcaaaGreatDoorEvPrim
namespace Go.Proofs.Tr
open Go Go.Ev Go.Proofs
set_option maxRecDepth 100000

theorem sumStr_sound {D : Ctx} {w : World} {O B : Nat → Prop} {M : MapB} : ∀ {ks us : List AV} {bs : List Nat} {es : List MapEntry} {n : Nat}, EL (VR D w O B M) ks us bs es → sumStr us = some n →
    (∀ x ∈ es, ∃ s : ByteArray, x.val = .agg #[.string s]) ∧ (es.map fun e => txtLen e.val).sum = (n : Int)
  | [], [], [], [], n, _, h => by
    simp only [sumStr, Option.some.injEq] at h
    subst h
    exact ⟨fun x h => (by cases h), rfl⟩
  | k :: ks, u :: us, b :: bs, e :: es, n, h, hn => by
    cases u with
    | agg l => match l, h, hn with
      | [.str s], h, hn =>
        simp only [sumStr, Option.map_eq_some_iff] at hn
        obtain ⟨m, hm, rfl⟩ := hn
        obtain ⟨h1, h2⟩ := sumStr_sound h.2.2.2 hm
        have hu : VR D w O B M (.agg [.str s]) e.val := h.2.1
        have hval : ∃ x : ByteArray, e.val = .agg #[.string x] ∧ x.size = s.length := by
          generalize e.val = q at hu
          cases hu with
          | agg _ vs hl hic hv =>
            obtain ⟨y, rfl⟩ := List.length_eq_one_iff.1 hl
            have := hv 0 (by simp) (by simp)
            simp only [List.getElem_cons_zero] at this
            cases this with
            | str _ bs hb => exact ⟨bs, rfl, by rw [← hb]; simp⟩
        obtain ⟨x, hx, hxs⟩ := hval
        refine ⟨fun y hy => ?_, ?_⟩
        · rcases List.mem_cons.1 hy with rfl | hy
          · exact ⟨x, hx⟩
          · exact h1 y hy
        · simp only [List.map_cons, List.sum_cons, h2, hx]
          have : txtLen (.agg #[.string x]) = x.size := rfl
          rw [this, hxs]
          push_cast
          rfl
      | [], _, hn => simp [sumStr] at hn
      | .bool _ :: _, _, hn => simp [sumStr] at hn
      | .str _ :: _ :: _, _, hn => simp [sumStr] at hn
      | .int .. :: _, _, hn => simp [sumStr] at hn
      | .flt .. :: _, _, hn => simp [sumStr] at hn
      | .pnil :: _, _, hn => simp [sumStr] at hn
      | .snil :: _, _, hn => simp [sumStr] at hn
      | .mnil :: _, _, hn => simp [sumStr] at hn
      | .fnil :: _, _, hn => simp [sumStr] at hn
      | .inil :: _, _, hn => simp [sumStr] at hn
      | .pref .. :: _, _, hn => simp [sumStr] at hn
      | .pdat .. :: _, _, hn => simp [sumStr] at hn
      | .sref .. :: _, _, hn => simp [sumStr] at hn
      | .sdat .. :: _, _, hn => simp [sumStr] at hn
      | .sown .. :: _, _, hn => simp [sumStr] at hn
      | .mref .. :: _, _, hn => simp [sumStr] at hn
      | .mdat .. :: _, _, hn => simp [sumStr] at hn
      | .mown .. :: _, _, hn => simp [sumStr] at hn
      | .clo .. :: _, _, hn => simp [sumStr] at hn
      | .bnd .. :: _, _, hn => simp [sumStr] at hn
      | .ifc .. :: _, _, hn => simp [sumStr] at hn
      | .agg .. :: _, _, hn => simp [sumStr] at hn
      | .tup .. :: _, _, hn => simp [sumStr] at hn
    | _ => simp [sumStr] at hn
  | [], [], [], _ :: _, _, h, _ => h.elim
  | [], [], _ :: _, _, _, h, _ => h.elim
  | [], _ :: _, _, _, _, h, _ => h.elim
  | _ :: _, [], _, _, _, h, _ => h.elim
  | _ :: _, _ :: _, [], _, _, h, _ => h.elim
  | _ :: _, _ :: _, _ :: _, [], _, h, _ => h.elim

theorem nodupN_sound : ∀ {l : List Nat}, nodupN l = true → l.Nodup
  | [], _ => List.nodup_nil
  | b :: r, h => by
    simp only [nodupN, Bool.and_eq_true, Bool.not_eq_true'] at h
    refine List.nodup_cons.2 ⟨fun hm => ?_, nodupN_sound h.2⟩
    have : r.contains b = true := by simpa using hm
    rw [this] at h
    cases h.1

theorem sizeOk (D : Ctx) : PrimOk Tryz.prog D 227 phiSize := by
  intro ds r h w B cargs hl
  unfold phiSize at h
  split at h
  · rename_i t ks us bs ck
    simp only [Option.bind_eq_some_iff, Option.some.injEq] at h
    obtain ⟨n, hn, _, hch, rfl⟩ := h
    have hch := chk_some hch
    simp only [Bool.and_eq_true] at hch
    obtain ⟨⟨h1, h2⟩, h3⟩ := hch
    have hnlt : n < 4611686018427387904 := Nat.le_of_ble_eq_true h1
    obtain ⟨x, rfl, hx⟩ := lr_one hl
    obtain ⟨blk, es, rfl, hlt, _, _, _, _, hblk, hel⟩ := hx.mdat_inv
    obtain ⟨hv, hs⟩ := sumStr_sound hel hn
    have hb := hel.born
    have hcall := sizeWalk blk es ck w hblk ⟨fun x hx => by
      have hx2 : x.born ∈ es.toList.map (·.born) := List.mem_map_of_mem hx
      rw [hb] at hx2
      have := List.all_eq_true.1 h2 _ hx2
      simpa using this, by rw [hb]; exact nodupN_sound h3⟩ hv (by rw [hs]; omega)
    intro o a next Q hnext
    have he : (callFunc 227 (#[Value.map (some blk)])).run Tryz.prog w = .ok (.enter 227 (#[Value.map (some blk)])) w := run_enter fr227.1 fr227.2.1 (by rfl) _ w
    show Oper.upon _ _ _ _ _ _
    rw [show ([Value.map (some blk)] : List Value).toArray = #[Value.map (some blk)] from rfl, he, Oper.upon_enter]
    refine hcall.mono fun e w' ⟨he, hS⟩ => ?_
    subst he
    rw [hs]
    exact hnext _ _ ⟨.int _ _, hS.os, hS.tape, hS.output, Nat.le_of_lt hS.size, fun b hb _ => hS.keep b hb, fun b c e fz hc => ⟨c, by rw [hS.keep b (Array.getElem?_eq_some_iff.1 hc).1]; exact hc, rfl⟩, fun _ h => .inl h, fun _ _ h => h⟩
  · cases h

set_option maxHeartbeats 0 in
theorem indexByteOk (D : Ctx) : PrimOk Tryz.prog D 385 phiIndexByte := primIndexByte (fun args w => run_callFunc_indexByte Tryz.func385 (by kernel_rfl) (by kernel_rfl) (by kernel_rfl) (by kernel_rfl) args w)
set_option maxHeartbeats 0 in
theorem countOk (D : Ctx) : PrimOk Tryz.prog D 381 phiCount := primCount (fun args w => run_callFunc_standIn Tryz.func381 (by kernel_rfl) (by kernel_rfl) (by kernel_rfl) (by kernel_rfl) args w)

theorem hasTi {D : Ctx} {t : TypeId} (h : (D.ti t).isSome = true) : ∃ i, D.ti t = some i := Option.isSome_iff_exists.1 h

set_option maxHeartbeats 0 in
theorem extsOk (D : Ctx) (ht : D.types = types) (he : D.ext = exts) : ExtsOk Tryz.prog D := by
  intro g e hg
  rw [he] at hg
  unfold exts at hg
  cases h1 : Nat.beq g 301 with
  | true =>
    rw [h1] at hg
    obtain rfl := (beq_iff _ _).1 h1
    have : Go.Ev.Extern.mapsClone = e := Option.some.inj hg
    subst this
    exact fun args w => run_callFunc_standIn Tryz.func301 (by kernel_rfl) (by kernel_rfl) (by kernel_rfl) (by kernel_rfl) args w
  | false =>
    rw [h1] at hg
    simp only [cond_false] at hg
    have ov : ∀ b : Bool, (bif b then some Go.Ev.Extern.overlaps else none) = some e → b = true ∧ e = .overlaps := fun b h => by
      cases b with
      | true => exact ⟨rfl, (Option.some.inj h).symm⟩
      | false => cases h
    obtain ⟨h2, rfl⟩ := ov _ hg
    have h3 : g = 297 ∨ g = 316 ∨ g = 473 := by
      simp only [Bool.or_eq_true, beq_iff] at h2
      rcases h2 with (h2 | h2) | h2
      · exact .inl h2
      · exact .inr (.inl h2)
      · exact .inr (.inr h2)
    have ti : ∀ t, D.ti t = C.ti t := fun t => by unfold Ctx.ti; rw [ht]; rfl
    rcases h3 with rfl | rfl | rfl
    · exact ⟨107, 4, _, Tryz.underlying107, by rw [ti]; exact hasTi (by kernel_rfl), fun args w => run_callFunc_standIn Tryz.func297 (by kernel_rfl) (by kernel_rfl) (by kernel_rfl) (by kernel_rfl) args w⟩
    · exact ⟨45, 4, _, Tryz.underlying45, by rw [ti]; exact hasTi (by kernel_rfl), fun args w => run_callFunc_standIn Tryz.func316 (by kernel_rfl) (by kernel_rfl) (by kernel_rfl) (by kernel_rfl) args w⟩
    · exact ⟨152, 4, _, Tryz.underlying152, by rw [ti]; exact hasTi (by kernel_rfl), fun args w => run_callFunc_standIn Tryz.func473 (by kernel_rfl) (by kernel_rfl) (by kernel_rfl) (by kernel_rfl) args w⟩

theorem primFns0 : PrimFns Tryz.prog C := by
  intro f φ hφ ds r h w B cargs _ _ hl
  have hφ2 : prims f = some φ := hφ
  clear hφ
  have hφ := hφ2
  clear hφ2
  unfold prims at hφ
  cases h1 : Nat.beq f 385 with
  | true =>
    rw [h1] at hφ
    simp only [cond_true, Option.some.injEq] at hφ
    obtain rfl := (beq_iff _ _).1 h1
    subst hφ
    exact indexByteOk C ds r h w B cargs hl
  | false =>
    rw [h1] at hφ
    simp only [cond_false] at hφ
    cases h2 : Nat.beq f 381 with
    | true =>
      rw [h2] at hφ
      simp only [cond_true, Option.some.injEq] at hφ
      obtain rfl := (beq_iff _ _).1 h2
      subst hφ
      exact countOk C ds r h w B cargs hl
    | false =>
      rw [h2] at hφ
      simp only [cond_false] at hφ
      cases h3 : Nat.beq f 227 with
      | true =>
        rw [h3] at hφ
        simp only [cond_true, Option.some.injEq] at hφ
        obtain rfl := (beq_iff _ _).1 h3
        subst hφ
        exact sizeOk C ds r h w B cargs hl
      | false => rw [h3] at hφ; cases hφ

theorem mixed : Tryz.prog.follows .mixedOrders = true := Tryz.checked.mixed

/-- a context, and all that is promised of it -/
structure Good (D : Ctx) : Prop where
  types : D.types = types
  funs : D.funs = funs
  globs : D.globs = fun _ => none
  ext : D.ext = exts
  prim : PrimFns Tryz.prog D

theorem Good.ty {D : Ctx} (g : Good D) : TyOk Tryz.prog D := tyOk_of (by rw [g.types]; exact typesAll)
theorem Good.fns {D : Ctx} (g : Good D) : FnsOk Tryz.prog D := fnsOk_of (by rw [g.funs]; exact funsAll)
theorem Good.prims {D : Ctx} (g : Good D) : PrimsOk Tryz.prog D := ⟨g.prim, extsOk D g.types g.ext⟩
theorem Good.draws {D : Ctx} (g : Good D) : ∀ f fn body, D.funs.get f = some fn → fn.body = some body → Draws Tryz.prog D body := drawsOk_of mixed g.ty g.prims (by rw [g.funs]; exact funsAll)

theorem good0 : Good C := ⟨rfl, rfl, rfl, rfl, primFns0⟩

/-- what was run once is looked up: a table more -/
theorem memoGood {D D' : Ctx} (g : Good D) {n f : Nat} {tbl : List (List AV × AV)} (h : tbl.all (memoChk D n f) = true) (p : PrimFns Tryz.prog D')
    (ht : D'.types = types) (hg : D'.globs = fun _ => none) {E : Ctx} (hE : E.types = types) (hEg : E.globs = fun _ => none) (hEp : E.prims = fun i => bif Nat.beq i f then some (Go.Ev.memo tbl) else D'.prims i) : PrimFns Tryz.prog E := by
  intro g' φ hφ ds r hr w B cargs hgl hB hl
  have hφ2 : (bif Nat.beq g' f then some (Go.Ev.memo tbl) else D'.prims g') = some φ := by rw [hEp] at hφ; exact hφ
  clear hφ
  have hφ := hφ2
  clear hφ2
  cases h1 : Nat.beq g' f with
  | true =>
    rw [h1] at hφ
    simp only [cond_true, Option.some.injEq] at hφ
    obtain rfl := (beq_iff _ _).1 h1
    subst hφ
    exact memo_prim (C0 := D) (hE.trans g.types.symm) (hEg.trans g.globs.symm) g.ty g.prims g.fns g.draws h hr hgl hB hl
  | false =>
    rw [h1] at hφ
    simp only [cond_false] at hφ
    refine (p g' φ hφ ds r hr w B cargs (fun k cs hk => ?_) hB ⟨hl.len, fun j a b => (hl.rel j a b).ctx (hE.trans ht.symm)⟩).mono fun cv w' ⟨h2, h3⟩ => ⟨h2.ctx (ht.trans hE.symm), h3⟩
    rw [hg] at hk; cases hk
end Go.Proofs.Tr
