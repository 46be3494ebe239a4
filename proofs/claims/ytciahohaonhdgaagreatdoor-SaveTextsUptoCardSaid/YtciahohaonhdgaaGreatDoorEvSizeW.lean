/- A PART OF THE PROOF THAT SAVETEXTS HOLDS FOR EVERY INPUT OF BULK AT MOST 1048576. No condition beyond the given statement. This part: EvSizeW. -/
import Derived.Test.YtciahohaonhdgaaGreatDoorEvSizeF
import Derived.Test.YtciahohaonhdgaaGreatDoorEvMemo
import Derived.Test.YtciahohaonhdgaaGreatDoorProg
import Derived.Tactics
import Derived.Tactics2
import Derived.StillTactics
import Derived.Laws.AppendOwn
import Derived.Laws.CopyRow
import Derived.Laws.Rows
import Derived.Laws.Tables
import Derived.Laws.NewBlocks
import Derived.Laws.Unary
import Derived.Laws.Strings
import Derived.Laws.Strings2
import Derived.Laws.Wrap64
import Derived.Laws.RangeString
import Derived.Laws.Concat
import Derived.Laws.Cells
import Derived.Laws.Pointers
import Derived.Laws.StructEq
import Derived.Laws.StandIn
import Derived.Laws.ByValue
import Derived.Laws.Externs
import Derived.Laws.OwnMore
import Derived.Laws.Build
import Derived.Laws.ResultCell
import Derived.Laws.Entries
import Derived.Laws.Append
import Derived.Laws.World
import Derived.Laws.Strings3
import Derived.Laws.Sem
import Derived.Laws.Slices
import Derived.Laws.MakeOwn
import Derived.Laws.Small
import Derived.Scope
import Derived.FnLit
import Derived.LoopTactic
import Derived.LoopN
import Derived.Laws.IdiomRangeMap
import Derived.Test.YtciahohaonhdgaaGreatDoorCtxW
import Derived.Test.YtciahohaonhdgaaGreatDoorWName
import Derived.Deep.Slices
import Derived.Test.YtciahohaonhdgaaGreatDoorEvAllF
namespace Go.Proofs.Wc
open Go Go.Ev Go.Proofs
set_option maxRecDepth 1000000
structure Since (w w' : World) : Prop where
 os : w'.os = w.os
 tape : w'.tape = w.tape
 output : w'.output = w.output
 size : w.heap.size < w'.heap.size
 keep : ∀ b, b < w.heap.size → w'.heap[b]? = w.heap[b]?
theorem sizeWalk (bm : Nat) (es : Array MapEntry) (clock : Nat) (w : World) (hb : w.heap[bm]? = some (.map es clock)) (hst : (∀ x ∈ es.toList, x.born < clock) ∧ (es.toList.map (·.born)).Nodup) (hv : ∀ x ∈ es.toList, ∃ s : ByteArray, x.val = .agg #[.string s])
  (hsum : (es.toList.map fun e => txtLen e.val).sum < 4611686018427387904) :
  Calls Tryz.prog 155 #[.map (some bm)] w fun e w' => e = .returned (.int .i64 ((es.toList.map fun e => txtLen e.val).sum)) ∧ Since w w' := by
 have hlt : bm < w.heap.size := (Array.getElem?_eq_some_iff.1 hb).1
 have hrg := run_range_map (P := Tryz.prog) w 95 9 145 bm es clock Tryz.underlying95 hb
 go_enter Tryz.func155, Tryz.ntmps155
 go_wp2
 go_loopw [3] (fun s w' => ∃ seen : Array Nat, Since w w' ∧ w'.heap[w.heap.size]? = some (.mapIter (some bm) clock seen clock) ∧ s = .int .i64 (gSum es.toList seen)) (fun _ w' => (leftOf es (w'.iterSeen w.heap.size)).size)
 case atStart => exact ⟨#[], ⟨rfl, rfl, rfl, by simp, fun b hb => heap_alloc_old w _ hb⟩, heap_alloc_new w _, by rw [gSum_none]⟩
 case round =>
  obtain ⟨seen, hS, hit, rfl⟩ := hrel
  have hb1 : wr.heap[bm]? = some (.map es clock) := by rw [hS.keep bm hlt]; exact hb
  rcases run_next_at (P := Tryz.prog) wr 0 w.heap.size bm clock clock seen es clock hit hb1 hst.1 (Nat.le_refl _) with ⟨h0, hrun⟩ | ⟨e, he, w1, hw1, ho1, ht1, hp1, hrun⟩
  ·have hnx : ∀ ty, (Instr.next (.pointer (some ⟨w.heap.size, 0, none⟩)) false ty).run Tryz.prog wr = _ := fun _ => hrun
   go_wp2
   go_ret
   rw [gSum_all es seen h0]
   exact ⟨rfl, hS⟩
  ·obtain ⟨str, hval⟩ := hv e (mem_left he).1
   rw [hval] at hrun
   have hnx : ∀ ty, (Instr.next (.pointer (some ⟨w.heap.size, 0, none⟩)) false ty).run Tryz.prog wr = _ := fun _ => hrun
   have hlt' : w.heap.size < wr.heap.size := hS.size
   have hit1 : w1.heap[w.heap.size]? = some (.mapIter (some bm) clock (seen.push e.born) clock) := by rw [hw1]; simp [hlt']
   have hb2 : w1.heap[bm]? = some (.map es clock) := by
    rw [hw1, Array.getElem?_setIfInBounds, if_neg (by omega)]; exact hb1
   have hen := run_entry_at (P := Tryz.prog) w1 w.heap.size bm clock seen es clock e hit1 hb2 (mem_left he).1 hst.2
   rw [hval] at hen
   go_wp2
   have hsz1 : w1.heap.size = wr.heap.size := by rw [hw1]; simp
   have hit2 : (w1.alloc (Obj.cells #[Value.string str] 145)).heap[w.heap.size]? = some (.mapIter (some bm) clock (seen.push e.born) clock) := by rw [heap_alloc_old w1 _ (by omega)]; exact hit1
   have hpush := gSum_push seen e (mem_left he).2 es.toList hst.2 (mem_left he).1
   have htl : txtLen e.val = str.size := by rw [hval]; rfl
   have hbd := gSum_le (seen.push e.born) es.toList
   have hwrap : RowKit.wrap64 (gSum es.toList seen + ↑str.size) = gSum es.toList (seen.push e.born) := by
    rw [hpush, htl] at hbd
    rw [hpush, htl]
    simp only [RowKit.wrap64]
    omega
   go_roundw
   case rel =>
    refine ⟨seen.push e.born, ⟨ho1.trans hS.os, ht1.trans hS.tape, hp1.trans hS.output, by simp; omega, fun b hb => ?_⟩, hit2, by rw [hwrap]⟩
    rw [heap_alloc_old w1 _ (by omega), hw1, Array.getElem?_setIfInBounds, if_neg (by omega)]
    exact hS.keep b hb
   case measure =>
    have e1 : (w1.alloc (Obj.cells #[Value.string str] 145)).iterSeen w.heap.size = seen.push e.born := by unfold World.iterSeen; rw [hit2]
    have e2 : wr.iterSeen w.heap.size = seen := by unfold World.iterSeen; rw [hit]
    rw [e1, e2]
    exact left_shrinks es seen e he
end Go.Proofs.Wc
namespace Go.Proofs.Wc
open Go Go.Ev Go.Proofs Go.RowKit
set_option maxRecDepth 100000
theorem sumStr_sound {D : Ctx} {w : World} {O B : Nat → Prop} {M : MapB} : ∀ {ks us : List AV} {bs : List Nat} {es : List MapEntry} {n : Nat}, EL (VR D w O B M) ks us bs es → sumStr us = some n →
  (∀ x ∈ es, ∃ s : ByteArray, x.val = .agg #[.string s]) ∧ (es.map fun e => txtLen e.val).sum = (n : Int)
 | [], [], [], [], n, _, h => by
  simp only [sumStr, Option.some.injEq] at h
  subst h
  exact ⟨fun x h => (by cases h), rfl⟩
 | k :: ks, u :: us, b :: bs, e :: es, n, h, hn => by
  cases u with
  | agg l => match l, h, hn with
   | [.str s], h, hn =>
    simp only [sumStr, Option.map_eq_some_iff] at hn
    obtain ⟨m, hm, rfl⟩ := hn
    obtain ⟨h1, h2⟩ := sumStr_sound h.2.2.2 hm
    have hu : VR D w O B M (.agg [.str s]) e.val := h.2.1
    have hval : ∃ x : ByteArray, e.val = .agg #[.string x] ∧ x.size = s.length := by
     generalize e.val = q at hu
     cases hu with
     | agg _ vs hl hic hv =>
      obtain ⟨y, rfl⟩ := List.length_eq_one_iff.1 hl
      have := hv 0 (by simp) (by simp)
      simp only [List.getElem_cons_zero] at this
      cases this with
      | str _ bs hb => exact ⟨bs, rfl, by rw [← hb]; simp⟩
    obtain ⟨x, hx, hxs⟩ := hval
    refine ⟨fun y hy => ?_, ?_⟩
    ·rcases List.mem_cons.1 hy with rfl | hy
     ·exact ⟨x, hx⟩
     ·exact h1 y hy
    ·simp only [List.map_cons, List.sum_cons, h2, hx]
     have : txtLen (.agg #[.string x]) = x.size := rfl
     rw [this, hxs]
     push_cast
     rfl
   | [], _, hn => simp [sumStr] at hn
   | .bool _ :: _, _, hn => simp [sumStr] at hn
   | .str _ :: _ :: _, _, hn => simp [sumStr] at hn
   | .int .. :: _, _, hn => simp [sumStr] at hn
   | .flt .. :: _, _, hn => simp [sumStr] at hn
   | .pnil :: _, _, hn => simp [sumStr] at hn
   | .snil :: _, _, hn => simp [sumStr] at hn
   | .mnil :: _, _, hn => simp [sumStr] at hn
   | .fnil :: _, _, hn => simp [sumStr] at hn
   | .inil :: _, _, hn => simp [sumStr] at hn
   | .pref .. :: _, _, hn => simp [sumStr] at hn
   | .pdat .. :: _, _, hn => simp [sumStr] at hn
   | .sref .. :: _, _, hn => simp [sumStr] at hn
   | .sdat .. :: _, _, hn => simp [sumStr] at hn
   | .sown .. :: _, _, hn => simp [sumStr] at hn
   | .mref .. :: _, _, hn => simp [sumStr] at hn
   | .mdat .. :: _, _, hn => simp [sumStr] at hn
   | .mown .. :: _, _, hn => simp [sumStr] at hn
   | .clo .. :: _, _, hn => simp [sumStr] at hn
   | .bnd .. :: _, _, hn => simp [sumStr] at hn
   | .ifc .. :: _, _, hn => simp [sumStr] at hn
   | .agg .. :: _, _, hn => simp [sumStr] at hn
   | .tup .. :: _, _, hn => simp [sumStr] at hn
  | _ => simp [sumStr] at hn
 | [], [], [], _ :: _, _, h, _ => h.elim
 | [], [], _ :: _, _, _, h, _ => h.elim
 | [], _ :: _, _, _, _, h, _ => h.elim
 | _ :: _, [], _, _, _, h, _ => h.elim
 | _ :: _, _ :: _, [], _, _, h, _ => h.elim
 | _ :: _, _ :: _, _ :: _, [], _, h, _ => h.elim
theorem nodupN_sound : ∀ {l : List Nat}, nodupN l = true → l.Nodup
 | [], _ => List.nodup_nil
 | b :: r, h => by
  simp only [nodupN, Bool.and_eq_true, Bool.not_eq_true'] at h
  refine List.nodup_cons.2 ⟨fun hm => ?_, nodupN_sound h.2⟩
  have : r.contains b = true := by simpa using hm
  rw [this] at h
  cases h.1
theorem sizeOk (D : Ctx) : PrimOk Tryz.prog D 155 phiSize := by
 intro ds r h w B cargs hl
 unfold phiSize at h
 split at h
 ·rename_i t ks us bs ck
  simp only [Option.bind_eq_some_iff, Option.some.injEq] at h
  obtain ⟨n, hn, _, hch, rfl⟩ := h
  have hch := chk_some hch
  simp only [Bool.and_eq_true] at hch
  obtain ⟨⟨h1, h2⟩, h3⟩ := hch
  have hnlt : n < 4611686018427387904 := Nat.le_of_ble_eq_true h1
  obtain ⟨x, rfl, hx⟩ := lr_one hl
  obtain ⟨blk, es, rfl, hlt, _, _, _, _, hblk, hel⟩ := hx.mdat_inv
  obtain ⟨hv, hs⟩ := sumStr_sound hel hn
  have hb := hel.born
  have hcall := sizeWalk blk es ck w hblk ⟨fun x hx => by
   have hx2 : x.born ∈ es.toList.map (·.born) := List.mem_map_of_mem hx
   rw [hb] at hx2
   have := List.all_eq_true.1 h2 _ hx2
   simpa using this, by rw [hb]; exact nodupN_sound h3⟩ hv (by rw [hs]; omega)
  intro o a next Q hnext
  have he : (callFunc 155 (#[Value.map (some blk)])).run Tryz.prog w = .ok (.enter 155 (#[Value.map (some blk)])) w := run_enter fr155.1 fr155.2.1 (by rfl) _ w
  show Oper.upon _ _ _ _ _ _
  rw [show ([Value.map (some blk)] : List Value).toArray = #[Value.map (some blk)] from rfl, he, Oper.upon_enter]
  refine hcall.mono fun e w' ⟨he, hS⟩ => ?_
  subst he
  rw [hs]
  exact hnext _ _ ⟨.int _ _, hS.os, hS.tape, hS.output, Nat.le_of_lt hS.size, fun b hb _ => hS.keep b hb, fun b c e fz hc => ⟨c, by rw [hS.keep b (Array.getElem?_eq_some_iff.1 hc).1]; exact hc, rfl⟩, fun _ h => .inl h, fun _ _ h => h⟩
 ·cases h
theorem hasTi {D : Ctx} {t : TypeId} (h : (D.ti t).isSome = true) : ∃ i, D.ti t = some i := Option.isSome_iff_exists.1 h
theorem entersJ : ∀ args w, (callFunc 178 args).run Tryz.prog w = .ok (.enter 178 args) w := enters_of Tryz.func178 (by kernel_rfl) rfl
set_option maxHeartbeats 0 in
theorem indexByteOk (D : Ctx) : PrimOk Tryz.prog D 190 phiIndexByte := primIndexByte (fun args w => run_callFunc_indexByte Tryz.func190 (by kernel_rfl) (by kernel_rfl) (by kernel_rfl) (by kernel_rfl) args w)
set_option maxHeartbeats 0 in
theorem countOk (D : Ctx) : PrimOk Tryz.prog D 275 phiCount := primCount (fun args w => run_callFunc_standIn Tryz.func275 (by kernel_rfl) (by kernel_rfl) (by kernel_rfl) (by kernel_rfl) args w)
theorem joinOk (D : Ctx) : PrimOk Tryz.prog D 178 phiJoin := primJoin entersJ Tryz.strings_Join_none Tryz.strings_Join
set_option maxHeartbeats 0 in
theorem extsOk (D : Ctx) (ht : D.types = types) (he : D.ext = exts) : ExtsOk Tryz.prog D := by
 intro g e hg
 rw [he] at hg
 unfold exts at hg
 have ti : ∀ t, D.ti t = C0.ti t := fun t => by unfold Ctx.ti; rw [ht]; rfl
 cases h1 : Nat.beq g 162 with
 | true =>
  rw [h1] at hg
  obtain rfl := (beq_iff _ _).1 h1
  have : Go.Ev.Extern.mapsClone = e := Option.some.inj hg
  subst this
  exact fun args w => run_callFunc_standIn Tryz.func162 (by kernel_rfl) (by kernel_rfl) (by kernel_rfl) (by kernel_rfl) args w
 | false =>
  rw [h1] at hg
  simp only [cond_false] at hg
  have ov : ∀ b : Bool, (bif b then some Go.Ev.Extern.overlaps else none) = some e → b = true ∧ e = .overlaps := fun b h => by
   cases b with
   | true => exact ⟨rfl, (Option.some.inj h).symm⟩
   | false => cases h
  obtain ⟨h2, rfl⟩ := ov _ hg
  simp only [Bool.or_eq_true, beq_iff] at h2
  rcases h2 with rfl | rfl
  ·exact ⟨153, 4, _, Tryz.underlying153, by rw [ti]; exact hasTi (by kernel_rfl), fun args w => run_callFunc_standIn Tryz.func332 (by kernel_rfl) (by kernel_rfl) (by kernel_rfl) (by kernel_rfl) args w⟩
  ·exact ⟨22, 4, _, Tryz.underlying22, by rw [ti]; exact hasTi (by kernel_rfl), fun args w => run_callFunc_standIn Tryz.func179 (by kernel_rfl) (by kernel_rfl) (by kernel_rfl) (by kernel_rfl) args w⟩
theorem primFns0 (D : Ctx) {f : FuncId} {φ : List AV → Option AV} (hφ : prims0 f = some φ) {ds : List AV} {r : AV} (h : φ ds = some r) {w : World} {B : Nat → Prop} {cargs : List Value} (_hB : ∀ b, B b → b < w.heap.size) (hl : LR D w (fun _ => False) B (fun _ => none) ds cargs) :
  FnOk Tryz.prog f cargs.toArray w fun cv w' => VR D w' (fun _ => False) B (fun _ => none) r cv ∧ Ext w (fun _ => False) (fun _ => none) w' (fun _ => False) (fun _ => none) := by
 unfold prims0 at hφ
 cases h1 : Nat.beq f 190 with
 | true =>
  rw [h1] at hφ
  simp only [cond_true, Option.some.injEq] at hφ
  obtain rfl := (beq_iff _ _).1 h1
  subst hφ
  exact indexByteOk D ds r h w B cargs hl
 | false =>
  rw [h1] at hφ
  simp only [cond_false] at hφ
  cases h2 : Nat.beq f 275 with
  | true =>
   rw [h2] at hφ
   simp only [cond_true, Option.some.injEq] at hφ
   obtain rfl := (beq_iff _ _).1 h2
   subst hφ
   exact countOk D ds r h w B cargs hl
  | false =>
   rw [h2] at hφ
   simp only [cond_false] at hφ
   cases h3 : Nat.beq f 178 with
   | true =>
    rw [h3] at hφ
    simp only [cond_true, Option.some.injEq] at hφ
    obtain rfl := (beq_iff _ _).1 h3
    subst hφ
    exact joinOk D ds r h w B cargs hl
   | false =>
    rw [h3] at hφ
    simp only [cond_false] at hφ
    cases h4 : Nat.beq f 155 with
    | true =>
     rw [h4] at hφ
     simp only [cond_true, Option.some.injEq] at hφ
     obtain rfl := (beq_iff _ _).1 h4
     subst hφ
     exact sizeOk D ds r h w B cargs hl
    | false =>
     rw [h4] at hφ
     simp only [cond_false] at hφ
     cases hφ
theorem mixed : Tryz.prog.follows .mixedOrders = true := by kernel_rfl
structure Good (D : Ctx) : Prop where
 types : D.types = types
 funs : D.funs = funs
 ext : D.ext = exts
 prim : PrimFns Tryz.prog D
theorem Good.ty {D : Ctx} (g : Good D) : TyOk Tryz.prog D := tyOk_of (by rw [g.types]; exact typesAll)
theorem Good.fns {D : Ctx} (g : Good D) : FnsOk Tryz.prog D := fnsOk_of (by rw [g.funs]; exact funsAll)
theorem Good.prims {D : Ctx} (g : Good D) : PrimsOk Tryz.prog D := ⟨g.prim, extsOk D g.types g.ext⟩
theorem Good.draws {D : Ctx} (g : Good D) : ∀ f fn body, D.funs.get f = some fn → fn.body = some body → Draws Tryz.prog D body := drawsOk_of mixed g.ty g.prims (by rw [g.funs]; exact funsAll)
theorem good0 : Good C0 := ⟨rfl, rfl, rfl, fun _ _ hφ _ _ h _ _ _ _ hB hl => primFns0 C0 hφ h hB hl⟩
theorem isTrue2_some {x : Option (AV × St)} (h : isTrue2 x = true) : ∃ st, x = some (.bool true, st) := by
 unfold isTrue2 at h
 split at h
 ·rename_i b st
  subst h
  exact ⟨st, rfl⟩
 ·cases h
theorem calls_of_fn {f : FuncId} {args : Array Value} {w : World} {R : Value → World → Prop} {fn : Func} {c : Code} (hf : Tryz.prog.funcs[f]? = some fn) (hn : (fn.name == "runtime.NumGoroutine") = false) (hb : fn.body = some c)
  (h : FnOk Tryz.prog f args w R) : ∀ {o : Oper} {a : Act} {next : Act → World → Prop} {Q : Exit → Act → World → Prop}, (∀ v w', R v w' → next (a.put o.dst v) w') → Calls Tryz.prog f args w (fun
  | .returned v, w'' => next (a.put o.dst v) w''
  | .panicked chain, w'' => Q (.panic chain) a w''
  | .outgrown, _ => LetsOut Q) := fun {o a next Q} hx => by
 have := h o a next Q hx
 rw [run_enter hf hn hb args w, Oper.upon_enter] at this
 exact this
theorem trueCalls {D : Ctx} (g : Good D) {f : FuncId} {fn : Func} {c : Code} (hf : FnRow Tryz.prog f fn) (hb : fn.body = some c) {n : Nat} (hr : isTrue2 (runK D n f []) = true) (w : World)
  (hg : ∀ k cs, D.globs k = some cs → VR D w (fun _ => False) (fun _ => False) (fun _ => none) (.pdat false cs) (.pointer (some ⟨k, 0, none⟩))) : Calls Tryz.prog f #[] w fun e w' => e = .returned (.bool true) ∧ Below w.heap.size w w' := by
 obtain ⟨st, h⟩ := isTrue2_some hr
 have h1 := run_sound g.ty g.prims g.fns g.draws (runK_sound h) (w := w) (B := fun _ => False) (cargs := []) hg (fun _ h => h.elim) ⟨rfl, fun j h => by cases h⟩
 have h2 : FnOk Tryz.prog f #[] w fun cv w' => cv = .bool true ∧ Below w.heap.size w w' := h1.mono fun cv w' ⟨O', M', hv, hx, _⟩ => by
  cases hv
  exact ⟨rfl, hx.os, hx.tape, hx.output, hx.size, fun k hk => hx.keep k hk (fun h => h)⟩
 have := calls_of_fn (o := { op := .move (.const (.bool true)), dst := some 0, type := 4, pos := "", after := #[], guard := none }) (a := { tmps := #[undef], defers := [] }) (next := fun a w' => a.tmps[0]? = some (.bool true) ∧ Below w.heap.size w w') (Q := fun _ _ _ => False) hf.1 hf.2.1 hb h2 (fun v w' ⟨h1, h2⟩ => by subst h1; exact ⟨rfl, h2⟩)
 refine this.mono fun e w' h => ?_
 cases e with
 | returned v =>
  obtain ⟨h1, h2⟩ := h
  refine ⟨?_, h2⟩
  have : (some v : Option Value) = some (.bool true) := h1
  cases this
  rfl
 | panicked c => exact h.elim
 | outgrown => obtain ⟨_, _, h⟩ := h; exact h.elim
end Go.Proofs.Wc
namespace Go.Proofs.Wc
open Go Go.Ev Go.Proofs
set_option maxRecDepth 100000
set_option maxHeartbeats 0
def listTbl : List (List AV × AV) := [([.pdat true [.mdat true [.str [114, 47, 105, 110, 118, 101, 110, 116, 111, 114, 121], .str [114, 47, 119, 111, 114, 107], .str [114, 47, 112, 114, 105, 115, 116, 105, 110, 101]] [.agg [.str [0]], .agg [.str [2, 9, 3, 1, 120, 1, 102, 3, 1, 1, 97, 1, 0]], .agg [.str [0]]] [1, 2, 3] 4, .snil, .snil, .int .i64 (10000), .int .i64 (8), .bool false], .str [114]], .sdat false 1 [.str [114, 47, 105, 110, 118, 101, 110, 116, 111, 114, 121], .str [114, 47, 112, 114, 105, 115, 116, 105, 110, 101], .str [114, 47, 119, 111, 114, 107]] none)]
theorem listTbl_ok : listTbl.all (memoChkA C0 1000 26) = true := by kernel_rfl
noncomputable def C1 : Ctx := { types, funs, prims := fun i => bif Nat.beq i 26 then some (memo listTbl) else C0.prims i, globs := fun _ => none, ext := exts }
theorem awakeS : isTrue2 (runK C1 1000 5 []) = true := by kernel_rfl
end Go.Proofs.Wc
namespace Go.Proofs.Wc
open Go Go.Ev Go.Proofs Go.RowKit
set_option maxRecDepth 100000
theorem memoGoodA {D D' : Ctx} (g : Good D) {n f : Nat} {tbl : List (List AV × AV)} (h : tbl.all (memoChkA D n f) = true) (p : PrimFns Tryz.prog D')
  (ht : D'.types = types) (hg : D'.globs = fun _ => none) (hDg : D.globs = fun _ => none) {E : Ctx} (hE : E.types = types) (hEg : E.globs = fun _ => none) (hEp : E.prims = fun i => bif Nat.beq i f then some (Go.Ev.memo tbl) else D'.prims i) : PrimFns Tryz.prog E := by
 intro g' φ hφ ds r hr w B cargs hgl hB hl
 have hφ2 : (bif Nat.beq g' f then some (Go.Ev.memo tbl) else D'.prims g') = some φ := by rw [hEp] at hφ; exact hφ
 clear hφ
 have hφ := hφ2
 clear hφ2
 cases h1 : Nat.beq g' f with
 | true =>
  rw [h1] at hφ
  simp only [cond_true, Option.some.injEq] at hφ
  obtain rfl := (beq_iff _ _).1 h1
  subst hφ
  exact memo_primA (C0 := D) (hE.trans g.types.symm) (hEg.trans hDg.symm) g.ty g.prims g.fns g.draws h hr hgl hB hl
 | false =>
  rw [h1] at hφ
  simp only [cond_false] at hφ
  refine (p g' φ hφ ds r hr w B cargs (fun k cs hk => ?_) hB ⟨hl.len, fun j a b => (hl.rel j a b).ctx (hE.trans ht.symm)⟩).mono fun cv w' ⟨h2, h3⟩ => ⟨h2.ctx (ht.trans hE.symm), h3⟩
  rw [hg] at hk; cases hk
theorem good1 : Good C1 := ⟨rfl, rfl, rfl, memoGoodA (D := C0) (D' := C0) good0 listTbl_ok good0.prim rfl rfl rfl rfl rfl rfl⟩
theorem awakeS_calls (w : World) : Calls Tryz.prog 5 #[] w fun e w' => e = .returned (.bool true) ∧ Below w.heap.size w w' :=
 trueCalls good1 fr5 rfl awakeS w (fun k cs h => by cases h)
end Go.Proofs.Wc
