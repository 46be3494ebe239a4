/- A PART OF THE PROOF THAT ONE CALL OF A LAW OF LAYER 46 (which of any patches have a line with any word) returns true, whatever the input; the input reads as it did. No condition beyond the given statement. This part: EvMemo. -/
import Derived.Test.YtklmbhogclaieaaGreatDoorEvK2
import Derived.Test.YtklmbhogclaieaaGreatDoorEvCtx
namespace Go.Ev
open Go

/-! ### What was found once is looked up -/
theorem VR.ctx {C C0 : Ctx} (ht : C.types = C0.types) {w : World} {O B : Nat → Prop} {M : MapB} {v : AV} {cv : Value} (h : VR C w O B M v cv) : VR C0 w O B M v cv := by
  have hti : ∀ e, C0.ti e = C.ti e := fun e => by unfold Ctx.ti; rw [ht]
  induction h with
  | bool b => exact .bool b
  | int k n => exact .int k n
  | flt k n => exact .flt k n
  | str s bs h => exact .str s bs h
  | pnil => exact .pnil
  | snil => exact .snil
  | mnil => exact .mnil
  | fnil => exact .fnil
  | inil => exact .inil
  | pref b off cb base hM => exact .pref b off cb base hM
  | pdat t cs blk o vs hlt hO hB hc hcell hic hv ih => exact .pdat t cs blk o vs hlt hO hB hc hcell hic ih
  | sref b off len cap cb base c e i cc fz hM hblk hi hlen hfit hcap hfull => exact .sref b off len cap cb base c e i cc fz hM hblk (by rw [hti]; exact hi) hlen hfit hcap hfull
  | sdat t sz xs cap blk o c vs hlt hO hB hc hlen hcap hsz hcell hic hv ih => exact .sdat t sz xs cap blk o c vs hlt hO hB hc hlen hcap hsz hcell hic ih
  | mref b cb hM => exact .mref b cb hM
  | mdat t ks us bs ck blk es hlt hO hB hck hcu hblk hlk hlu hlb hb hk hu ihk ihu => exact .mdat t ks us bs ck blk es hlt hO hB hck hcu hblk hlk hlu hlb hb ihk ihu
  | bnd f first vs hl hv ih => exact .bnd f first vs hl ih
  | clo f cap vs hl hv ih => exact .clo f cap vs hl ih
  | ifc t v cv h ih => exact .ifc t v cv ih
  | agg cs vs hl hic hv ih => exact .agg cs vs hl hic ih
  | tup cs vs hl hv ih => exact .tup cs vs hl ih

def memo : List (List AV × AV) → List AV → Option AV
  | [], _ => none
  | p :: r, ds => bif avEqL p.1 ds then some p.2 else memo r ds

theorem memo_some : ∀ {tbl : List (List AV × AV)} {ds : List AV} {r : AV}, memo tbl ds = some r → (ds, r) ∈ tbl
  | [], _, _, h => by cases h
  | p :: tbl, ds, r, h => by
    unfold memo at h
    cases he : avEqL p.1 ds with
    | true =>
      rw [he] at h
      have h2 : p.2 = r := Option.some.inj h
      have h1 : p.1 = ds := avEqL_eq he
      rw [← h1, ← h2]
      exact List.mem_cons_self ..
    | false =>
      rw [he] at h
      exact List.mem_cons_of_mem _ (memo_some h)

noncomputable def memoChk (C : Ctx) (n : Nat) (f : FuncId) (p : List AV × AV) : Bool :=
  datL true p.1 && match runK C n f p.1 with
  | some (v, st) => match freezeL C st.heap false deep [v] with
    | some [r] => avEq r p.2
    | _ => false
  | none => false

section
variable {P : Program} {C C0 : Ctx}

theorem memo_prim (ht : C.types = C0.types) (hgl : C.globs = C0.globs) (hT : TyOk P C0) (hp : PrimsOk P C0) (hF : FnsOk P C0) (hD : ∀ f fn body, C0.funs.get f = some fn → fn.body = some body → Draws P C0 body) {n : Nat} {f : FuncId} {tbl : List (List AV × AV)} (h : tbl.all (memoChk C0 n f) = true)
    {ds : List AV} {r : AV} (hm : memo tbl ds = some r) {w : World} {B : Nat → Prop} {cargs : List Value} (hg : ∀ g cs, C.globs g = some cs → VR C w (fun _ => False) B (fun _ => none) (.pdat false cs) (.pointer (some ⟨g, 0, none⟩))) (hB : ∀ b, B b → b < w.heap.size)
    (ha : LR C w (fun _ => False) B (fun _ => none) ds cargs) :
    FnOk P f cargs.toArray w fun cv w' => VR C w' (fun _ => False) B (fun _ => none) r cv ∧ Ext w (fun _ => False) (fun _ => none) w' (fun _ => False) (fun _ => none) := by
  have hc := List.all_eq_true.1 h _ (memo_some hm)
  unfold memoChk at hc
  simp only [Bool.and_eq_true] at hc
  obtain ⟨hd, hc⟩ := hc
  split at hc
  · rename_i v st hr
    split at hc
    · rename_i r' hf
      have := avEq_eq hc
      subst this
      have hg0 : ∀ g cs, C0.globs g = some cs → VR C0 w (fun _ => False) B (fun _ => none) (.pdat false cs) (.pointer (some ⟨g, 0, none⟩)) := fun g cs hgc => (hg g cs (by rw [hgl]; exact hgc)).ctx ht
      refine (run_sound hT hp hF hD (runK_sound hr) hg0 hB ⟨ha.len, fun j h1 h2 => (ha.rel j h1 h2).ctx ht⟩).mono fun cv w' ⟨O', M', h1, h2, h3⟩ => ?_
      have hTg : Tgt false O' B M' st.heap (fun _ => False) B := ⟨fun _ h => h.elim, fun h => (by cases h), fun _ h => .inr h, fun b blk cb base hb hM => ⟨fun h => h, fun _ => by
        obtain ⟨cb', base', hM', hO', _⟩ := h3.own b blk hb
        rw [hM] at hM'
        obtain ⟨rfl, rfl⟩ := Prod.mk.inj (Option.some.inj hM')
        exact h3.sep cb hO'⟩⟩
      obtain ⟨hl, _, _⟩ := freezeL_sound (M2 := fun _ => none) hTg (.of h3) deep (l := [v]) (vs := [cv]) ⟨rfl, fun j a b => by
        have : j = 0 := by simp at a; exact a
        subst this; exact h1⟩ hf
      have hv := hl.rel 0 (by simp) (by simp)
      simp only [List.getElem_cons_zero] at hv
      exact ⟨hv.ctx ht.symm, ⟨h2.os, h2.tape, h2.output, h2.size, h2.keep, h2.shp, fun _ h => h.elim, fun _ _ h => by cases h⟩⟩
    · cases hc
  · cases hc

end
end Go.Ev
