/- A PART OF THE PROOF THAT SAVETEXTS HOLDS FOR EVERY INPUT OF BULK AT MOST 1048576. No condition beyond the given statement. This part: EvMemo. -/
import Derived.Test.YtciahohaonhdgaaGreatDoorEvK
import Derived.Test.YtciahohaonhdgaaGreatDoorEvCtx
namespace Go.Ev
open Go
theorem VR.ctx {C C0 : Ctx} (ht : C.types = C0.types) {w : World} {O B : Nat → Prop} {M : MapB} {v : AV} {cv : Value} (h : VR C w O B M v cv) : VR C0 w O B M v cv := by
 have hti : ∀ e, C0.ti e = C.ti e := fun e => by unfold Ctx.ti; rw [ht]
 induction h with
 | bool b => exact .bool b
 | int k n => exact .int k n
 | flt k n => exact .flt k n
 | str s bs h => exact .str s bs h
 | pnil => exact .pnil
 | snil => exact .snil
 | mnil => exact .mnil
 | fnil => exact .fnil
 | inil => exact .inil
 | pref b off cb base hM => exact .pref b off cb base hM
 | pdat t cs blk o vs hlt hO hB hc hcell hic hv ih => exact .pdat t cs blk o vs hlt hO hB hc hcell hic ih
 | sref b off len cap cb base c e i cc fz hM hblk hi hlen hfit hcap hfull => exact .sref b off len cap cb base c e i cc fz hM hblk (by rw [hti]; exact hi) hlen hfit hcap hfull
 | sdat t sz xs cap blk o c vs hlt hO hB hc hlen hcap hsz hcell hic hv ih => exact .sdat t sz xs cap blk o c vs hlt hO hB hc hlen hcap hsz hcell hic ih
 | mref b cb hM => exact .mref b cb hM
 | mdat t ks us bs ck blk es hlt hO hB hck hcu hblk hlk hlu hlb hb hk hu ihk ihu => exact .mdat t ks us bs ck blk es hlt hO hB hck hcu hblk hlk hlu hlb hb ihk ihu
 | bnd f first vs hl hv ih => exact .bnd f first vs hl ih
 | clo f cap vs hl hv ih => exact .clo f cap vs hl ih
 | ifc t v cv h ih => exact .ifc t v cv ih
 | agg cs vs hl hic hv ih => exact .agg cs vs hl hic ih
 | tup cs vs hl hv ih => exact .tup cs vs hl ih
def memo : List (List AV × AV) → List AV → Option AV
 | [], _ => none
 | p :: r, ds => bif avEqL p.1 ds then some p.2 else memo r ds
theorem memo_some : ∀ {tbl : List (List AV × AV)} {ds : List AV} {r : AV}, memo tbl ds = some r → (ds, r) ∈ tbl
 | [], _, _, h => by cases h
 | p :: tbl, ds, r, h => by
  unfold memo at h
  cases he : avEqL p.1 ds with
  | true =>
   rw [he] at h
   have h2 : p.2 = r := Option.some.inj h
   have h1 : p.1 = ds := avEqL_eq he
   rw [← h1, ← h2]
   exact List.mem_cons_self ..
  | false =>
   rw [he] at h
   exact List.mem_cons_of_mem _ (memo_some h)
section
variable {P : Program} {C C0 : Ctx}
end
end Go.Ev
