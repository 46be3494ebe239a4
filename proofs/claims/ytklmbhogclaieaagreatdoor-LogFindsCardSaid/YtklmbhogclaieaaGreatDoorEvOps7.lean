/- A PART OF THE PROOF THAT ONE CALL OF A LAW OF LAYER 46 (which of any patches have a line with any word) returns true, whatever the input; the input reads as it did. No condition beyond the given statement. This part: EvOps7. -/
import Derived.Test.YtklmbhogclaieaaGreatDoorEvOps6
import Derived.Laws.RangeString
namespace Go.Ev
open Go

section
variable {P : Program} {C : Ctx} {w : World} {O B : Nat → Prop} {M : MapB} {H : Heap}

theorem dat_cells {t : Bool} {v : AV} (h : dat t v = true) : datL t v.cells = true := by
  cases v <;> simp_all [AV.cells, datL, dat]

theorem mIndexAddr_sound (hT : TyOk P C) {t : TypeId} {x ix v : AV} {cx ci : Value} (hx : VR C w O B M x cx) (hix : VR C w O B M ix ci) (h : mIndexAddr C t x ix = some v) :
    ∃ cv, (Instr.indexAt t cx ci).run P w = .ok cv w ∧ VR C w O B M v cv := by
  unfold mIndexAddr at h
  simp only [Option.bind_eq_some_iff] at h
  obtain ⟨d, hd, h⟩ := h
  have hu := hT.under hd
  split at h
  · rename_i e
    simp only [Option.bind_eq_some_iff] at h
    obtain ⟨sz, hsz, h⟩ := h
    obtain ⟨i2, hi2, hi3⟩ := size_some hsz
    have hie := (hT.ty e i2 hi2).2
    split at h
    · rename_i b off len cap
      simp only [Option.bind_eq_some_iff, Option.some.injEq] at h
      obtain ⟨i, hi, _, hch, rfl⟩ := h
      have hch := chk_some hch
      simp only [Bool.and_eq_true, Nat.blt_eq] at hch
      obtain ⟨k, rfl, _⟩ := asNat_sound hix hi
      obtain ⟨cb, base, c, e1, i1, cc, fz, rfl, hM, _⟩ := hx.sref_inv
      have h2 : ((i : Int) < (len : Int)) := by exact_mod_cast hch.1
      refine ⟨.pointer (some ⟨cb, base + (off + i * sz), none⟩), ?_, .pref _ _ _ _ hM⟩
      simp [Instr.indexAt, asIntOf, run_underlying hu, hch.1, run_sizeOf hie, hi3, add_lit, Nat.add_assoc]
    · rename_i tg z xs cap
      simp only [Option.bind_eq_some_iff, Option.some.injEq] at h
      obtain ⟨_, hch, i, hi, v', hg, rfl⟩ := h
      have hch := chk_some hch
      simp only [Bool.and_eq_true, Nat.blt_eq, beq_iff] at hch
      obtain ⟨rfl, hpos⟩ := hch
      obtain ⟨k, rfl, _⟩ := asNat_sound hix hi
      obtain ⟨h1, h2⟩ := getL_some hg
      subst h2
      cases hx with
      | sdat _ _ _ _ blk o c vs hlt hO hB hc hlen hcap hsz' hcell hic hv =>
        have hne : xs ≠ [] := fun e => by subst e; simp at h1
        have h3 : ((i : Int) < (xs.length : Int)) := by exact_mod_cast h1
        refine ⟨.pointer (some ⟨blk, o + i * z, none⟩), ?_, .pdat tg _ blk (o + i * z) (fun j => vs i j) (hlt hne) (hO hne) (hB hne) (dat_cells (datL_get h1 hc)) (fun j hj => ?_) (fun j hj => hic i h1 j hj) (fun j hj => hv i h1 j hj)⟩
        · simp [Instr.indexAt, asIntOf, run_underlying hu, h1, run_sizeOf hie, hi3, add_lit]
        · exact hcell i j h1 (by rw [← hsz' i h1]; exact hj)
    · cases h
  · rename_i n e
    simp only [Option.bind_eq_some_iff] at h
    obtain ⟨sz, hsz, i, hi, _, hch, h⟩ := h
    obtain ⟨i2, hi2, hi3⟩ := size_some hsz
    have hie := (hT.ty e i2 hi2).2
    have hch := chk_some hch
    simp only [Bool.and_eq_true, Nat.blt_eq] at hch
    obtain ⟨k, rfl, _⟩ := asNat_sound hix hi
    have h3 : ((i : Int) < (n : Int)) := by exact_mod_cast hch.1
    split at h
    · rename_i b off
      obtain rfl := Option.some.inj h
      cases hx with
      | pref _ _ cb base hM =>
        refine ⟨.pointer (some ⟨cb, base + (off + i * sz), none⟩), ?_, .pref _ _ _ _ hM⟩
        simp [Instr.indexAt, Instr.sureAddr, asIntOf, run_underlying hu, hch.1, run_sizeOf hie, hi3, add_lit, Nat.add_assoc]
    · rename_i tg cs
      simp only [Option.bind_eq_some_iff, Option.some.injEq] at h
      obtain ⟨_, hle, rfl⟩ := h
      obtain ⟨blk, o, vs, rfl, hcr, hat, hlt, hO, hB, hcl⟩ := hx.pdat_cells
      refine ⟨.pointer (some ⟨blk, o + i * sz, none⟩), ?_, .mk_pdat (hcr.drop _) (hat.drop _) hlt hO hB (datL_drop _ hcl)⟩
      simp [Instr.indexAt, Instr.sureAddr, asIntOf, run_underlying hu, hch.1, run_sizeOf hie, hi3, add_lit]
    · cases h
  · cases h

theorem fields_some {t : TypeId} {fs : Array Field} (h : C.fields t = some fs) : C.desc t = some (.struct fs) := by
  unfold Ctx.fields at h
  split at h
  · rename_i fs' hh; obtain rfl := Option.some.inj h; exact hh
  · cases h

theorem fieldPlace_some {fs : Array Field} {f off sz : Nat} (h : fieldPlace C fs f = some (off, sz)) : ∃ fd i, fs[f]? = some fd ∧ C.ti fd.type = some i ∧ fd.offset = off ∧ i.info.size = sz := by
  unfold fieldPlace at h
  simp only [Option.bind_eq_some_iff, Option.some.injEq, Prod.mk.injEq] at h
  obtain ⟨fd, h1, s, h2, h3, h4⟩ := h
  obtain ⟨i, h5, h6⟩ := size_some h2
  exact ⟨fd, i, h1, h5, h3, h6.trans h4⟩

theorem mFieldAddr_sound (hT : TyOk P C) {s : TypeId} {x v : AV} {f : Nat} {cx : Value} (hx : VR C w O B M x cx) (h : mFieldAddr C s x f = some v) :
    ∃ cv, (Instr.fieldAt s cx f).run P w = .ok cv w ∧ VR C w O B M v cv := by
  unfold mFieldAddr at h
  simp only [Option.bind_eq_some_iff] at h
  obtain ⟨fs, hfs, ⟨off, sz⟩, hp, _, hch, h⟩ := h
  have hu := hT.under (fields_some hfs)
  obtain ⟨fd, i, hf, hi, ho, hs⟩ := fieldPlace_some hp
  have hie := (hT.ty _ i hi).2
  have hpos : 0 < sz := by simpa using chk_some hch
  have hne : ¬ (i.info.size = 0) := by omega
  split at h
  · rename_i b o
    obtain rfl := Option.some.inj h
    cases hx with
    | pref _ _ cb base hM =>
      refine ⟨.pointer (some ⟨cb, base + (o + off), none⟩), ?_, .pref _ _ _ _ hM⟩
      simp [Instr.fieldAt, Go.fieldPlace, Instr.sureAddr, run_underlying hu, hf, run_sizeOf hie, hne, add_lit, ho, Nat.add_assoc]
  · rename_i tg cs
    simp only [Option.bind_eq_some_iff, Option.some.injEq] at h
    obtain ⟨_, hle, rfl⟩ := h
    obtain ⟨blk, o, vs, rfl, hcr, hat, hlt, hO, hB, hcl⟩ := hx.pdat_cells
    refine ⟨.pointer (some ⟨blk, o + off, none⟩), ?_, .mk_pdat (hcr.drop _) (hat.drop _) hlt hO hB (datL_drop _ hcl)⟩
    simp [Instr.fieldAt, Go.fieldPlace, Instr.sureAddr, run_underlying hu, hf, run_sizeOf hie, hne, add_lit, ho]
  · cases h

/-- a part of an aggregate -/
theorem part_sound (hT : TyOk P C) {t : TypeId} {i : TI} (hi : C.ti t = some i) {cs : List AV} {vs : List Value} (hc : CR C w O B M cs vs) {off : Nat} {v : AV} (h : readAt i (cs.drop off) = some v) :
    ∃ cv, (part t vs.toArray off).run P w = .ok cv w ∧ VR C w O B M v cv := by
  obtain ⟨h1, h2⟩ := hT.ty t i hi
  rcases readAt_sound (hc.drop off) h with ⟨ha, hle, hv, _⟩ | ⟨ha, hlt, hv, _⟩
  · refine ⟨.agg ((vs.drop off).take i.info.size).toArray, ?_, hv⟩
    simp only [part, Sem.run_bind, run_isAgg h1, Result.andThen_ok, ha, if_true, run_sizeOf h2, Sem.run_pure]
    congr 2
    apply Array.ext'
    simp [List.extract_eq_take_drop]
  · have h3 : vs.toArray[off]? = some (vs.drop off)[0] := by simp at hlt ⊢
    refine ⟨(vs.drop off)[0], ?_, hv⟩
    simp only [part, Sem.run_bind, run_isAgg h1, Result.andThen_ok, ha, h3]
    rfl

theorem VR.agg_cells {cs : List AV} {cv : Value} (h : VR C w O B M (.agg cs) cv) : ∃ vs : List Value, cv = .agg vs.toArray ∧ CR C w O B M cs vs := by
  cases h with
  | agg _ vs hl hic hv => exact ⟨vs, rfl, hl, hic, hv⟩

theorem mField_sound (hT : TyOk P C) {s : TypeId} {x v : AV} {f : Nat} {cx : Value} (hx : VR C w O B M x cx) (h : mField C s x f = some v) :
    ∃ cv, (Instr.field s cx f).run P w = .ok cv w ∧ VR C w O B M v cv := by
  unfold mField at h
  simp only [Option.bind_eq_some_iff] at h
  obtain ⟨fs, hfs, fd, hf, i, hi, h⟩ := h
  have hu := hT.under (fields_some hfs)
  split at h
  · rename_i cs
    obtain ⟨vs, rfl, hc⟩ := hx.agg_cells
    obtain ⟨cv, hr, hv⟩ := part_sound hT hi hc h
    exact ⟨cv, by simp [Instr.field, run_underlying hu, hf, asAgg, hr], hv⟩
  · cases h

theorem mIndex_sound (hT : TyOk P C) {t : TypeId} {x ix v : AV} {cx ci : Value} (hx : VR C w O B M x cx) (hix : VR C w O B M ix ci) (h : mIndex C t x ix = some v) :
    ∃ cv, (Instr.index t cx ci).run P w = .ok cv w ∧ VR C w O B M v cv := by
  unfold mIndex at h
  simp only [Option.bind_eq_some_iff] at h
  obtain ⟨d, hd, h⟩ := h
  have hu := hT.under hd
  split at h
  · rename_i s
    simp only [Option.bind_eq_some_iff, Option.some.injEq] at h
    obtain ⟨i, hi, c, hc, rfl⟩ := h
    obtain ⟨k, rfl, _⟩ := asNat_sound hix hi
    obtain ⟨h1, rfl⟩ := getL_some hc
    cases hx with
    | str _ bs hb =>
      subst hb
      have h2 : bs[i]? = some (bs.data.toList[i]) := by
        simp at h1
        simp [h1]
        rfl
      exact ⟨_, by simp [Instr.index, asIntOf, run_underlying hu, h2], .int _ _⟩
  · rename_i n e cs
    simp only [Option.bind_eq_some_iff] at h
    obtain ⟨ei, hei, i, hi, _, hch, h⟩ := h
    obtain ⟨k, rfl, _⟩ := asNat_sound hix hi
    have hlt : i < n := by simpa using chk_some hch
    have h3 : ((i : Int) < (n : Int)) := by exact_mod_cast hlt
    obtain ⟨vs, rfl, hc⟩ := hx.agg_cells
    obtain ⟨cv, hr, hv⟩ := part_sound hT hei hc h
    exact ⟨cv, by simp [Instr.index, asIntOf, run_underlying hu, hlt, run_sizeOf (hT.ty e ei hei).2, hr], hv⟩
  · cases h

end
end Go.Ev
