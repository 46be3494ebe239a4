/- A PART OF THE PROOF THAT ONE CALL OF A LAW OF LAYER 46 (which of any patches have a line with any word) returns true, whatever the input; the input reads as it did. No condition beyond the given statement. This part: EvRel. -/
import Derived.Test.YtklmbhogclaieaaGreatDoorEvCore
import Derived.Orders
import Derived.Below
namespace Go.Ev
open Go

abbrev MapB := Nat → Option (Nat × Nat)

theorem datL_get {t : Bool} : ∀ {l : List AV} {j : Nat} (h : j < l.length), datL t l = true → dat t l[j] = true
  | v :: r, 0, _, hc => by simp only [datL, Bool.and_eq_true] at hc; exact hc.1
  | v :: r, j + 1, h, hc => by
    simp only [datL, Bool.and_eq_true] at hc
    simp only [List.getElem_cons_succ]
    exact datL_get (by simpa using h) hc.2

theorem datL_of {t : Bool} : ∀ {l : List AV}, (∀ v ∈ l, dat t v = true) → datL t l = true
  | [], _ => rfl
  | v :: r, h => by
    simp only [datL, Bool.and_eq_true]
    exact ⟨h v (by simp), datL_of fun u hu => h u (by simp [hu])⟩

/-- WHAT AN ABSTRACT VALUE STANDS FOR: O: the blocks that this activation owns; B: those that its callers own; M: where the blocks lie. -/
inductive VR (C : Ctx) (w : World) (O B : Nat → Prop) (M : MapB) : AV → Value → Prop
  | bool (b : Bool) : VR C w O B M (.bool b) (.bool b)
  | int (k : IntKind) (n : Int) : VR C w O B M (.int k n) (.int k n)
  | flt (k : FloatKind) (n : Nat) : VR C w O B M (.flt k n) (.float k n)
  | str (s : List UInt8) (bs : ByteArray) (h : bs.data.toList = s) : VR C w O B M (.str s) (.string bs)
  | pnil : VR C w O B M .pnil (.pointer none)
  | snil : VR C w O B M .snil (.slice none 0 0)
  | mnil : VR C w O B M .mnil (.map none)
  | fnil : VR C w O B M .fnil .nilFunc
  | inil : VR C w O B M .inil .nilIface
  | pref (b off cb base : Nat) (hM : M b = some (cb, base)) : VR C w O B M (.pref b off) (.pointer (some ⟨cb, base + off, none⟩))
  | pdat (t : Bool) (cs : List AV) (blk o : Nat) (vs : Nat → Value) (hlt : blk < w.heap.size) (hO : ¬ O blk) (hB : t = false → ¬ B blk)
      (hc : datL t cs = true) (hcell : ∀ j, j < cs.length → w.cell? ⟨blk, o + j, none⟩ = some (vs j))
      (hic : ∀ j (h : j < cs.length), cs[j].isCell = true)
      (hv : ∀ j (h : j < cs.length), VR C w O B M cs[j] (vs j)) : VR C w O B M (.pdat t cs) (.pointer (some ⟨blk, o, none⟩))
  | sref (b off len : Nat) (cap : Option Nat) (cb base c : Nat) (e : TypeId) (i : TI) (cc : Array Value) (fz : Nat × Nat)
      (hM : M b = some (cb, base)) (hblk : w.heap[cb]? = some (.cells cc e fz)) (hi : C.ti e = some i) (hlen : len ≤ c)
      (hfit : base + off + c * i.info.size ≤ cc.size) (hcap : ∀ k, cap = some k → c = k) (hfull : cap = none → base + off + c * i.info.size = cc.size) :
      VR C w O B M (.sref b off len cap) (.slice (some ⟨cb, base + off, none⟩) len c)
  | sdat (t : Bool) (sz : Nat) (xs : List AV) (cap : Option Nat) (blk o c : Nat) (vs : Nat → Nat → Value) (hlt : xs ≠ [] → blk < w.heap.size) (hO : xs ≠ [] → ¬ O blk)
      (hB : xs ≠ [] → t = false → ¬ B blk) (hc : datL t xs = true) (hlen : xs.length ≤ c) (hcap : ∀ k, cap = some k → c = k)
      (hsz : ∀ i (h : i < xs.length), xs[i].cells.length = sz)
      (hcell : ∀ i j, i < xs.length → j < sz → w.cell? ⟨blk, o + i * sz + j, none⟩ = some (vs i j))
      (hic : ∀ i (h : i < xs.length) j (h' : j < xs[i].cells.length), (xs[i].cells[j]).isCell = true)
      (hv : ∀ i (h : i < xs.length) j (h' : j < xs[i].cells.length), VR C w O B M (xs[i].cells[j]) (vs i j)) :
      VR C w O B M (.sdat t sz xs cap) (.slice (some ⟨blk, o, none⟩) xs.length c)
  | mref (b cb : Nat) (hM : M b = some (cb, 0)) : VR C w O B M (.mref b) (.map (some cb))
  | mdat (t : Bool) (ks us : List AV) (bs : List Nat) (ck : Nat) (blk : Nat) (es : Array MapEntry) (hlt : blk < w.heap.size) (hO : ¬ O blk) (hB : t = false → ¬ B blk) (hck : datL t ks = true) (hcu : datL t us = true)
      (hblk : w.heap[blk]? = some (.map es ck)) (hlk : ks.length = es.size) (hlu : us.length = es.size) (hlb : bs.length = es.size)
      (hb : ∀ j (h : j < es.size) (h' : j < bs.length), es[j].born = bs[j])
      (hk : ∀ j (h : j < es.size) (h' : j < ks.length), VR C w O B M ks[j] es[j].key)
      (hu : ∀ j (h : j < es.size) (h' : j < us.length), VR C w O B M us[j] es[j].val) : VR C w O B M (.mdat t ks us bs ck) (.map (some blk))
  | bnd (f : FuncId) (first : List AV) (vs : List Value) (hl : vs.length = first.length) (hv : ∀ j (h : j < first.length) (h' : j < vs.length), VR C w O B M first[j] vs[j]) :
      VR C w O B M (.bnd f first) (.func (.func f) vs.toArray #[])
  | clo (f : FuncId) (cap : List AV) (vs : List Value) (hl : vs.length = cap.length) (hv : ∀ j (h : j < cap.length) (h' : j < vs.length), VR C w O B M cap[j] vs[j]) :
      VR C w O B M (.clo f cap) (.func (.func f) #[] vs.toArray)
  | ifc (t : TypeId) (v : AV) (cv : Value) (h : VR C w O B M v cv) : VR C w O B M (.ifc t v) (.iface t cv)
  | agg (cs : List AV) (vs : List Value) (hl : vs.length = cs.length) (hic : ∀ j (h : j < cs.length), cs[j].isCell = true)
      (hv : ∀ j (h : j < cs.length) (h' : j < vs.length), VR C w O B M cs[j] vs[j]) : VR C w O B M (.agg cs) (.agg vs.toArray)
  | tup (cs : List AV) (vs : List Value) (hl : vs.length = cs.length)
      (hv : ∀ j (h : j < cs.length) (h' : j < vs.length), VR C w O B M cs[j] vs[j]) : VR C w O B M (.tup cs) (.tuple vs.toArray)

/-- no cell of a row stands still; a row of bytes may be marked behind its end -/
def FzOk (C : Ctx) (e : TypeId) (fz : Nat × Nat) (n : Nat) : Prop := fz.1 = fz.2 ∨ (n ≤ fz.1 ∧ C.desc e = some (.int .u8))

inductive BlkR (C : Ctx) (w : World) (O B : Nat → Prop) (M : MapB) (cb base : Nat) : Blk → Prop
  | cells (e : TypeId) (cs : List AV) (cc : Array Value) (fz : Nat × Nat) (hblk : w.heap[cb]? = some (.cells cc e fz)) (hfz : FzOk C e fz cc.size) (hfit : base + cs.length ≤ cc.size)
      (hic : ∀ j (h : j < cs.length), cs[j].isCell = true)
      (hv : ∀ j (h : j < cs.length) (h' : base + j < cc.size), VR C w O B M cs[j] cc[base + j]) : BlkR C w O B M cb base (.cells e cs)
  | siter (s : List UInt8) (pos : Nat) (bs : ByteArray) (h : bs.data.toList = s) (hb : base = 0) (hblk : w.heap[cb]? = some (.stringIter bs pos)) : BlkR C w O B M cb base (.siter s pos)
  | miter (m : Option Nat) (cm : Option Nat) (since : Nat) (seen : List Nat) (last : Nat) (hm : ∀ b, m = some b → ∃ c, cm = some c ∧ M b = some (c, 0)) (h0 : m = none → cm = none) (hb : base = 0)
      (hblk : w.heap[cb]? = some (.mapIter cm since seen.toArray last)) : BlkR C w O B M cb base (.miter m since seen last)
  | map (ks us : List AV) (bs : List Nat) (ck : Nat) (es : Array MapEntry) (hb0 : base = 0) (hblk : w.heap[cb]? = some (.map es ck)) (hlk : ks.length = es.size) (hlu : us.length = es.size) (hlb : bs.length = es.size)
      (hb : ∀ j (h : j < es.size) (h' : j < bs.length), es[j].born = bs[j])
      (hk : ∀ j (h : j < es.size) (h' : j < ks.length), VR C w O B M ks[j] es[j].key)
      (hu : ∀ j (h : j < es.size) (h' : j < us.length), VR C w O B M us[j] es[j].val) : BlkR C w O B M cb base (.map ks us bs ck)

/-- HOW IT STANDS: each block of the heap lies where M says, apart from all others. -/
structure Sit (C : Ctx) (w : World) (O B : Nat → Prop) (M : MapB) (H : Heap) : Prop where
  own : ∀ b blk, hget H b = some blk → ∃ cb base, M b = some (cb, base) ∧ O cb ∧ BlkR C w O B M cb base blk
  inj : ∀ b b' blk blk' cb base base', hget H b = some blk → hget H b' = some blk' → M b = some (cb, base) → M b' = some (cb, base') → b = b'
  glob : ∀ g cs, C.globs g = some cs → VR C w O B M (.pdat false cs) (.pointer (some ⟨g, 0, none⟩))
  sep : ∀ b, O b → ¬ B b
  bl : ∀ b, B b → b < w.heap.size

/-- WHAT A STEP LEAVES. -/
structure Ext (w : World) (O : Nat → Prop) (M : MapB) (w' : World) (O' : Nat → Prop) (M' : MapB) : Prop where
  os : w'.os = w.os
  tape : w'.tape = w.tape
  output : w'.output = w.output
  size : w.heap.size ≤ w'.heap.size
  keep : ∀ b, b < w.heap.size → ¬ O b → w'.heap[b]? = w.heap[b]?
  shp : ∀ (b : Nat) c e fz, w.heap[b]? = some (.cells c e fz) → ∃ c', w'.heap[b]? = some (.cells c' e fz) ∧ c'.size = c.size
  own : ∀ b, O' b → O b ∨ w.heap.size ≤ b
  sub : ∀ b x, M b = some x → M' b = some x

theorem Ext.refl (w : World) (O : Nat → Prop) (M : MapB) : Ext w O M w O M :=
  ⟨rfl, rfl, rfl, Nat.le_refl _, fun _ _ _ => rfl, fun _ c _ _ h => ⟨c, h, rfl⟩, fun _ h => .inl h, fun _ _ h => h⟩

theorem Ext.trans {w O M w' O' M' w'' O'' M''} (h : Ext w O M w' O' M') (k : Ext w' O' M' w'' O'' M'') : Ext w O M w'' O'' M'' where
  os := k.os.trans h.os
  tape := k.tape.trans h.tape
  output := k.output.trans h.output
  size := Nat.le_trans h.size k.size
  keep := fun b hb hO => (k.keep b (Nat.lt_of_lt_of_le hb h.size) (fun hO' => (h.own b hO').elim hO (fun hle => by omega))).trans (h.keep b hb hO)
  shp := fun b c e fz hc => by
    obtain ⟨c', h1, h2⟩ := h.shp b c e fz hc
    obtain ⟨c'', h3, h4⟩ := k.shp b c' e fz h1
    exact ⟨c'', h3, h4.trans h2⟩
  own := fun b hb => by
    rcases k.own b hb with h1 | h1
    · exact h.own b h1
    · exact .inr (Nat.le_trans h.size h1)
  sub := fun b x hx => k.sub b x (h.sub b x hx)

theorem Ext.sep {w O M w' O' M'} {B : Nat → Prop} (hx : Ext w O M w' O' M') (h1 : ∀ b, O b → ¬ B b) (h2 : ∀ b, B b → b < w.heap.size) : ∀ b, O' b → ¬ B b :=
  fun b hb hB => (hx.own b hb).elim (fun h => h1 b h hB) (fun hle => by have := h2 b hB; omega)

theorem Ext.bl {w O M w' O' M'} {B : Nat → Prop} (hx : Ext w O M w' O' M') (h2 : ∀ b, B b → b < w.heap.size) : ∀ b, B b → b < w'.heap.size :=
  fun b hB => Nat.lt_of_lt_of_le (h2 b hB) hx.size

theorem cell_of_block {w w' : World} {b : Nat} (h : w'.heap[b]? = w.heap[b]?) (o : Nat) : w'.cell? ⟨b, o, none⟩ = w.cell? ⟨b, o, none⟩ := by
  simp [World.cell?, h]

theorem Ext.notO {w O M w' O' M'} (h : Ext w O M w' O' M') {b : Nat} (hb : b < w.heap.size) (hO : ¬ O b) : ¬ O' b :=
  fun h' => (h.own b h').elim hO (fun hle => by omega)

/-- A value stays what it is. -/
theorem VR.mono {C w O B M w' O' M'} (h : Ext w O M w' O' M') {v : AV} {cv : Value} (hv : VR C w O B M v cv) : VR C w' O' B M' v cv := by
  induction hv with
  | bool b => exact .bool b
  | int k n => exact .int k n
  | flt k n => exact .flt k n
  | str s bs h => exact .str s bs h
  | pnil => exact .pnil
  | snil => exact .snil
  | mnil => exact .mnil
  | fnil => exact .fnil
  | inil => exact .inil
  | pref b off cb base hM => exact .pref b off cb base (h.sub _ _ hM)
  | pdat t cs blk o vs hlt hO hB hc hcell hic hv ih =>
    refine .pdat t cs blk o vs (Nat.lt_of_lt_of_le hlt h.size) (h.notO hlt hO) hB hc (fun j hj => ?_) hic ih
    rw [cell_of_block (h.keep blk hlt hO)]
    exact hcell j hj
  | sref b off len cap cb base c e i cc fz hM hblk hi hlen hfit hcap hfull =>
    obtain ⟨c', h1, h2⟩ := h.shp cb cc e fz hblk
    exact .sref b off len cap cb base c e i c' fz (h.sub _ _ hM) h1 hi hlen (by omega) hcap (fun hn => by have := hfull hn; omega)
  | sdat t sz xs cap blk o c vs hlt hO hB hc hlen hcap hsz hcell hic hv ih =>
    refine .sdat t sz xs cap blk o c vs (fun hx => Nat.lt_of_lt_of_le (hlt hx) h.size) (fun hx => h.notO (hlt hx) (hO hx)) hB hc hlen hcap hsz (fun i j hi hj => ?_) hic ih
    have hx : xs ≠ [] := fun e => by subst e; simp at hi
    rw [cell_of_block (h.keep blk (hlt hx) (hO hx))]
    exact hcell i j hi hj
  | mref b cb hM => exact .mref b cb (h.sub _ _ hM)
  | mdat t ks us bs ck blk es hlt hO hB hck hcu hblk hlk hlu hlb hb hk hu ihk ihu =>
    exact .mdat t ks us bs ck blk es (Nat.lt_of_lt_of_le hlt h.size) (h.notO hlt hO) hB hck hcu ((h.keep blk hlt hO).trans hblk) hlk hlu hlb hb ihk ihu
  | bnd f first vs hl hv ih => exact .bnd f first vs hl ih
  | clo f cap vs hl hv ih => exact .clo f cap vs hl ih
  | ifc t v cv hv ih => exact .ifc t v cv ih
  | agg cs vs hl hic hv ih => exact .agg cs vs hl hic ih
  | tup cs vs hl hv ih => exact .tup cs vs hl ih

end Go.Ev
