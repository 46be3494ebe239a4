/- A PART OF THE PROOF THAT SHOWS THAT EACH OF rafterlaw44.GateAsk AND rafterlaw44.GateAll RETURNS TRUE FOR EVERY INPUT. No condition beyond the given statement. This part: WPatch. -/
import Derived.Test.YtaaepmochmaheaaGreatDoorWHead
import Derived.ProofKit
import Derived.OpenShut
import Derived.Carry
import Derived.Deep.Slices
import Derived.Deep.Strs
namespace Go.Proofs.W
open Go Go.Proofs Go.RowKit
set_option maxRecDepth 1000000

structure Idv where
  p : ByteArray
  n : Int
instance : DecidableEq Idv := fun a b => if h : a.p = b.p ∧ a.n = b.n then isTrue (by cases a; cases b; obtain ⟨h1, h2⟩ := h; simp only at h1 h2; subst h1 h2; rfl) else isFalse (fun e => h (by subst e; exact ⟨rfl, rfl⟩))
instance : Inhabited Idv := ⟨⟨ByteArray.empty, 0⟩⟩

structure OpV where
  kind : Int
  self : Idv
  parent : Idv
  to : Idv
  name : ByteArray
  toName : ByteArray
  left : Idv
  right : Idv
  dels : List Idv
  da : Option Addr
  dc : Nat
  first : Int
  lines : List ByteArray
  la : Option Addr
  lc : Nat

structure PatchV where
  name : ByteArray
  deps : List ByteArray
  pa : Option Addr
  pc : Nat
  ops : List OpV
  oa : Option Addr
  oc : Nat

instance : Inhabited OpV := ⟨⟨0, default, default, default, ByteArray.empty, ByteArray.empty, default, default, [], none, 0, 0, [], none, 0⟩⟩
instance : Inhabited PatchV := ⟨⟨ByteArray.empty, [], none, 0, [], none, 0⟩⟩

def OpV.cells (o : OpV) : List Value := [.int .i64 o.kind, .string o.self.p, .int .i64 o.self.n, .string o.parent.p, .int .i64 o.parent.n, .string o.to.p, .int .i64 o.to.n, .string o.name, .string o.toName,
  .string o.left.p, .int .i64 o.left.n, .string o.right.p, .int .i64 o.right.n, .slice o.da o.dels.length o.dc, .int .i64 o.first, .slice o.la o.lines.length o.lc]
def PatchV.cells (p : PatchV) : List Value := [.string p.name, .slice p.pa p.deps.length p.pc, .slice p.oa p.ops.length p.oc]

/-- ids at a place -/
structure IdsAt (w : World) (b o : Nat) (xs : List Idv) : Prop where
  lt : b < w.heap.size
  cell : ∀ (j : Nat) (x : Idv), xs[j]? = some x → w.cell? ⟨b, o + j * 2, none⟩ = some (.string x.p) ∧ w.cell? ⟨b, o + j * 2 + 1, none⟩ = some (.int .i64 x.n)
def IdsH (w : World) (a : Option Addr) (xs : List Idv) : Prop := xs.length = 0 ∨ ∃ b o, a = some ⟨b, o, none⟩ ∧ IdsAt w b o xs

structure OpsAt (w : World) (b o : Nat) (xs : List OpV) : Prop where
  lt : b < w.heap.size
  cell : ∀ (j : Nat) (d : OpV), xs[j]? = some d → w.cell? ⟨b, o + j * 16, none⟩ = some (.int .i64 d.kind) ∧ w.cell? ⟨b, o + j * 16 + 1, none⟩ = some (.string d.self.p) ∧ w.cell? ⟨b, o + j * 16 + 2, none⟩ = some (.int .i64 d.self.n) ∧
    w.cell? ⟨b, o + j * 16 + 3, none⟩ = some (.string d.parent.p) ∧ w.cell? ⟨b, o + j * 16 + 4, none⟩ = some (.int .i64 d.parent.n) ∧ w.cell? ⟨b, o + j * 16 + 5, none⟩ = some (.string d.to.p) ∧ w.cell? ⟨b, o + j * 16 + 6, none⟩ = some (.int .i64 d.to.n) ∧
    w.cell? ⟨b, o + j * 16 + 7, none⟩ = some (.string d.name) ∧ w.cell? ⟨b, o + j * 16 + 8, none⟩ = some (.string d.toName) ∧ w.cell? ⟨b, o + j * 16 + 9, none⟩ = some (.string d.left.p) ∧ w.cell? ⟨b, o + j * 16 + 10, none⟩ = some (.int .i64 d.left.n) ∧
    w.cell? ⟨b, o + j * 16 + 11, none⟩ = some (.string d.right.p) ∧ w.cell? ⟨b, o + j * 16 + 12, none⟩ = some (.int .i64 d.right.n) ∧ w.cell? ⟨b, o + j * 16 + 13, none⟩ = some (.slice d.da d.dels.length d.dc) ∧
    w.cell? ⟨b, o + j * 16 + 14, none⟩ = some (.int .i64 d.first) ∧ w.cell? ⟨b, o + j * 16 + 15, none⟩ = some (.slice d.la d.lines.length d.lc)
  sub : ∀ (j : Nat) (d : OpV), xs[j]? = some d → IdsH w d.da d.dels ∧ TextsH w d.la d.lines ∧ d.dels.length < 9223372036854775808 ∧ d.lines.length < 9223372036854775808
def OpsH (w : World) (a : Option Addr) (xs : List OpV) : Prop := xs.length = 0 ∨ ∃ b o, a = some ⟨b, o, none⟩ ∧ OpsAt w b o xs

structure PatchesAt (w : World) (b o : Nat) (xs : List PatchV) : Prop where
  lt : b < w.heap.size
  cell : ∀ (j : Nat) (d : PatchV), xs[j]? = some d → w.cell? ⟨b, o + j * 3, none⟩ = some (.string d.name) ∧ w.cell? ⟨b, o + j * 3 + 1, none⟩ = some (.slice d.pa d.deps.length d.pc) ∧ w.cell? ⟨b, o + j * 3 + 2, none⟩ = some (.slice d.oa d.ops.length d.oc)
  sub : ∀ (j : Nat) (d : PatchV), xs[j]? = some d → TextsH w d.pa d.deps ∧ OpsH w d.oa d.ops ∧ d.deps.length < 9223372036854775808 ∧ d.ops.length < 9223372036854775808
def PatchesH (w : World) (a : Option Addr) (xs : List PatchV) : Prop := xs.length = 0 ∨ ∃ b o, a = some ⟨b, o, none⟩ ∧ PatchesAt w b o xs

theorem IdsAt.below {w w' : World} {b o : Nat} {xs : List Idv} (h : IdsAt w b o xs) (hb : Below w.heap.size w w') : IdsAt w' b o xs :=
  ⟨Nat.lt_of_lt_of_le h.lt hb.size, fun j d hd => by
    have hc : ∀ i, w'.cell? ⟨b, i, none⟩ = w.cell? ⟨b, i, none⟩ := fun i => World.cell?_of_block (hb.block b h.lt)
    simp only [hc]
    exact h.cell j d hd⟩
theorem IdsH.below {w w' : World} {a : Option Addr} {xs : List Idv} (h : IdsH w a xs) (hb : Below w.heap.size w w') : IdsH w' a xs := by
  rcases h with h | ⟨b, o, h1, h2⟩
  · exact .inl h
  · exact .inr ⟨b, o, h1, h2.below hb⟩
theorem OpsAt.below {w w' : World} {b o : Nat} {xs : List OpV} (h : OpsAt w b o xs) (hb : Below w.heap.size w w') : OpsAt w' b o xs :=
  ⟨Nat.lt_of_lt_of_le h.lt hb.size, fun j d hd => by
    have hc : ∀ i, w'.cell? ⟨b, i, none⟩ = w.cell? ⟨b, i, none⟩ := fun i => World.cell?_of_block (hb.block b h.lt)
    simp only [hc]
    exact h.cell j d hd, fun j d hd => by
    obtain ⟨h1, h2, h3⟩ := h.sub j d hd
    exact ⟨h1.below hb, h2.below hb, h3⟩⟩
theorem OpsH.below {w w' : World} {a : Option Addr} {xs : List OpV} (h : OpsH w a xs) (hb : Below w.heap.size w w') : OpsH w' a xs := by
  rcases h with h | ⟨b, o, h1, h2⟩
  · exact .inl h
  · exact .inr ⟨b, o, h1, h2.below hb⟩
theorem PatchesAt.below {w w' : World} {b o : Nat} {xs : List PatchV} (h : PatchesAt w b o xs) (hb : Below w.heap.size w w') : PatchesAt w' b o xs :=
  ⟨Nat.lt_of_lt_of_le h.lt hb.size, fun j d hd => by
    have hc : ∀ i, w'.cell? ⟨b, i, none⟩ = w.cell? ⟨b, i, none⟩ := fun i => World.cell?_of_block (hb.block b h.lt)
    simp only [hc]
    exact h.cell j d hd, fun j d hd => by
    obtain ⟨h1, h2, h3⟩ := h.sub j d hd
    exact ⟨h1.below hb, h2.below hb, h3⟩⟩
theorem PatchesH.below {w w' : World} {a : Option Addr} {xs : List PatchV} (h : PatchesH w a xs) (hb : Below w.heap.size w w') : PatchesH w' a xs := by
  rcases h with h | ⟨b, o, h1, h2⟩
  · exact .inl h
  · exact .inr ⟨b, o, h1, h2.below hb⟩
end Go.Proofs.W
namespace Go.Proofs.W
open Go Go.Proofs Go.RowKit Go.WideShapes Go.ChangeShapes Go.ChangeAt
set_option maxRecDepth 1000000

theorem some_of {α : Type} {xs : List α} {n i : Nat} (h : xs.length = n) (hi : i < n) : ∃ y, xs[i]? = some y := ⟨_, List.getElem?_eq_getElem (by omega)⟩

section
variable {H : Type} {enc : TypeId × Value → H} {W : World} {base : Nat} {spare : Nat → Bool} {held : Bool}

/-- a slice whose elements open -/
theorem openRows {α : Type} [Inhabited α] {t e : TypeId} {k : Nat} {fuel : Nat} {v : Value} {y : DataW H × List MemPlace} (cells : α → List Value) (R : α → Prop) (ht : Tryz.prog.underlying t = some (.slice e)) (hk : Tryz.prog.cellsOf e = k) (hk0 : 0 < k)
    (hel : ∀ (n : Nat) (cs : List Value) (z : DataW H × List MemPlace), DataW.trod enc Tryz.prog W base spare held n e cs = some z → ∃ d : α, cs = cells d ∧ R d)
    (hcl : ∀ d : α, (cells d).length = k)
    (h : DataW.trod enc Tryz.prog W base spare held fuel t [v] = some y) :
    ∃ (a : Option Addr) (c : Nat) (xs : List α), v = .slice a xs.length c ∧ xs.length < 9223372036854775808 ∧ (xs.length = 0 ∨ ∃ b o, a = some ⟨b, o, none⟩ ∧ b < W.heap.size ∧ ∀ (j : Nat) (d : α), xs[j]? = some d → R d ∧ ∀ (i : Nat) u, (cells d)[i]? = some u → W.cell? ⟨b, o + j * k + i, none⟩ = some u) := by
  rcases Go.Deep.open_slice ht h with ⟨h0, _⟩ | ⟨ad, len, cap, m, n, D, Pl, h0, _, hl, hm, hmm, _, hx⟩
  · simp only [List.cons.injEq, and_true] at h0
    exact ⟨none, 0, [], h0, by simp, .inl rfl⟩
  · simp only [List.cons.injEq, and_true] at h0
    subst h0
    have hlm : len ≤ m := by rw [hmm]; split <;> omega
    have hmax : len < 9223372036854775808 := by
      have : cap ≤ maxLen := hm
      unfold maxLen at this
      omega
    rw [hk] at hx
    have each : ∀ i, i < len → ∃ d : α, R d ∧ W.cells? base (ad.add (i * k)) k = some (cells d) := fun i hi => by
      obtain ⟨cs, h1, h2⟩ := hx i (by omega)
      obtain ⟨d, rfl, hR⟩ := hel _ _ _ h2
      exact ⟨d, hR, h1⟩
    obtain ⟨S, hS⟩ := Go.Deep.choose_lt each
    refine ⟨some ad, cap, (List.range len).map S, by simp, by simpa using hmax, ?_⟩
    by_cases hz : len = 0
    · exact .inl (by simp [hz])
    · right
      have hcell : ∀ i, i < len → ∀ (j : Nat) v, (cells (S i))[j]? = some v → W.cell? ((ad.add (i * k)).add j) = some v := fun i hi j v hv => by
        obtain ⟨_, _, h3⟩ := World.cells?_some (hS i hi).2
        have hj : j < k := by rw [← hcl (S i)]; exact (List.getElem?_eq_some_iff.1 hv).1
        exact (h3 j hj).trans hv
      obtain ⟨b, o, spot⟩ := ad
      have hsp : spot = none := by
        obtain ⟨u, hu⟩ := some_of (hcl (S 0)) hk0
        have := hcell 0 (by omega) 0 u hu
        cases spot with
        | none => rfl
        | some q =>
          simp only [World.cell?, Addr.add] at this
          split at this <;> simp at this
      subst hsp
      have hcell2 : ∀ i, i < len → ∀ (j : Nat) v, (cells (S i))[j]? = some v → W.cell? ⟨b, o + i * k + j, none⟩ = some v := fun i hi j v hv => by
        have := hcell i hi j v hv
        rw [Addr.add_lit, Addr.add_lit] at this
        exact this
      refine ⟨b, o, rfl, ?_, fun j d hd => ?_⟩
      · obtain ⟨u, hu⟩ := some_of (hcl (S 0)) hk0
        exact World.block_lt_of_cell? W _ (hcell2 0 (by omega) 0 u hu)
      · have hj : j < len := by simpa using (List.getElem?_eq_some_iff.1 hd).1
        have hdS : d = S j := by
          rw [List.getElem?_map, List.getElem?_range hj] at hd
          exact (Option.some.inj hd).symm
        subst hdS
        exact ⟨(hS j hj).1, hcell2 j hj⟩

theorem openTexts {fuel : Nat} {v : Value} {y : DataW H × List MemPlace} (h : DataW.trod enc Tryz.prog W base spare held fuel 22 [v] = some y) :
    ∃ (a : Option Addr) (c : Nat) (xs : List ByteArray), v = .slice a xs.length c ∧ xs.length < 9223372036854775808 ∧ TextsH W a xs := by
  obtain ⟨a, c, xs, h1, h2, h3⟩ := openRows (fun s : ByteArray => [Value.string s]) (fun _ => True) Tryz.underlying22 (by kernel_rfl : Tryz.prog.cellsOf 9 = 1) (by decide)
    (fun n cs z hz => by obtain ⟨s, hs, _⟩ := DataW.trod_string Tryz.underlying9 hz; exact ⟨s, hs, trivial⟩) (fun _ => rfl) h
  refine ⟨a, c, xs, h1, h2, ?_⟩
  rcases h3 with h3 | ⟨b, o, h4, h5, h6⟩
  · exact .inl h3
  · exact .inr ⟨b, o, h4, h5, fun j x hx => by simpa using (h6 j x hx).2 0 _ rfl⟩

theorem openId {fuel : Nat} {cs : List Value} {y : DataW H × List MemPlace} (h : DataW.trod enc Tryz.prog W base spare held fuel 50 cs = some y) : ∃ d : Idv, cs = [.string d.p, .int .i64 d.n] := by
  have c9 : Tryz.prog.cellsOf 9 = 1 := by kernel_rfl
  have c3 : Tryz.prog.cellsOf 3 = 1 := by kernel_rfl
  have c26 : Tryz.prog.cellsOf 50 = 2 := by kernel_rfl
  obtain ⟨xs, n, _, _, hl, hxl, hx⟩ := DataW.trod_struct Tryz.underlying50 h
  rw [c26] at hl
  obtain ⟨a0, a1, rfl⟩ : ∃ a0 a1, cs = [a0, a1] := by match cs, hl with | [a0, a1], _ => exact ⟨_, _, rfl⟩
  have hxl : xs.length = 2 := hxl
  obtain ⟨y0, e0⟩ := some_of (i := 0) hxl (by omega)
  obtain ⟨y1, e1⟩ := some_of (i := 1) hxl (by omega)
  have f0 := hx 0 { name := "Patch", type := 9, offset := 0, embedded := false, tag := "", pkgPath := "", byteOffset := 0 } rfl
  have f1 := hx 1 { name := "N", type := 3, offset := 1, embedded := false, tag := "", pkgPath := "", byteOffset := 16 } rfl
  simp only [c3, c9, e0, e1, List.drop_succ_cons, List.drop_zero, List.take_succ_cons, List.take_zero] at f0 f1
  obtain ⟨p, g0, _⟩ := DataW.trod_string Tryz.underlying9 f0
  obtain ⟨k, g1, _⟩ := DataW.trod_int Tryz.underlying3 f1
  simp only [List.cons.injEq, and_true] at g0 g1
  exact ⟨⟨p, k⟩, by rw [g0, g1]⟩

theorem openIds {fuel : Nat} {v : Value} {y : DataW H × List MemPlace} (h : DataW.trod enc Tryz.prog W base spare held fuel 51 [v] = some y) :
    ∃ (a : Option Addr) (c : Nat) (xs : List Idv), v = .slice a xs.length c ∧ xs.length < 9223372036854775808 ∧ IdsH W a xs := by
  obtain ⟨a, c, xs, h1, h2, h3⟩ := openRows (fun d : Idv => [Value.string d.p, .int .i64 d.n]) (fun _ => True) Tryz.underlying51 (by kernel_rfl : Tryz.prog.cellsOf 50 = 2) (by decide)
    (fun n cs z hz => by obtain ⟨s, hs⟩ := openId hz; exact ⟨s, hs, trivial⟩) (fun _ => rfl) h
  refine ⟨a, c, xs, h1, h2, ?_⟩
  rcases h3 with h3 | ⟨b, o, h4, h5, h6⟩
  · exact .inl h3
  · exact .inr ⟨b, o, h4, h5, fun j x hx => ⟨by simpa using (h6 j x hx).2 0 _ rfl, by simpa using (h6 j x hx).2 1 _ rfl⟩⟩

theorem list16 {l : List Value} (h : l.length = 16) : ∃ a0 a1 a2 a3 a4 a5 a6 a7 a8 a9 b0 b1 b2 b3 b4 b5, l = [a0, a1, a2, a3, a4, a5, a6, a7, a8, a9, b0, b1, b2, b3, b4, b5] := by
  match l, h with
  | [a0, a1, a2, a3, a4, a5, a6, a7, a8, a9, b0, b1, b2, b3, b4, b5], _ => exact ⟨_, _, _, _, _, _, _, _, _, _, _, _, _, _, _, _, rfl⟩

/-- what lies behind an operation's slices -/
def OpSub (W : World) (d : OpV) : Prop := IdsH W d.da d.dels ∧ TextsH W d.la d.lines ∧ d.dels.length < 9223372036854775808 ∧ d.lines.length < 9223372036854775808

set_option maxHeartbeats 4000000 in
theorem openOp {fuel : Nat} {cs : List Value} {y : DataW H × List MemPlace} (h : DataW.trod enc Tryz.prog W base spare held fuel 53 cs = some y) : ∃ d : OpV, cs = d.cells ∧ OpSub W d := by
  have c9 : Tryz.prog.cellsOf 9 = 1 := by kernel_rfl
  have c3 : Tryz.prog.cellsOf 3 = 1 := by kernel_rfl
  have c34 : Tryz.prog.cellsOf 50 = 2 := by kernel_rfl
  have c35 : Tryz.prog.cellsOf 51 = 1 := by kernel_rfl
  have c22 : Tryz.prog.cellsOf 22 = 1 := by kernel_rfl
  have c37 : Tryz.prog.cellsOf 53 = 16 := by kernel_rfl
  obtain ⟨xs, n, _, _, hl, hxl, hx⟩ := DataW.trod_struct Tryz.underlying53 h
  rw [c37] at hl
  obtain ⟨a0, a1, a2, a3, a4, a5, a6, a7, a8, a9, b0, b1, b2, b3, b4, b5, rfl⟩ := list16 hl
  have hxl : xs.length = 11 := hxl
  obtain ⟨y0, e0⟩ := some_of (i := 0) hxl (by omega)
  obtain ⟨y1, e1⟩ := some_of (i := 1) hxl (by omega)
  obtain ⟨y2, e2⟩ := some_of (i := 2) hxl (by omega)
  obtain ⟨y3, e3⟩ := some_of (i := 3) hxl (by omega)
  obtain ⟨y4, e4⟩ := some_of (i := 4) hxl (by omega)
  obtain ⟨y5, e5⟩ := some_of (i := 5) hxl (by omega)
  obtain ⟨y6, e6⟩ := some_of (i := 6) hxl (by omega)
  obtain ⟨y7, e7⟩ := some_of (i := 7) hxl (by omega)
  obtain ⟨y8, e8⟩ := some_of (i := 8) hxl (by omega)
  obtain ⟨y9, e9⟩ := some_of (i := 9) hxl (by omega)
  obtain ⟨y10, e10⟩ := some_of (i := 10) hxl (by omega)
  have f0 := hx 0 { name := "Kind", type := 3, offset := 0, embedded := false, tag := "", pkgPath := "", byteOffset := 0 } rfl
  have f1 := hx 1 { name := "Self", type := 50, offset := 1, embedded := false, tag := "", pkgPath := "", byteOffset := 8 } rfl
  have f2 := hx 2 { name := "Parent", type := 50, offset := 3, embedded := false, tag := "", pkgPath := "", byteOffset := 32 } rfl
  have f3 := hx 3 { name := "To", type := 50, offset := 5, embedded := false, tag := "", pkgPath := "", byteOffset := 56 } rfl
  have f4 := hx 4 { name := "Name", type := 9, offset := 7, embedded := false, tag := "", pkgPath := "", byteOffset := 80 } rfl
  have f5 := hx 5 { name := "ToName", type := 9, offset := 8, embedded := false, tag := "", pkgPath := "", byteOffset := 96 } rfl
  have f6 := hx 6 { name := "Left", type := 50, offset := 9, embedded := false, tag := "", pkgPath := "", byteOffset := 112 } rfl
  have f7 := hx 7 { name := "Right", type := 50, offset := 11, embedded := false, tag := "", pkgPath := "", byteOffset := 136 } rfl
  have f8 := hx 8 { name := "Dels", type := 51, offset := 13, embedded := false, tag := "", pkgPath := "", byteOffset := 160 } rfl
  have f9 := hx 9 { name := "First", type := 3, offset := 14, embedded := false, tag := "", pkgPath := "", byteOffset := 184 } rfl
  have f10 := hx 10 { name := "Lines", type := 22, offset := 15, embedded := false, tag := "", pkgPath := "", byteOffset := 192 } rfl
  simp only [c3, c9, c34, c35, c22, e0, e1, e2, e3, e4, e5, e6, e7, e8, e9, e10, List.drop_succ_cons, List.drop_zero, List.take_succ_cons, List.take_zero] at f0 f1 f2 f3 f4 f5 f6 f7 f8 f9 f10
  obtain ⟨kind, g0, _⟩ := DataW.trod_int Tryz.underlying3 f0
  obtain ⟨self, g1⟩ := openId f1
  obtain ⟨parent, g2⟩ := openId f2
  obtain ⟨to, g3⟩ := openId f3
  obtain ⟨name, g4, _⟩ := DataW.trod_string Tryz.underlying9 f4
  obtain ⟨toName, g5, _⟩ := DataW.trod_string Tryz.underlying9 f5
  obtain ⟨left, g6⟩ := openId f6
  obtain ⟨right, g7⟩ := openId f7
  obtain ⟨da, dc, dels, g8, hdl, hd⟩ := openIds f8
  obtain ⟨first, g9, _⟩ := DataW.trod_int Tryz.underlying3 f9
  obtain ⟨la, lc, lines, g10, hll, hlx⟩ := openTexts f10
  simp only [List.cons.injEq, and_true] at g0 g1 g2 g3 g4 g5 g6 g7 g9
  obtain ⟨rfl, rfl⟩ := g1
  obtain ⟨rfl, rfl⟩ := g2
  obtain ⟨rfl, rfl⟩ := g3
  obtain ⟨rfl, rfl⟩ := g6
  obtain ⟨rfl, rfl⟩ := g7
  subst g0 g4 g5 g8 g9 g10
  exact ⟨⟨kind, self, parent, to, name, toName, left, right, dels, da, dc, first, lines, la, lc⟩, rfl, hd, hlx, hdl, hll⟩

theorem openOps {fuel : Nat} {v : Value} {y : DataW H × List MemPlace} (h : DataW.trod enc Tryz.prog W base spare held fuel 23 [v] = some y) :
    ∃ (a : Option Addr) (c : Nat) (xs : List OpV), v = .slice a xs.length c ∧ xs.length < 9223372036854775808 ∧ OpsH W a xs := by
  obtain ⟨a, c, xs, h1, h2, h3⟩ := openRows OpV.cells (OpSub W) Tryz.underlying23 (by kernel_rfl : Tryz.prog.cellsOf 53 = 16) (by decide)
    (fun n cs z hz => openOp hz) (fun _ => rfl) h
  refine ⟨a, c, xs, h1, h2, ?_⟩
  rcases h3 with h3 | ⟨b, o, h4, h5, h6⟩
  · exact .inl h3
  · refine .inr ⟨b, o, h4, h5, fun j x hx => ?_, fun j x hx => (h6 j x hx).1⟩
    have hc := (h6 j x hx).2
    exact ⟨hc 0 _ rfl, hc 1 _ rfl, hc 2 _ rfl, hc 3 _ rfl, hc 4 _ rfl, hc 5 _ rfl, hc 6 _ rfl, hc 7 _ rfl, hc 8 _ rfl, hc 9 _ rfl, hc 10 _ rfl, hc 11 _ rfl, hc 12 _ rfl, hc 13 _ rfl, hc 14 _ rfl, hc 15 _ rfl⟩

/-- what lies behind a patch's slices -/
def PatchSub (W : World) (d : PatchV) : Prop := TextsH W d.pa d.deps ∧ OpsH W d.oa d.ops ∧ d.deps.length < 9223372036854775808 ∧ d.ops.length < 9223372036854775808

theorem openPatch {fuel : Nat} {cs : List Value} {y : DataW H × List MemPlace} (h : DataW.trod enc Tryz.prog W base spare held fuel 25 cs = some y) : ∃ d : PatchV, cs = d.cells ∧ PatchSub W d := by
  have c9 : Tryz.prog.cellsOf 9 = 1 := by kernel_rfl
  have c22 : Tryz.prog.cellsOf 22 = 1 := by kernel_rfl
  have c30 : Tryz.prog.cellsOf 23 = 1 := by kernel_rfl
  have c32 : Tryz.prog.cellsOf 25 = 3 := by kernel_rfl
  obtain ⟨xs, n, _, _, hl, hxl, hx⟩ := DataW.trod_struct Tryz.underlying25 h
  rw [c32] at hl
  obtain ⟨a0, a1, a2, rfl⟩ : ∃ a0 a1 a2, cs = [a0, a1, a2] := by match cs, hl with | [a0, a1, a2], _ => exact ⟨_, _, _, rfl⟩
  have hxl : xs.length = 3 := hxl
  obtain ⟨y0, e0⟩ := some_of (i := 0) hxl (by omega)
  obtain ⟨y1, e1⟩ := some_of (i := 1) hxl (by omega)
  obtain ⟨y2, e2⟩ := some_of (i := 2) hxl (by omega)
  have f0 := hx 0 { name := "Name", type := 9, offset := 0, embedded := false, tag := "", pkgPath := "", byteOffset := 0 } rfl
  have f1 := hx 1 { name := "Deps", type := 22, offset := 1, embedded := false, tag := "", pkgPath := "", byteOffset := 16 } rfl
  have f2 := hx 2 { name := "Ops", type := 23, offset := 2, embedded := false, tag := "", pkgPath := "", byteOffset := 40 } rfl
  simp only [c9, c22, c30, e0, e1, e2, List.drop_succ_cons, List.drop_zero, List.take_succ_cons, List.take_zero] at f0 f1 f2
  obtain ⟨p, g0, _⟩ := DataW.trod_string Tryz.underlying9 f0
  obtain ⟨pa, pc, deps, g1, hd1, hd⟩ := openTexts f1
  obtain ⟨oa, oc, ops, g2, ho1, ho⟩ := openOps f2
  simp only [List.cons.injEq, and_true] at g0
  subst g0 g1 g2
  exact ⟨⟨p, deps, pa, pc, ops, oa, oc⟩, rfl, hd, ho, hd1, ho1⟩

theorem openPatches {fuel : Nat} {v : Value} {y : DataW H × List MemPlace} (h : DataW.trod enc Tryz.prog W base spare held fuel 65 [v] = some y) :
    ∃ (a : Option Addr) (c : Nat) (xs : List PatchV), v = .slice a xs.length c ∧ xs.length < 9223372036854775808 ∧ PatchesH W a xs := by
  obtain ⟨a, c, xs, h1, h2, h3⟩ := openRows PatchV.cells (PatchSub W) Tryz.underlying65 (by kernel_rfl : Tryz.prog.cellsOf 25 = 3) (by decide)
    (fun n cs z hz => openPatch hz) (fun _ => rfl) h
  refine ⟨a, c, xs, h1, h2, ?_⟩
  rcases h3 with h3 | ⟨b, o, h4, h5, h6⟩
  · exact .inl h3
  · refine .inr ⟨b, o, h4, h5, fun j x hx => ?_, fun j x hx => (h6 j x hx).1⟩
    have hc := (h6 j x hx).2
    exact ⟨hc 0 _ rfl, hc 1 _ rfl, hc 2 _ rfl⟩
end
end Go.Proofs.W
