/- A PART OF THE PROOF THAT SAVETEXTS HOLDS FOR EVERY INPUT OF BULK AT MOST 1048576. No condition beyond the given statement. This part: WOpenA. -/
import Derived.Test.YtciahohaonhdgaaGreatDoorWHead
import Derived.ProofKit
import Derived.OpenShut
import Derived.Carry
import Derived.Deep.Slices
import Derived.Deep.Strs
import Derived.Test.YtciahohaonhdgaaGreatDoorRows
namespace Go.Proofs.W
open Go Go.Proofs Go.RowKit Go.WideShapes Go.ChangeShapes Go.ChangeAt
set_option maxRecDepth 1000000
theorem some_of {α : Type} {xs : List α} {n i : Nat} (h : xs.length = n) (hi : i < n) : ∃ y, xs[i]? = some y := ⟨_, List.getElem?_eq_getElem (by omega)⟩
section
variable {H : Type} {enc : TypeId × Value → H} {W : World} {base : Nat} {spare : Nat → Bool} {held : Bool}
theorem openRows {α : Type} [Inhabited α] {t e : TypeId} {k : Nat} {fuel : Nat} {v : Value} {y : DataW H × List MemPlace} (cells : α → List Value) (R : α → Prop) (ht : Tryz.prog.underlying t = some (.slice e)) (hk : Tryz.prog.cellsOf e = k) (hk0 : 0 < k)
  (hel : ∀ (n : Nat) (cs : List Value) (z : DataW H × List MemPlace), DataW.trod enc Tryz.prog W base spare held n e cs = some z → ∃ d : α, cs = cells d ∧ R d)
  (hcl : ∀ d : α, (cells d).length = k)
  (h : DataW.trod enc Tryz.prog W base spare held fuel t [v] = some y) :
  ∃ (a : Option Addr) (c : Nat) (xs : List α), v = .slice a xs.length c ∧ xs.length < 9223372036854775808 ∧ (xs.length = 0 ∨ ∃ b o, a = some ⟨b, o, none⟩ ∧ b < W.heap.size ∧ ∀ (j : Nat) (d : α), xs[j]? = some d → R d ∧ ∀ (i : Nat) u, (cells d)[i]? = some u → W.cell? ⟨b, o + j * k + i, none⟩ = some u) := by
 rcases Go.Deep.open_slice ht h with ⟨h0, _⟩ | ⟨ad, len, cap, m, n, D, Pl, h0, _, hl, hm, hmm, _, hx⟩
 ·simp only [List.cons.injEq, and_true] at h0
  exact ⟨none, 0, [], h0, by simp, .inl rfl⟩
 ·simp only [List.cons.injEq, and_true] at h0
  subst h0
  have hlm : len ≤ m := by rw [hmm]; split <;> omega
  have hmax : len < 9223372036854775808 := by
   have : cap ≤ maxLen := hm
   unfold maxLen at this
   omega
  rw [hk] at hx
  have each : ∀ i, i < len → ∃ d : α, R d ∧ W.cells? base (ad.add (i * k)) k = some (cells d) := fun i hi => by
   obtain ⟨cs, h1, h2⟩ := hx i (by omega)
   obtain ⟨d, rfl, hR⟩ := hel _ _ _ h2
   exact ⟨d, hR, h1⟩
  obtain ⟨S, hS⟩ := Go.Deep.choose_lt each
  refine ⟨some ad, cap, (List.range len).map S, by simp, by simpa using hmax, ?_⟩
  by_cases hz : len = 0
  ·exact .inl (by simp [hz])
  ·right
   have hcell : ∀ i, i < len → ∀ (j : Nat) v, (cells (S i))[j]? = some v → W.cell? ((ad.add (i * k)).add j) = some v := fun i hi j v hv => by
    obtain ⟨_, _, h3⟩ := World.cells?_some (hS i hi).2
    have hj : j < k := by rw [← hcl (S i)]; exact (List.getElem?_eq_some_iff.1 hv).1
    exact (h3 j hj).trans hv
   obtain ⟨b, o, spot⟩ := ad
   have hsp : spot = none := by
    obtain ⟨u, hu⟩ := some_of (hcl (S 0)) hk0
    have := hcell 0 (by omega) 0 u hu
    cases spot with
    | none => rfl
    | some q =>
     simp only [World.cell?, Addr.add] at this
     split at this <;> simp at this
   subst hsp
   have hcell2 : ∀ i, i < len → ∀ (j : Nat) v, (cells (S i))[j]? = some v → W.cell? ⟨b, o + i * k + j, none⟩ = some v := fun i hi j v hv => by
    have := hcell i hi j v hv
    rw [Addr.add_lit, Addr.add_lit] at this
    exact this
   refine ⟨b, o, rfl, ?_, fun j d hd => ?_⟩
   ·obtain ⟨u, hu⟩ := some_of (hcl (S 0)) hk0
    exact World.block_lt_of_cell? W _ (hcell2 0 (by omega) 0 u hu)
   ·have hj : j < len := by simpa using (List.getElem?_eq_some_iff.1 hd).1
    have hdS : d = S j := by
     rw [List.getElem?_map, List.getElem?_range hj] at hd
     exact (Option.some.inj hd).symm
    subst hdS
    exact ⟨(hS j hj).1, hcell2 j hj⟩
theorem openTexts {fuel : Nat} {v : Value} {y : DataW H × List MemPlace} (h : DataW.trod enc Tryz.prog W base spare held fuel 54 [v] = some y) :
  ∃ (a : Option Addr) (c : Nat) (xs : List ByteArray), v = .slice a xs.length c ∧ xs.length < 9223372036854775808 ∧ TextsH W a xs := by
 obtain ⟨a, c, xs, h1, h2, h3⟩ := openRows (fun s : ByteArray => [Value.string s]) (fun _ => True) Tryz.underlying54 (by kernel_rfl : Tryz.prog.cellsOf 9 = 1) (by decide)
  (fun n cs z hz => by obtain ⟨s, hs, _⟩ := DataW.trod_string Tryz.underlying9 hz; exact ⟨s, hs, trivial⟩) (fun _ => rfl) h
 refine ⟨a, c, xs, h1, h2, ?_⟩
 rcases h3 with h3 | ⟨b, o, h4, h5, h6⟩
 ·exact .inl h3
 ·exact .inr ⟨b, o, h4, h5, fun j x hx => by simpa using (h6 j x hx).2 0 _ rfl⟩
end
end Go.Proofs.W
namespace Go.Proofs.W
open Go Go.Proofs Go.RowKit Go.WideShapes Go.ChangeShapes Go.ChangeAt
open Go.Proofs.YtciahohaonhdgaaGreatDoor
set_option maxRecDepth 1000000
theorem bulk_mem {H : Type} {d : DataW H} : ∀ {l : List (DataW H)}, d ∈ l → Rows.uptoBulk d ≤ Rows.uptoBulkAll l
 | [], h => by cases h
 | x :: r, h => by
  rw [Rows.uptoBulkAll]
  rcases List.mem_cons.1 h with rfl | h
  ·omega
  ·have := bulk_mem h; omega
section
variable {H : Type} {enc : TypeId × Value → H} {W : World} {base : Nat} {spare : Nat → Bool} {held : Bool}
def FileSub (W : World) (d : FileV) : Prop := TextsH W d.la d.lines ∧ d.lines.length < 9223372036854775808
theorem openFile {fuel : Nat} {cs : List Value} {y : DataW H × List MemPlace} (h : DataW.trod enc Tryz.prog W base spare held fuel 56 cs = some y) : ∃ d : FileV, cs = d.cells ∧ FileSub W d := by
 have c9 : Tryz.prog.cellsOf 9 = 1 := by kernel_rfl
 have c4 : Tryz.prog.cellsOf 4 = 1 := by kernel_rfl
 have c22 : Tryz.prog.cellsOf 54 = 1 := by kernel_rfl
 have c32 : Tryz.prog.cellsOf 56 = 3 := by kernel_rfl
 obtain ⟨xs, n, _, _, hl, hxl, hx⟩ := DataW.trod_struct Tryz.underlying56 h
 rw [c32] at hl
 obtain ⟨a0, a1, a2, rfl⟩ : ∃ a0 a1 a2, cs = [a0, a1, a2] := by match cs, hl with | [a0, a1, a2], _ => exact ⟨_, _, _, rfl⟩
 have hxl : xs.length = 3 := hxl
 obtain ⟨y0, e0⟩ := some_of (i := 0) hxl (by omega)
 obtain ⟨y1, e1⟩ := some_of (i := 1) hxl (by omega)
 obtain ⟨y2, e2⟩ := some_of (i := 2) hxl (by omega)
 have f0 := hx 0 { name := "Path", type := 9, offset := 0, embedded := false, tag := "", pkgPath := "", byteOffset := 0 } rfl
 have f1 := hx 1 { name := "Dir", type := 4, offset := 1, embedded := false, tag := "", pkgPath := "", byteOffset := 16 } rfl
 have f2 := hx 2 { name := "Lines", type := 54, offset := 2, embedded := false, tag := "", pkgPath := "", byteOffset := 24 } rfl
 simp only [c9, c4, c22, e0, e1, e2, List.drop_succ_cons, List.drop_zero, List.take_succ_cons, List.take_zero] at f0 f1 f2
 obtain ⟨p, g0, _⟩ := DataW.trod_string Tryz.underlying9 f0
 obtain ⟨b, g1, _⟩ := DataW.trod_bool Tryz.underlying4 f1
 obtain ⟨la, lc, lines, g2, h1, h2⟩ := openTexts f2
 simp only [List.cons.injEq, and_true] at g0 g1
 subst g0 g1 g2
 exact ⟨⟨p, b, lines, la, lc⟩, rfl, h2, h1⟩
theorem openFiles {fuel : Nat} {v : Value} {y : DataW H × List MemPlace} (h : DataW.trod enc Tryz.prog W base spare held fuel 22 [v] = some y) :
  ∃ (a : Option Addr) (c : Nat) (xs : List FileV), v = .slice a xs.length c ∧ xs.length < 9223372036854775808 ∧ FilesH W a xs ∧ ∀ f, f ∈ xs → TextsH W f.la f.lines := by
 obtain ⟨a, c, xs, h1, h2, h3⟩ := openRows FileV.cells (FileSub W) Tryz.underlying22 (by kernel_rfl : Tryz.prog.cellsOf 56 = 3) (by decide)
  (fun n cs z hz => openFile hz) (fun _ => rfl) h
 refine ⟨a, c, xs, h1, h2, ?_⟩
 rcases h3 with h3 | ⟨b, o, h4, h5, h6⟩
 ·refine ⟨.inl h3, fun f hf => ?_⟩
  rw [List.eq_nil_of_length_eq_zero h3] at hf
  cases hf
 ·refine ⟨.inr ⟨b, o, h4, h5, fun j x hx => ?_, fun j x hx => (h6 j x hx).1⟩, fun f hf => ?_⟩
  ·have hc := (h6 j x hx).2
   exact ⟨hc 0 _ rfl, hc 1 _ rfl, hc 2 _ rfl⟩
  ·obtain ⟨j, hj⟩ := List.getElem?_of_mem hf
   exact (h6 j f hj).1.1
instance : Inhabited TrackV := ⟨⟨ByteArray.empty, ByteArray.empty, 0⟩⟩
end
end Go.Proofs.W
namespace Go.Proofs.W
open Go Go.Proofs Go.RowKit Go.WideShapes Go.ChangeShapes Go.ChangeAt
open Go.Proofs.YtciahohaonhdgaaGreatDoor
set_option maxRecDepth 1000000
section
variable {H : Type} {enc : TypeId × Value → H} {W : World} {base : Nat} {spare : Nat → Bool} {held : Bool}
theorem openIdB {fuel : Nat} {cs : List Value} {y : DataW H × List MemPlace} (h : DataW.trod enc Tryz.prog W base spare held fuel 38 cs = some y) : ∃ d : Idv, cs = [.string d.p, .int .i64 d.n] ∧ d.p.size ≤ Rows.uptoBulk y.1 := by
 have c9 : Tryz.prog.cellsOf 9 = 1 := by kernel_rfl
 have c3 : Tryz.prog.cellsOf 3 = 1 := by kernel_rfl
 have c26 : Tryz.prog.cellsOf 38 = 2 := by kernel_rfl
 obtain ⟨xs, n, _, hy, hl, hxl, hx⟩ := DataW.trod_struct Tryz.underlying38 h
 rw [c26] at hl
 obtain ⟨a0, a1, rfl⟩ : ∃ a0 a1, cs = [a0, a1] := by match cs, hl with | [a0, a1], _ => exact ⟨_, _, rfl⟩
 have hxl : xs.length = 2 := hxl
 obtain ⟨y0, e0⟩ := some_of (i := 0) hxl (by omega)
 obtain ⟨y1, e1⟩ := some_of (i := 1) hxl (by omega)
 have f0 := hx 0 { name := "Patch", type := 9, offset := 0, embedded := false, tag := "", pkgPath := "", byteOffset := 0 } rfl
 have f1 := hx 1 { name := "N", type := 3, offset := 1, embedded := false, tag := "", pkgPath := "", byteOffset := 16 } rfl
 simp only [c3, c9, e0, e1, List.drop_succ_cons, List.drop_zero, List.take_succ_cons, List.take_zero] at f0 f1
 obtain ⟨p, g0, gy, _⟩ := DataW.trod_string Tryz.underlying9 f0
 obtain ⟨k, g1, _⟩ := DataW.trod_int Tryz.underlying3 f1
 simp only [List.cons.injEq, and_true] at g0 g1
 refine ⟨⟨p, k⟩, by rw [g0, g1], ?_⟩
 rw [hy]
 have hm : (DataW.lit (.string p.data.toList) : DataW H) ∈ xs.map (·.1) := List.mem_map.2 ⟨y0, List.mem_of_getElem? e0, by rw [gy]⟩
 have h1 := bulk_mem hm
 have h2 : Rows.uptoBulk (DataW.lit (.string p.data.toList) : DataW H) = p.data.toList.length + 1 := by simp [Rows.uptoBulk]
 have h3 : p.data.toList.length = p.size := by simp
 have h4 : Rows.uptoBulk (DataW.agg (xs.map (·.1))) = Rows.uptoBulkAll (xs.map (·.1)) + 1 := by simp [Rows.uptoBulk]
 show p.size ≤ Rows.uptoBulk (DataW.agg (xs.map (·.1)))
 omega
theorem openTrackB {fuel : Nat} {cs : List Value} {y : DataW H × List MemPlace} (h : DataW.trod enc Tryz.prog W base spare held fuel 40 cs = some y) : ∃ d : TrackV, cs = d.cells ∧ d.path.size ≤ Rows.uptoBulk y.1 ∧ d.patch.size ≤ Rows.uptoBulk y.1 := by
 have c9 : Tryz.prog.cellsOf 9 = 1 := by kernel_rfl
 have ci : Tryz.prog.cellsOf 38 = 2 := by kernel_rfl
 have c3 : Tryz.prog.cellsOf 40 = 3 := by kernel_rfl
 obtain ⟨xs, n, _, hy, hl, hxl, hx⟩ := DataW.trod_struct Tryz.underlying40 h
 rw [c3] at hl
 obtain ⟨a0, a1, a2, rfl⟩ : ∃ a0 a1 a2, cs = [a0, a1, a2] := by match cs, hl with | [a0, a1, a2], _ => exact ⟨_, _, _, rfl⟩
 have hxl : xs.length = 2 := hxl
 obtain ⟨y0, e0⟩ := some_of (i := 0) hxl (by omega)
 obtain ⟨y1, e1⟩ := some_of (i := 1) hxl (by omega)
 have f0 := hx 0 { name := "Path", type := 9, offset := 0, embedded := false, tag := "", pkgPath := "", byteOffset := 0 } rfl
 have f1 := hx 1 { name := "Id", type := 38, offset := 1, embedded := false, tag := "", pkgPath := "", byteOffset := 16 } rfl
 simp only [c9, ci, e0, e1, List.drop_succ_cons, List.drop_zero, List.take_succ_cons, List.take_zero] at f0 f1
 obtain ⟨p, g0, gy, _⟩ := DataW.trod_string Tryz.underlying9 f0
 obtain ⟨i, g1, gi⟩ := openIdB f1
 simp only [List.cons.injEq, and_true] at g0 g1
 obtain ⟨rfl, rfl⟩ := g1
 subst g0
 refine ⟨⟨p, i.p, i.n⟩, rfl, ?_⟩
 rw [hy]
 have hm : (DataW.lit (.string p.data.toList) : DataW H) ∈ xs.map (·.1) := List.mem_map.2 ⟨y0, List.mem_of_getElem? e0, by rw [gy]⟩
 have h1 := bulk_mem hm
 have h2 : Rows.uptoBulk (DataW.lit (.string p.data.toList) : DataW H) = p.data.toList.length + 1 := by simp [Rows.uptoBulk]
 have h3 : p.data.toList.length = p.size := by simp
 have h4 : Rows.uptoBulk (DataW.agg (xs.map (·.1))) = Rows.uptoBulkAll (xs.map (·.1)) + 1 := by simp [Rows.uptoBulk]
 have hm2 : y1.1 ∈ xs.map (·.1) := List.mem_map.2 ⟨y1, List.mem_of_getElem? e1, rfl⟩
 have h5 := bulk_mem hm2
 refine ⟨?_, ?_⟩
 ·show p.size ≤ Rows.uptoBulk (DataW.agg (xs.map (·.1)))
  omega
 ·show i.p.size ≤ Rows.uptoBulk (DataW.agg (xs.map (·.1)))
  omega
theorem openTracksB {fuel : Nat} {v : Value} {y : DataW H × List MemPlace} (h : DataW.trod enc Tryz.prog W base spare held fuel 23 [v] = some y) :
  ∃ (a : Option Addr) (c : Nat) (xs : List TrackV), v = .slice a xs.length c ∧ xs.length ≤ c ∧ TracksH W a xs ∧ ∀ x, x ∈ xs → x.path.size ≤ Rows.uptoBulk y.1 ∧ x.patch.size ≤ Rows.uptoBulk y.1 := by
 have hk : Tryz.prog.cellsOf 40 = 3 := by kernel_rfl
 rcases Go.Deep.open_slice Tryz.underlying23 h with ⟨h0, _⟩ | ⟨ad, len, cap, m, n, D, Pl, h0, _, hl, _, hmm, hy, hx⟩
 ·simp only [List.cons.injEq, and_true] at h0
  exact ⟨none, 0, [], h0, Nat.le_refl _, .inl rfl, fun _ hx => by cases hx⟩
 ·simp only [List.cons.injEq, and_true] at h0
  subst h0
  have hlm : len ≤ m := by rw [hmm]; split <;> omega
  rw [hk] at hx
  have each : ∀ i, i < len → ∃ d : TrackV, (d.path.size ≤ Rows.uptoBulk (D i) ∧ d.patch.size ≤ Rows.uptoBulk (D i)) ∧ W.cells? base (ad.add (i * 3)) 3 = some d.cells := fun i hi => by
   obtain ⟨cs, h1, h2⟩ := hx i (by omega)
   obtain ⟨d, rfl, hR⟩ := openTrackB h2
   exact ⟨d, hR, h1⟩
  obtain ⟨S, hS⟩ := Go.Deep.choose_lt each
  refine ⟨some ad, cap, (List.range len).map S, by simp, by simpa using hl, ?_, fun x hx => ?_⟩
  ·by_cases hz : len = 0
   ·exact .inl (by simp [hz])
   ·right
    have hcell : ∀ i, i < len → ∀ (j : Nat) v, (S i).cells[j]? = some v → W.cell? ((ad.add (i * 3)).add j) = some v := fun i hi j v hv => by
     obtain ⟨_, _, h3⟩ := World.cells?_some (hS i hi).2
     have hj : j < 3 := (List.getElem?_eq_some_iff.1 hv).1
     exact (h3 j hj).trans hv
    obtain ⟨b, o, spot⟩ := ad
    have hsp : spot = none := by
     have := hcell 0 (by omega) 0 _ rfl
     cases spot with
     | none => rfl
     | some q =>
      simp only [World.cell?, Addr.add] at this
      split at this <;> simp at this
    subst hsp
    have hcell2 : ∀ i, i < len → ∀ (j : Nat) v, (S i).cells[j]? = some v → W.cell? ⟨b, o + i * 3 + j, none⟩ = some v := fun i hi j v hv => by
     have := hcell i hi j v hv
     rw [Addr.add_lit, Addr.add_lit] at this
     exact this
    refine ⟨b, o, rfl, World.block_lt_of_cell? W _ (hcell2 0 (by omega) 0 _ rfl), fun j d hd => ?_⟩
    have hj : j < len := by simpa using (List.getElem?_eq_some_iff.1 hd).1
    have hdS : d = S j := by
     rw [List.getElem?_map, List.getElem?_range hj] at hd
     exact (Option.some.inj hd).symm
    subst hdS
    exact ⟨hcell2 j hj 0 _ rfl, hcell2 j hj 1 _ rfl, hcell2 j hj 2 _ rfl⟩
  ·obtain ⟨i, hi, rfl⟩ := List.mem_map.1 hx
   have hi := List.mem_range.1 hi
   have h1 := (hS i hi).1
   rw [hy]
   have hm : D i ∈ (List.range len).map D := List.mem_map.2 ⟨i, List.mem_range.2 hi, rfl⟩
   have h2 := bulk_mem hm
   show (S i).path.size ≤ Rows.uptoBulk (DataW.slice _ _) ∧ (S i).patch.size ≤ Rows.uptoBulk (DataW.slice _ _)
   rw [Rows.uptoBulk]
   exact ⟨by omega, by omega⟩
theorem tracksCap {fuel : Nat} {a : Option Addr} {n c : Nat} {y : DataW H × List MemPlace} (h : DataW.trod enc Tryz.prog W base spare held fuel 23 [.slice a n c] = some y) : n < 9223372036854775808 := by
 rcases Go.Deep.open_slice Tryz.underlying23 h with ⟨h0, _⟩ | ⟨ad, len, cap, m, k, D, Pl, h0, _, hl, hm, hmm, hy, hx⟩
 ·simp only [List.cons.injEq, and_true, Value.slice.injEq] at h0
  omega
 ·simp only [List.cons.injEq, and_true, Value.slice.injEq] at h0
  have : cap ≤ maxLen := hm
  unfold maxLen at this
  omega
end
end Go.Proofs.W
