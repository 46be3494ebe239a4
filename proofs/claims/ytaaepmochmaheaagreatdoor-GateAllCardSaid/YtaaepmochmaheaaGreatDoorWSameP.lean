/- A PART OF THE PROOF THAT SHOWS THAT EACH OF rafterlaw44.GateAsk AND rafterlaw44.GateAll RETURNS TRUE FOR EVERY INPUT. No condition beyond the given statement. This part: WSameP. -/
import Derived.Test.YtaaepmochmaheaaGreatDoorWHead
import Derived.Test.YtaaepmochmaheaaGreatDoorWPatch
import Derived.Shelf.SlicesQ.Load
namespace Go.Proofs.W
open Go Go.Proofs Go.RowKit
set_option maxRecDepth 1000000

theorem allocSizeS (w : World) (x : Obj) : (w.alloc x).heap.size = w.heap.size + 1 := by simp
structure OpSame (x y : OpV) : Prop where
  kind : x.kind = y.kind
  self : x.self = y.self
  parent : x.parent = y.parent
  to : x.to = y.to
  name : x.name = y.name
  toName : x.toName = y.toName
  left : x.left = y.left
  right : x.right = y.right
  dels : x.dels = y.dels
  first : x.first = y.first
  lines : x.lines = y.lines
structure OpsSame (xs ys : List OpV) : Prop where
  len : xs.length = ys.length
  at' : ∀ (j : Nat) x y, xs[j]? = some x → ys[j]? = some y → OpSame x y

set_option maxHeartbeats 8000000 in
theorem R11_same (a a2 : Option Addr) (c c2 : Nat) (xs : List Idv) (w : World) (h : IdsH w a xs) (h2 : IdsH w a2 xs) (hlen : xs.length < 9223372036854775808) :
    Calls Tryz.prog 32 #[.slice a xs.length c, .slice a2 xs.length c2] w fun e w' => e = .returned (.bool true) ∧ Below w.heap.size w w' := by
  go_enter Tryz.func32, Tryz.ntmps32
  go_wp2
  go_loopw [5] (fun x w' => Below w.heap.size w w' ∧ ∃ i : Nat, i ≤ xs.length ∧ x = .int .i64 i) (fun x _ => xs.length - (intOf x).toNat)
  case atStart => exact ⟨Below.refl _ w, 0, Nat.zero_le _, rfl⟩
  case round =>
    obtain ⟨hB, i, hi, rfl⟩ := hrel
    by_cases hlt : i < xs.length
    · obtain ⟨b2, o2, rfl, hN2⟩ : ∃ b o, a2 = some ⟨b, o, none⟩ ∧ IdsAt w b o xs := h2.resolve_left (by omega)
      obtain ⟨b, o, rfl, hN⟩ : ∃ b o, a = some ⟨b, o, none⟩ ∧ IdsAt w b o xs := h.resolve_left (by omega)
      obtain ⟨x, hd⟩ : ∃ x, xs[i]? = some x := ⟨_, List.getElem?_eq_getElem hlt⟩
      obtain ⟨c0, c1⟩ := (hN.below hB).cell i _ hd
      obtain ⟨d0, d1⟩ := (hN2.below hB).cell i _ hd
      have hlt' : (i : Int) < (xs.length : Int) := by omega
      have hnn : ¬ (i : Int) < 0 := by omega
      have hnn0 : (0 : Int) ≤ (i : Int) := by omega
      have hBq : ∀ k, Below w.heap.size w (wr.drewN k) := fun k => belowTrans hB (belowDrew _ _)
      go_wp2_with fail
      go_quiet (fail)
      go_wp2
      go_roundw
      case rel => exact ⟨hBq _, i + 1, by omega, by push_cast; rfl⟩
      case measure => simp [intOf]; omega
    · have hlt' : ¬ (i : Int) < (xs.length : Int) := by omega
      go_wp2
      go_ret
      exact ⟨rfl, hB⟩

set_option maxHeartbeats 16000000 in
theorem R12_same (a a2 : Option Addr) (c c2 : Nat) (xs ys : List OpV) (w : World) (h : OpsH w a xs) (h2 : OpsH w a2 ys) (hs : OpsSame xs ys) (hlen : xs.length < 9223372036854775808) :
    Calls Tryz.prog 22 #[.slice a xs.length c, .slice a2 ys.length c2] w fun e w' => e = .returned (.bool true) ∧ Below w.heap.size w w' := by
  have hln : Hid (xs.length = ys.length) := hs.len
  have hat := hs.at'
  rw [← hs.len]
  clear hs
  go_enter Tryz.func22, Tryz.ntmps22
  go_wp2
  go_loopw [5] (fun x w' => Below w.heap.size w w' ∧ ∃ i : Nat, i ≤ xs.length ∧ x = .int .i64 i) (fun x _ => xs.length - (intOf x).toNat)
  case atStart => exact ⟨Below.refl _ w, 0, Nat.zero_le _, rfl⟩
  case round =>
    obtain ⟨hB, i, hi, rfl⟩ := hrel
    by_cases hlt : i < xs.length
    · obtain ⟨b2, o2, rfl, hN2⟩ : ∃ b o, a2 = some ⟨b, o, none⟩ ∧ OpsAt w b o ys := h2.resolve_left (by have : xs.length = ys.length := hln; omega)
      obtain ⟨b, o, rfl, hN⟩ : ∃ b o, a = some ⟨b, o, none⟩ ∧ OpsAt w b o xs := h.resolve_left (by omega)
      obtain ⟨x, hd⟩ : ∃ x, xs[i]? = some x := ⟨_, List.getElem?_eq_getElem hlt⟩
      obtain ⟨y, hd2⟩ : ∃ y, ys[i]? = some y := ⟨_, List.getElem?_eq_getElem (by have : xs.length = ys.length := hln; omega)⟩
      obtain ⟨s1, s2, s3, s4, s5, s6, s7, s8, s9, s10, s11⟩ := hat i x y hd hd2
      obtain ⟨c0, c1, c2, c3, c4, c5, c6, c7, c8, c9, d0, d1, d2, d3, d4, d5⟩ := (hN.below hB).cell i _ hd
      obtain ⟨e0, e1, e2, e3, e4, e5, e6, e7, e8, e9, f0, f1, f2, f3, f4, f5⟩ := (hN2.below hB).cell i _ hd2
      obtain ⟨hids, htx, hdl, hll⟩ := (hN.below hB).sub i _ hd
      obtain ⟨hids2, htx2, _, _⟩ := (hN2.below hB).sub i _ hd2
      rw [← s1] at e0; rw [← s2] at e1 e2; rw [← s3] at e3 e4; rw [← s4] at e5 e6; rw [← s5] at e7; rw [← s6] at e8; rw [← s7] at e9 f0; rw [← s8] at f1 f2; rw [← s9] at f3 hids2; rw [← s10] at f4; rw [← s11] at f5 htx2
      clear s1 s2 s3 s4 s5 s6 s7 s8 s9 s10 s11
      have hlt' : (i : Int) < (xs.length : Int) := by omega
      have hnn : ¬ (i : Int) < 0 := by omega
      have hnn0 : (0 : Int) ≤ (i : Int) := by omega
      have hca : ∀ (x : Obj) (k : Nat), (wr.alloc x).cell? ⟨b2, k, none⟩ = wr.cell? ⟨b2, k, none⟩ := fun x k => (belowAlloc wr x).cell (p := ⟨b2, k, none⟩) (hN2.below hB).lt
      go_wp2_with fail
      have hA1 := belowAlloc wr (.cells #[.int .i64 x.kind, .string x.self.p, .int .i64 x.self.n, .string x.parent.p, .int .i64 x.parent.n, .string x.to.p, .int .i64 x.to.n, .string x.name, .string x.toName, .string x.left.p, .int .i64 x.left.n, .string x.right.p, .int .i64 x.right.n, .slice x.da x.dels.length x.dc, .int .i64 x.first, .slice x.la x.lines.length x.lc] 53)
      have hy1 := (MapKept.heap_alloc wr (.cells #[.int .i64 x.kind, .string x.self.p, .int .i64 x.self.n, .string x.parent.p, .int .i64 x.parent.n, .string x.to.p, .int .i64 x.to.n, .string x.name, .string x.toName, .string x.left.p, .int .i64 x.left.n, .string x.right.p, .int .i64 x.right.n, .slice x.da x.dels.length x.dc, .int .i64 x.first, .slice x.la x.lines.length x.lc] 53)).1
      generalize hw1 : wr.alloc _ = w1 at hA1 hy1 ⊢
      have hz1 : w1.heap.size = wr.heap.size + 1 := by rw [← hw1, allocSizeS]
      have hA2 := belowAlloc w1 (.cells #[.int .i64 x.kind, .string x.self.p, .int .i64 x.self.n, .string x.parent.p, .int .i64 x.parent.n, .string x.to.p, .int .i64 x.to.n, .string x.name, .string x.toName, .string x.left.p, .int .i64 x.left.n, .string x.right.p, .int .i64 x.right.n, .slice y.da x.dels.length y.dc, .int .i64 x.first, .slice y.la x.lines.length y.lc] 53)
      have hy2 := (MapKept.heap_alloc w1 (.cells #[.int .i64 x.kind, .string x.self.p, .int .i64 x.self.n, .string x.parent.p, .int .i64 x.parent.n, .string x.to.p, .int .i64 x.to.n, .string x.name, .string x.toName, .string x.left.p, .int .i64 x.left.n, .string x.right.p, .int .i64 x.right.n, .slice y.da x.dels.length y.dc, .int .i64 x.first, .slice y.la x.lines.length y.lc] 53)).1
      generalize hw2 : w1.alloc _ = w2 at hA2 hy2 ⊢
      have hz2 : w2.heap.size = wr.heap.size + 2 := by rw [← hw2, allocSizeS, hz1]
      rw [hz1] at hy2
      have hA := belowTrans hA1 hA2
      have hy1' := (hA2.block wr.heap.size (by omega)).trans hy1
      refine (R11_same _ _ _ _ x.dels _ (hids.below hA) (hids2.below hA) hdl).mono ?_
      rintro e w3 ⟨rfl, hb3⟩
      have q1 : w3.cell? ⟨wr.heap.size, 15, none⟩ = some (.slice x.la x.lines.length x.lc) := by simp [World.cell?, (hb3.block wr.heap.size (by omega)).trans hy1']
      have q2 : w3.cell? ⟨wr.heap.size + 1, 15, none⟩ = some (.slice y.la x.lines.length y.lc) := by simp [World.cell?, (hb3.block (wr.heap.size + 1) (by omega)).trans hy2]
      have hA3 := belowTrans hA hb3
      clear hw1 hw2 hy1 hy2 hy1' hz1 hz2 hA1 hA2 c0 c1 c2 c3 c4 c5 c6 c7 c8 c9 d0 d1 d2 d3 d4 d5 e0 e1 e2 e3 e4 e5 e6 e7 e8 e9 f0 f1 f2 f3 f4 f5 hca
      go_wp2_with fail
      refine (R01_Same _ _ _ _ x.lines x.lines _ (htx.below hA3) (htx2.below hA3) hll).mono ?_
      rintro e w4 ⟨rfl, hb4⟩
      rw [decide_eq_true rfl]
      go_wp2
      go_roundw
      case rel => exact ⟨belowTrans hB (belowTrans hA3 hb4), i + 1, by omega, by push_cast; rfl⟩
      case measure => simp [intOf]; omega
    · have hlt' : ¬ (i : Int) < (xs.length : Int) := by omega
      go_wp2
      go_ret
      exact ⟨rfl, hB⟩
end Go.Proofs.W
namespace Go.Proofs.W
open Go Go.Proofs Go.RowKit
set_option maxRecDepth 1000000

structure PatchSame (x y : PatchV) : Prop where
  name : x.name = y.name
  deps : x.deps = y.deps
  ops : OpsSame x.ops y.ops

set_option maxHeartbeats 8000000 in
theorem R13_same (d f : PatchV) (w : World) (h1 : TextsH w d.pa d.deps) (h2 : OpsH w d.oa d.ops) (k1 : TextsH w f.pa f.deps) (k2 : OpsH w f.oa f.ops) (hs : PatchSame d f) (hl1 : d.deps.length < 9223372036854775808) (hl2 : d.ops.length < 9223372036854775808) :
    Calls Tryz.prog 11 #[.agg #[.string d.name, .slice d.pa d.deps.length d.pc, .slice d.oa d.ops.length d.oc], .agg #[.string f.name, .slice f.pa f.deps.length f.pc, .slice f.oa f.ops.length f.oc]] w fun e w' => e = .returned (.bool true) ∧ Below w.heap.size w w' := by
  obtain ⟨s1, s2, s3⟩ := hs
  rw [← s1]
  have s4 := congrArg List.length s2
  rw [← s4]
  rw [← s2] at k1
  clear s1 s2 s4
  go_enter Tryz.func11, Tryz.ntmps11
  go_wp2_with fail
  have hA1 := belowAlloc w (.cells #[.string d.name, .slice d.pa d.deps.length d.pc, .slice d.oa d.ops.length d.oc] 25)
  have hy1 := (MapKept.heap_alloc w (.cells #[.string d.name, .slice d.pa d.deps.length d.pc, .slice d.oa d.ops.length d.oc] 25)).1
  generalize hw1 : w.alloc _ = w1 at hA1 hy1 ⊢
  have hz1 : w1.heap.size = w.heap.size + 1 := by rw [← hw1, allocSizeS]
  have hA2 := belowAlloc w1 (.cells #[.string d.name, .slice f.pa d.deps.length f.pc, .slice f.oa f.ops.length f.oc] 25)
  have hy2 := (MapKept.heap_alloc w1 (.cells #[.string d.name, .slice f.pa d.deps.length f.pc, .slice f.oa f.ops.length f.oc] 25)).1
  generalize hw2 : w1.alloc _ = w2 at hA2 hy2 ⊢
  have hz2 : w2.heap.size = w.heap.size + 2 := by rw [← hw2, allocSizeS, hz1]
  rw [hz1] at hy2
  have hA := belowTrans hA1 hA2
  have hy1' := (hA2.block w.heap.size (by omega)).trans hy1
  refine (R01_Same _ _ _ _ d.deps d.deps _ (h1.below hA) (k1.below hA) hl1).mono ?_
  rintro e w3 ⟨rfl, hb3⟩
  rw [decide_eq_true rfl]
  have q1 : w3.cell? ⟨w.heap.size, 2, none⟩ = some (.slice d.oa d.ops.length d.oc) := by simp [World.cell?, (hb3.block w.heap.size (by omega)).trans hy1']
  have q2 : w3.cell? ⟨w.heap.size + 1, 2, none⟩ = some (.slice f.oa f.ops.length f.oc) := by simp [World.cell?, (hb3.block (w.heap.size + 1) (by omega)).trans hy2]
  have hA3 := belowTrans hA hb3
  clear hw1 hw2 hy1 hy2 hy1' hz1 hz2 hA1 hA2 hA hb3
  go_wp2_with fail
  refine (R12_same _ _ _ _ d.ops f.ops _ (h2.below hA3) (k2.below hA3) s3 hl2).mono ?_
  rintro e w4 ⟨rfl, hb4⟩
  go_wp2
  go_ret
  exact ⟨rfl, belowTrans hA3 hb4⟩
end Go.Proofs.W
