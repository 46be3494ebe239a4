/- A PART OF THE PROOF THAT SAVETEXTS HOLDS FOR EVERY INPUT OF BULK AT MOST 1048576. No condition beyond the given statement. This part: WStab1. -/
import Derived.Test.YtciahohaonhdgaaGreatDoorWWith
import Derived.Shelf.SlSortCmp.KitK
import Derived.Sort.WalkB2
import Derived.Sort.WalkB12
import Derived.Deep.LoopGhost
import Derived.Shelf.SlSortCmp.WholeK
import Derived.Test.YtciahohaonhdgaaGreatDoorWShelf
namespace Go.Proofs.W
open Go Go.Proofs Go.Shelf Go.RowKit Go.Lib Go.Sort
set_option maxRecDepth 1000000
set_option linter.unusedSectionVars false
variable {α : Type} [Inhabited α]
def PermA (d d' : Array α) : Prop := d'.toList.Perm d.toList
theorem PermA.refl (d : Array α) : PermA d d := List.Perm.refl _
theorem PermA.trans {a b c : Array α} (h : PermA a b) (h2 : PermA b c) : PermA a c := List.Perm.trans h2 h
theorem PermA.size {a b : Array α} (h : PermA a b) : b.size = a.size := by simpa using h.length_eq
theorem PermA.swp {a b : Array α} (h : PermA a b) (i j : Nat) (hi : i < b.size) (hj : j < b.size) : PermA a (Sort.swp b i j) := by
 unfold PermA Sort.swp
 rw [Array.toList_setIfInBounds, Array.toList_setIfInBounds, getElem!_pos b i hi, getElem!_pos b j hj]
 exact (perm_set_set b.toList i j (by simpa using hi) (by simpa using hj)).trans h
theorem PermA.ofIn {a b : Array α} {i j : Nat} (h : PermIn i j a b) (hj : j ≤ a.size) : PermA a b := by
 have h0 : PermIn 0 a.size a b := permIn_mono _ _ _ _ _ _ (Nat.zero_le _) hj (Nat.le_refl _) h
 have hp := h0.2.2
 have e1 : b.extract 0 a.size = b := by rw [← h0.1]; exact Array.extract_size
 rw [e1, Array.extract_size] at hp
 exact hp
def RiseC (cf : α → α → Int) (d : Array α) : Prop := ∀ i j, i < j → j < d.size → ¬ cf d[j]! d[i]! < 0
def SortA (cf : α → α → Int) (d d' : Array α) : Prop := PermA d d' ∧ (RiseC cf d → d' = d)
theorem SortA.refl (cf : α → α → Int) (d : Array α) : SortA cf d d := ⟨PermA.refl d, fun _ => rfl⟩
theorem SortA.trans {cf : α → α → Int} {a b c : Array α} (h : SortA cf a b) (h2 : SortA cf b c) : SortA cf a c := ⟨h.1.trans h2.1, fun r => by
 have e := h.2 r
 exact (h2.2 (by rw [e]; exact r)).trans e⟩
theorem SortA.size {cf : α → α → Int} {a b : Array α} (h : SortA cf a b) : b.size = a.size := h.1.size
structure Stab (P : Program) (k : Nat) : Prop where
 mixed : P.follows .mixedOrders = true
 t3 : P.underlying 3 = some (TypeDesc.int IntKind.i64)
 a3 : ∀ w, (isAgg 3).run P w = .ok false w
 z3 : ∀ w, (Go.sizeOf 3).run P w = .ok 1 w
 v3 : ∀ w, (zeroValue 3).run P w = .ok (Value.int IntKind.i64 0) w
 t4 : P.underlying 4 = some (TypeDesc.bool)
 a4 : ∀ w, (isAgg 4).run P w = .ok false w
 z4 : ∀ w, (Go.sizeOf 4).run P w = .ok 1 w
 v4 : ∀ w, (zeroValue 4).run P w = .ok (Value.bool false) w
 t5 : P.underlying 177 = some (TypeDesc.int IntKind.u64)
 a5 : ∀ w, (isAgg 177).run P w = .ok false w
 z5 : ∀ w, (Go.sizeOf 177).run P w = .ok 1 w
 v5 : ∀ w, (zeroValue 177).run P w = .ok (Value.int IntKind.u64 0) w
 t22 : P.underlying 22 = some (TypeDesc.slice 56)
 a22 : ∀ w, (isAgg 22).run P w = .ok false w
 z22 : ∀ w, (Go.sizeOf 22).run P w = .ok 1 w
 v22 : ∀ w, (zeroValue 22).run P w = .ok (Value.slice none 0 0) w
 aE : ∀ w, (isAgg 56).run P w = .ok true w
 zE : ∀ w, (Go.sizeOf 56).run P w = .ok k w
 swapRange : P.funcs[229]? = some Tryz.f229
 rotate : P.funcs[175]? = some Tryz.f175
 symMerge : P.funcs[121]? = some Tryz.f121
 stable : P.funcs[68]? = some Tryz.f68
 sort : P.funcs[28]? = some Tryz.f28
theorem stab : Stab Tryz.prog 3 where
 mixed := by kernel_rfl
 t3 := by kernel_rfl
 a3 := fun w => by kernel_rfl
 z3 := fun w => by kernel_rfl
 v3 := fun w => by kernel_rfl
 t4 := by kernel_rfl
 a4 := fun w => by kernel_rfl
 z4 := fun w => by kernel_rfl
 v4 := fun w => by kernel_rfl
 t5 := by kernel_rfl
 a5 := fun w => by kernel_rfl
 z5 := fun w => by kernel_rfl
 v5 := fun w => by kernel_rfl
 t22 := by kernel_rfl
 a22 := fun w => by kernel_rfl
 z22 := fun w => by kernel_rfl
 v22 := fun w => by kernel_rfl
 aE := fun w => by kernel_rfl
 zE := fun w => by kernel_rfl
 swapRange := Tryz.func229
 rotate := Tryz.func175
 symMerge := Tryz.func121
 stable := Tryz.func68
 sort := Tryz.func28
set_option maxHeartbeats 4000000 in
theorem swapRange {P : Program} {k : Nat} (L : Stab P k) (enc : α → List Value) (cmp : Value) (blk off cap a b n : Nat) (d0 d : Array α) (w0 w : World)
  (R : RowK enc k w0 blk off d0) (hs : d0.size = d.size) (S : SWK enc k w0 blk off d w) (ha : a + n ≤ d.size) (hb : b + n ≤ d.size) (hsz : d.size < 4611686018427387904) :
  Calls P 229 #[.slice (some ⟨blk, off, none⟩) d.size cap, .int .i64 a, .int .i64 b, .int .i64 n, cmp] w fun e w' => e = .returned (.tuple #[]) ∧ ∃ d', PermA d d' ∧ SWK enc k w0 blk off d' w' := by
 have mixed := L.mixed; have t3 := L.t3; have a3 := L.a3; have z3 := L.z3; have v3 := L.v3; have t4 := L.t4; have a4 := L.a4; have z4 := L.z4; have v4 := L.v4; have t22 := L.t22; have a22 := L.a22; have z22 := L.z22; have v22 := L.v22; have aE := L.aE; have zE := L.zE
 have FG := L.swapRange
 have S0 : Aside (SWK enc k w0 blk off d w) := S
 clear S
 go_enter FG, Tryz.ntmps229
 go_wp2
 go_loopg [10] n (fun kx s10 wr => ∃ (i : Nat) (dk : Array α), s10 = .int .i64 i ∧ i ≤ n ∧ n - i ≤ kx ∧ dk.size = d.size ∧ Aside (SWK enc k w0 blk off dk wr) ∧ Aside (PermA d dk))
 case atStart => exact ⟨0, d, rfl, by omega, by omega, rfl, S0, PermA.refl d⟩
 case round =>
  clear S0
  obtain ⟨i, dk, rfl, h1, hkx, hds, S1, PP⟩ := hrel
  by_cases hlt : i < n
  ·have hltz : (i : Int) < (n : Int) := by omega
   go_wp2_with fail
   have ea44 : ((a : Int) + (i : Int)).toNat = a + i := by omega
   have pa44 : (0 : Int) ≤ (a : Int) + (i : Int) := by omega
   have ba44 : (a : Int) + (i : Int) < (d.size : Int) := by omega
   have ra44 : IntKind.i64.wrap ((a : Int) + (i : Int)) = (a : Int) + (i : Int) := by rw [IntKind.wrap_i64]; omega
   have ec44 : ((b : Int) + (i : Int)).toNat = b + i := by omega
   have pc44 : (0 : Int) ≤ (b : Int) + (i : Int) := by omega
   have bc44 : (b : Int) + (i : Int) < (d.size : Int) := by omega
   have rc44 : IntKind.i64.wrap ((b : Int) + (i : Int)) = (b : Int) + (i : Int) := by rw [IntKind.wrap_i64]; omega
   have S2 : Aside (SWK enc k w0 blk off (Sort.swp dk (a + i) (b + i)) ((wr.drew.setCells blk (off + (a + i) * k) (enc dk[b + i]!)).setCells blk (off + (b + i) * k) (enc dk[a + i]!))) := S1.out.swapped R (a + i) (b + i) (by omega) (by omega)
   have l44a := S1.out.ld1 R (by omega) P (a + i) (by omega)
   have l44b := S1.out.ld1 R (by omega) P (b + i) (by omega)
   have s44a := S1.out.st1 R (by omega) P (a + i) (by omega) dk[b + i]!
   have s44b := S1.out.st2 R (by omega) P (a + i) (b + i) (by omega) (by omega) dk[b + i]! dk[a + i]!
   have n44a : (enc dk[a + i]!).length = k := R.hk _
   have n44b : (enc dk[b + i]!).length = k := R.hk _
   generalize enc dk[a + i]! = cI44 at S2 l44a s44b n44a
   generalize enc dk[b + i]! = cJ44 at S2 l44b s44a s44b n44b
   clear S1
   go_wp2_with fail
   go_big_region_o
   clear l44a l44b s44a s44b
   generalize (wr.drew.setCells blk (off + (a + i) * k) cJ44).setCells blk (off + (b + i) * k) cI44 = w2 at S2 ⊢
   go_wp2
   go_roundg (n - (i + 1))
   case measure => omega
   case rel =>
    exact ⟨i + 1, Sort.swp dk (a + i) (b + i), by go_num, by omega, Nat.le_refl _, by rw [size_swp]; exact hds, S2, PP.out.swp _ _ (by omega) (by omega)⟩
  ·have hltz : ¬ (i : Int) < (n : Int) := by omega
   go_wp2
   go_end0
   exact ⟨rfl, dk, PP.out, S1.out⟩
end Go.Proofs.W
namespace Go.Proofs.W
open Go Go.Proofs Go.Shelf Go.RowKit Go.Lib Go.Sort
set_option maxRecDepth 1000000
set_option linter.unusedSectionVars false
variable {α : Type} [Inhabited α]
set_option maxHeartbeats 4000000 in
theorem rotate {P : Program} {k : Nat} (L : Stab P k) (enc : α → List Value) (cmp : Value) (blk off cap a m b : Nat) (d0 d : Array α) (w0 w : World)
  (R : RowK enc k w0 blk off d0) (hs : d0.size = d.size) (S : SWK enc k w0 blk off d w) (ha : a < m) (hm : m < b) (hb : b ≤ d.size) (hsz : d.size < 4611686018427387904) :
  Calls P 175 #[.slice (some ⟨blk, off, none⟩) d.size cap, .int .i64 a, .int .i64 m, .int .i64 b, cmp] w fun e w' => e = .returned (.tuple #[]) ∧ ∃ d', PermA d d' ∧ SWK enc k w0 blk off d' w' := by
 have mixed := L.mixed; have t3 := L.t3; have a3 := L.a3; have z3 := L.z3; have v3 := L.v3; have t4 := L.t4; have a4 := L.a4; have z4 := L.z4; have v4 := L.v4; have t22 := L.t22; have a22 := L.a22; have z22 := L.z22; have v22 := L.v22; have aE := L.aE; have zE := L.zE
 have FG := L.rotate
 have e1 : ∀ args w, (callFunc 229 args).run P w = .ok (.enter 229 args) w := enters_of L.swapRange (by kernel_rfl) rfl
 have S0 : Aside (SWK enc k w0 blk off d w) := S
 have hx1 : (a : Int) < (m : Int) := by omega
 have hx2 : (m : Int) < (b : Int) := by omega
 clear S
 go_enter FG, Tryz.ntmps175
 go_wp2
 go_loopg [10, 11] (b - a) (fun kx s10 s11 wr => ∃ (i j : Nat) (dk : Array α), s10 = .int .i64 i ∧ s11 = .int .i64 j ∧ 0 < i ∧ 0 < j ∧ i + a ≤ m ∧ j + m ≤ b ∧ i + j ≤ kx ∧ dk.size = d.size ∧ Aside (SWK enc k w0 blk off dk wr) ∧ Aside (PermA d dk))
 case atStart => exact ⟨m - a, b - m, d, by go_num, by go_num, by omega, by omega, by omega, by omega, by omega, rfl, S0, PermA.refl d⟩
 case round =>
  clear S0
  obtain ⟨i, j, dk, rfl, rfl, hi0, hj0, him, hjb, hkx, hds, S1, PP⟩ := hrel
  have ed : ((m - i : Nat) : Int) = (m : Int) - (i : Int) := by omega
  by_cases hlt : i = j
  ·subst hlt
   have hsw := swapRange L enc cmp blk off cap (m - i) m i d0 dk w0 wr R (by omega) S1.out (by omega) (by omega) (by omega)
   rw [hds, ed] at hsw
   go_wp2_with (first | (go_at_fn 229; refine hsw.mono ?_; rintro e w' ⟨rfl, d', hp, hS⟩))
   go_end0
   exact ⟨rfl, d', PP.out.trans hp, hS⟩
  ·have hne : ¬ ((i : Int) = (j : Int)) := by omega
   by_cases hgt : j < i
   ·have hgtz : (j : Int) < (i : Int) := by omega
    have hsw := swapRange L enc cmp blk off cap (m - i) m j d0 dk w0 wr R (by omega) S1.out (by omega) (by omega) (by omega)
    rw [hds, ed] at hsw
    go_wp2_with (first | (go_at_fn 229; refine hsw.mono ?_; rintro e w' ⟨rfl, d', hp, hS⟩))
    go_roundg (i - j + j)
    case measure => omega
    case rel => exact ⟨i - j, j, d', by go_num, rfl, by omega, by omega, by omega, by omega, by omega, by rw [hp.size]; exact hds, hS, PP.out.trans hp⟩
   ·have hgtz : ¬ (j : Int) < (i : Int) := by omega
    have ee : ((m + j - i : Nat) : Int) = (m : Int) + (j : Int) - (i : Int) := by omega
    have hsw := swapRange L enc cmp blk off cap (m - i) (m + j - i) i d0 dk w0 wr R (by omega) S1.out (by omega) (by omega) (by omega)
    rw [hds, ed, ee] at hsw
    go_wp2_with (first | (go_at_fn 229; refine hsw.mono ?_; rintro e w' ⟨rfl, d', hp, hS⟩))
    go_roundg (i + (j - i))
    case measure => omega
    case rel => exact ⟨i, j - i, d', rfl, by go_num, by omega, by omega, by omega, by omega, by omega, by rw [hp.size]; exact hds, hS, PP.out.trans hp⟩
end Go.Proofs.W
namespace Go.Proofs.W
open Go Go.Proofs Go.Shelf Go.RowKit Go.Lib Go.Sort
set_option maxRecDepth 1000000
set_option linter.unusedSectionVars false
variable {α : Type} [Inhabited α]
set_option maxHeartbeats 8000000 in
theorem symMerge1 {P : Program} {k : Nat} (L : Stab P k) (enc : α → List Value) (cf : α → α → Int) (g : Nat) (cb : Array Value) (blk off cap a m b : Nat) (d0 d : Array α) (w0 w : World)
  (eg : ∀ args w, (callFunc g args).run P w = .ok (.enter g args) w) (hcmp : CmpLays P g cb enc k cf blk off d.size w0)
  (R : RowK enc k w0 blk off d0) (hs : d0.size = d.size) (S : SWK enc k w0 blk off d w) (ha : m = a + 1) (hm : m < b) (hb : b ≤ d.size) (hsz : d.size < 4611686018427387904) :
  Calls P 121 #[.slice (some ⟨blk, off, none⟩) d.size cap, .int .i64 a, .int .i64 m, .int .i64 b, .func (.func g) #[] cb] w fun e w' => e = .returned (.tuple #[]) ∧ ∃ d', SortA cf d d' ∧ SWK enc k w0 blk off d' w' := by
 have mixed := L.mixed; have t3 := L.t3; have a3 := L.a3; have z3 := L.z3; have v3 := L.v3; have t4 := L.t4; have a4 := L.a4; have z4 := L.z4; have v4 := L.v4; have t22 := L.t22; have a22 := L.a22; have z22 := L.z22; have v22 := L.v22; have aE := L.aE; have zE := L.zE; have t5 := L.t5; have a5 := L.a5; have z5 := L.z5; have v5 := L.v5
 have FG := L.symMerge
 have S0 : Aside (SWK enc k w0 blk off d w) := S
 have HC : Aside (CmpLays P g cb enc k cf blk off d.size w0) := hcmp
 have hma : (m : Int) - (a : Int) = 1 := by omega
 have HA : Hid (m = a + 1) := ha
 clear S hcmp ha
 go_enter FG, Tryz.ntmps121
 go_wp2
 clear hma
 go_loopg [10, 11] b (fun kx s10 s11 wr => ∃ (i j : Nat), s10 = .int .i64 i ∧ s11 = .int .i64 j ∧ m ≤ i ∧ i ≤ j ∧ j ≤ b ∧ j - i ≤ kx ∧ Aside (SWK enc k w0 blk off d wr) ∧ Hid (RiseC cf d → i = m))
 case atStart => exact ⟨m, b, rfl, rfl, Nat.le_refl _, by omega, Nat.le_refl _, by omega, S0, fun _ => rfl⟩
 case round =>
  clear S0
  obtain ⟨i, j, rfl, rfl, hi, hij, hjb, hkx, S1, RI⟩ := hrel
  have hai : a < i := by have := HA.out; omega
  have hai2 : a < b := by omega
  by_cases hlt : i < j
  ·obtain ⟨h, hh⟩ : ∃ h, h = (i + j) / 2 := ⟨_, rfl⟩
   have hltz : (i : Int) < (j : Int) := by omega
   have hmi : ((i : Int) + (j : Int)) / 2 = (h : Int) := by omega
   have hh1 : i ≤ h := by omega
   have hh2 : h < j := by omega
   clear hh
   have ea44 : ((h : Int)).toNat = h := by omega
   have pa44 : (0 : Int) ≤ (h : Int) := by omega
   have ba44 : (h : Int) < (d.size : Int) := by omega
   have pc44 : (0 : Int) ≤ (a : Int) := by omega
   have bc44 : (a : Int) < (d.size : Int) := by omega
   obtain ⟨x, hx⟩ : ∃ x, x = d[h]! := ⟨_, rfl⟩
   obtain ⟨y, hy⟩ : ∃ x, x = d[a]! := ⟨_, rfl⟩
   have l1 := S1.out.ld R (by omega) P h (by omega)
   have l2 := S1.out.ld R (by omega) P a (by omega)
   rw [← hx] at l1
   rw [← hy] at l2
   have hc := S1.out.cmp HC.out rfl x y
   have HNR : Hid (RiseC cf d → ¬ cf x y < 0) := fun rr => by rw [hx, hy]; exact rr a h (by omega) (by omega)
   clear hx hy
   generalize cf x y = r at hc HNR
   by_cases hr : r < 0
   ·go_wp2_with fail
    go_quiet_grown (first | (go_at_fn g; refine Calls.grown_of (hc _ _)))
    have S2 : Aside (SWK enc k w0 blk off d (grow (wr.drewN nq) osq)) := S1.out.grown nq osq
    clear l1 l2 hc S1
    generalize grow (wr.drewN nq) osq = w2 at S2 ⊢
    go_wp2
    go_roundg (j - (h + 1))
    case measure => omega
    case rel => exact ⟨h + 1, j, by go_num, rfl, by omega, by omega, hjb, Nat.le_refl _, S2, fun rr => (by have h5 := HNR.out rr; omega)⟩
   ·go_wp2_with fail
    go_quiet_grown (first | (go_at_fn g; refine Calls.grown_of (hc _ _)))
    have S2 : Aside (SWK enc k w0 blk off d (grow (wr.drewN nq) osq)) := S1.out.grown nq osq
    clear l1 l2 hc S1
    generalize grow (wr.drewN nq) osq = w2 at S2 ⊢
    go_wp2
    go_roundg (h - i)
    case measure => omega
    case rel => exact ⟨i, h, rfl, rfl, hi, hh1, by omega, Nat.le_refl _, S2, RI⟩
  ·have hltz : ¬ (i : Int) < (j : Int) := by omega
   have hib : i ≤ b := by omega
   clear hkx hij hjb hlt
   go_wp2
   go_loopg [13] b (fun kx s13 wr => ∃ (q : Nat) (dk : Array α), s13 = .int .i64 q ∧ a ≤ q ∧ q < i ∧ i - q ≤ kx ∧ dk.size = d.size ∧ Aside (SWK enc k w0 blk off dk wr) ∧ Aside (SortA cf d dk))
   case atStart => exact ⟨a, d, rfl, Nat.le_refl _, by omega, by omega, rfl, S1, SortA.refl cf d⟩
   case round =>
    clear S1
    obtain ⟨q, dk, rfl, hq1, hq2, hkx, hds, S1, PP⟩ := hrel
    by_cases hqi : q + 1 < i
    ·have hqz : (q : Int) < (i : Int) - 1 := by omega
     have ea44 : ((q : Int)).toNat = q := by omega
     have pa44 : (0 : Int) ≤ (q : Int) := by omega
     have ba44 : (q : Int) < (d.size : Int) := by omega
     have ec44 : ((q : Int) + 1).toNat = q + 1 := by omega
     have pc44 : (0 : Int) ≤ (q : Int) + 1 := by omega
     have bc44 : (q : Int) + 1 < (d.size : Int) := by omega
     have rc44 : IntKind.i64.wrap ((q : Int) + 1) = (q : Int) + 1 := by rw [IntKind.wrap_i64]; omega
     have S2 : Aside (SWK enc k w0 blk off (Sort.swp dk q (q + 1)) ((wr.drew.setCells blk (off + q * k) (enc dk[q + 1]!)).setCells blk (off + (q + 1) * k) (enc dk[q]!))) := S1.out.swapped R q (q + 1) (by omega) (by omega)
     have l44a := S1.out.ld1 R (by omega) P q (by omega)
     have l44b := S1.out.ld1 R (by omega) P (q + 1) (by omega)
     have s44a := S1.out.st1 R (by omega) P q (by omega) dk[q + 1]!
     have s44b := S1.out.st2 R (by omega) P q (q + 1) (by omega) (by omega) dk[q + 1]! dk[q]!
     have n44a : (enc dk[q]!).length = k := R.hk _
     have n44b : (enc dk[q + 1]!).length = k := R.hk _
     generalize enc dk[q]! = cI44 at S2 l44a s44b n44a
     generalize enc dk[q + 1]! = cJ44 at S2 l44b s44a s44b n44b
     clear S1
     go_wp2_with fail
     go_big_region_o
     clear l44a l44b s44a s44b
     generalize (wr.drew.setCells blk (off + q * k) cJ44).setCells blk (off + (q + 1) * k) cI44 = w2 at S2 ⊢
     go_wp2
     go_roundg (i - (q + 1))
     case measure => omega
     case rel => exact ⟨q + 1, Sort.swp dk q (q + 1), by go_num, by omega, by omega, Nat.le_refl _, by rw [size_swp]; exact hds, S2, ⟨PP.out.1.swp _ _ (by omega) (by omega), fun rr => absurd (RI.out rr) (by have := HA.out; omega)⟩⟩
    ·have hqz : ¬ (q : Int) < (i : Int) - 1 := by omega
     go_wp2
     (try simp only [Exit.inBlock, Exit.then])
     refine bodyPost_ret (results_none rfl _ _ _) rfl ?_
     exact ⟨rfl, dk, PP.out, S1.out⟩
end Go.Proofs.W
namespace Go.Proofs.W
open Go Go.Proofs Go.Shelf Go.RowKit Go.Lib Go.Sort
set_option maxRecDepth 1000000
set_option linter.unusedSectionVars false
variable {α : Type} [Inhabited α]
set_option maxHeartbeats 8000000 in
theorem symMerge2 {P : Program} {k : Nat} (L : Stab P k) (enc : α → List Value) (cf : α → α → Int) (g : Nat) (cb : Array Value) (blk off cap a m b : Nat) (d0 d : Array α) (w0 w : World)
  (eg : ∀ args w, (callFunc g args).run P w = .ok (.enter g args) w) (hcmp : CmpLays P g cb enc k cf blk off d.size w0)
  (R : RowK enc k w0 blk off d0) (hs : d0.size = d.size) (S : SWK enc k w0 blk off d w) (ha : a + 1 < m) (hm : b = m + 1) (hb : b ≤ d.size) (hsz : d.size < 4611686018427387904) :
  Calls P 121 #[.slice (some ⟨blk, off, none⟩) d.size cap, .int .i64 a, .int .i64 m, .int .i64 b, .func (.func g) #[] cb] w fun e w' => e = .returned (.tuple #[]) ∧ ∃ d', SortA cf d d' ∧ SWK enc k w0 blk off d' w' := by
 have mixed := L.mixed; have t3 := L.t3; have a3 := L.a3; have z3 := L.z3; have v3 := L.v3; have t4 := L.t4; have a4 := L.a4; have z4 := L.z4; have v4 := L.v4; have t22 := L.t22; have a22 := L.a22; have z22 := L.z22; have v22 := L.v22; have aE := L.aE; have zE := L.zE; have t5 := L.t5; have a5 := L.a5; have z5 := L.z5; have v5 := L.v5
 have FG := L.symMerge
 have S0 : Aside (SWK enc k w0 blk off d w) := S
 have HC : Aside (CmpLays P g cb enc k cf blk off d.size w0) := hcmp
 have hma : (b : Int) - (m : Int) = 1 := by omega
 have hmb : ¬ (m : Int) - (a : Int) = 1 := by omega
 have hmaB : Hid (((b : Int) - (m : Int) == 1) = true) := by show _ = _; rw [beq_iff_eq]; omega
 have hmbB : Hid (((m : Int) - (a : Int) == 1) = false) := by show _ = _; rw [beq_eq_false_iff_ne]; omega
 have HA : Hid (b = m + 1) := hm
 clear S hcmp hm
 go_enter FG, Tryz.ntmps121
 go_wp2
 clear hma hmb
 try simp only [hmaB.out]
 try simp only [hmbB.out]
 go_loopg [14, 15] b (fun kx s10 s11 wr => ∃ (i j : Nat), s10 = .int .i64 i ∧ s11 = .int .i64 j ∧ a ≤ i ∧ i ≤ j ∧ j ≤ m ∧ j - i ≤ kx ∧ Aside (SWK enc k w0 blk off d wr) ∧ Hid (RiseC cf d → j = m))
 case atStart => exact ⟨a, m, rfl, rfl, Nat.le_refl _, by omega, Nat.le_refl _, by have := HA.out; omega, S0, fun _ => rfl⟩
 case round =>
  clear S0
  obtain ⟨i, j, rfl, rfl, hi, hij, hjm, hkx, S1, RI⟩ := hrel
  have hmd : m < d.size := by have := HA.out; omega
  by_cases hlt : i < j
  ·obtain ⟨h, hh⟩ : ∃ h, h = (i + j) / 2 := ⟨_, rfl⟩
   have hltz : (i : Int) < (j : Int) := by omega
   have hmi : ((i : Int) + (j : Int)) / 2 = (h : Int) := by omega
   have hh1 : i ≤ h := by omega
   have hh2 : h < j := by omega
   clear hh
   have ea44 : ((h : Int)).toNat = h := by omega
   have pa44 : (0 : Int) ≤ (h : Int) := by omega
   have ba44 : (h : Int) < (d.size : Int) := by omega
   have pc44 : (0 : Int) ≤ (m : Int) := by omega
   have bc44 : (m : Int) < (d.size : Int) := by omega
   obtain ⟨x, hx⟩ : ∃ x, x = d[m]! := ⟨_, rfl⟩
   obtain ⟨y, hy⟩ : ∃ x, x = d[h]! := ⟨_, rfl⟩
   have l1 := S1.out.ld R (by omega) P m (by omega)
   have l2 := S1.out.ld R (by omega) P h (by omega)
   rw [← hx] at l1
   rw [← hy] at l2
   have hc := S1.out.cmp HC.out rfl x y
   have HNR : Hid (RiseC cf d → ¬ cf x y < 0) := fun rr => by rw [hx, hy]; exact rr h m (by omega) (by omega)
   clear hx hy
   generalize cf x y = r at hc HNR
   by_cases hr : r < 0
   ·have hd38 : decide (r < 0) = true := decide_eq_true hr
    go_wp2_with fail
    go_quiet_grown (first | (go_at_fn g; refine Calls.grown_of (hc _ _)))
    have S2 : Aside (SWK enc k w0 blk off d (grow (wr.drewN nq) osq)) := S1.out.grown nq osq
    clear l1 l2 hc S1
    generalize grow (wr.drewN nq) osq = w2 at S2 ⊢
    go_wp2
    go_roundg (h - i)
    case measure => omega
    case rel => exact ⟨i, h, rfl, rfl, hi, hh1, by omega, Nat.le_refl _, S2, fun rr => (by have h5 := HNR.out rr; omega)⟩
   ·have hd38 : decide (r < 0) = false := decide_eq_false hr
    go_wp2_with fail
    go_quiet_grown (first | (go_at_fn g; refine Calls.grown_of (hc _ _)))
    have S2 : Aside (SWK enc k w0 blk off d (grow (wr.drewN nq) osq)) := S1.out.grown nq osq
    clear l1 l2 hc S1
    generalize grow (wr.drewN nq) osq = w2 at S2 ⊢
    go_wp2
    go_roundg (j - (h + 1))
    case measure => omega
    case rel => exact ⟨h + 1, j, by go_num, rfl, by omega, by omega, hjm, Nat.le_refl _, S2, RI⟩
  ·have hltz : ¬ (i : Int) < (j : Int) := by omega
   have him : i ≤ m := by omega
   have RI2 : Hid (RiseC cf d → i = m) := fun rr => by have := RI.out rr; omega
   clear hkx hij hjm hlt
   go_wp2
   go_loopg [17] b (fun kx s13 wr => ∃ (q : Nat) (dk : Array α), s13 = .int .i64 q ∧ i ≤ q ∧ q ≤ m ∧ q - i ≤ kx ∧ dk.size = d.size ∧ Aside (SWK enc k w0 blk off dk wr) ∧ Aside (SortA cf d dk))
   case atStart => exact ⟨m, d, rfl, him, Nat.le_refl _, by have := HA.out; omega, rfl, S1, SortA.refl cf d⟩
   case round =>
    clear S1
    obtain ⟨q, dk, rfl, hq1, hq2, hkx, hds, S1, PP⟩ := hrel
    by_cases hqi : i < q
    ·have hqz : (i : Int) < (q : Int) := by omega
     have ea44 : ((q : Int)).toNat = q := by omega
     have pa44 : (0 : Int) ≤ (q : Int) := by omega
     have ba44 : (q : Int) < (d.size : Int) := by omega
     have ec44 : ((q : Int) - 1).toNat = q - 1 := by omega
     have pc44 : (0 : Int) ≤ (q : Int) - 1 := by omega
     have bc44 : (q : Int) - 1 < (d.size : Int) := by omega
     have rc44 : IntKind.i64.wrap ((q : Int) - 1) = (q : Int) - 1 := by rw [IntKind.wrap_i64]; omega
     have S2 : Aside (SWK enc k w0 blk off (Sort.swp dk q (q - 1)) ((wr.drew.setCells blk (off + q * k) (enc dk[q - 1]!)).setCells blk (off + (q - 1) * k) (enc dk[q]!))) := S1.out.swapped R q (q - 1) (by omega) (by omega)
     have l44a := S1.out.ld1 R (by omega) P q (by omega)
     have l44b := S1.out.ld1 R (by omega) P (q - 1) (by omega)
     have s44a := S1.out.st1 R (by omega) P q (by omega) dk[q - 1]!
     have s44b := S1.out.st2 R (by omega) P q (q - 1) (by omega) (by omega) dk[q - 1]! dk[q]!
     have n44a : (enc dk[q]!).length = k := R.hk _
     have n44b : (enc dk[q - 1]!).length = k := R.hk _
     generalize enc dk[q]! = cI44 at S2 l44a s44b n44a
     generalize enc dk[q - 1]! = cJ44 at S2 l44b s44a s44b n44b
     clear S1
     go_wp2_with fail
     go_big_region_o
     clear l44a l44b s44a s44b
     generalize (wr.drew.setCells blk (off + q * k) cJ44).setCells blk (off + (q - 1) * k) cI44 = w2 at S2 ⊢
     go_wp2
     go_roundg (q - 1 - i)
     case measure => omega
     case rel => exact ⟨q - 1, Sort.swp dk q (q - 1), by go_num, by omega, by omega, Nat.le_refl _, by rw [size_swp]; exact hds, S2, ⟨PP.out.1.swp _ _ (by omega) (by omega), fun rr => absurd (RI2.out rr) (by omega)⟩⟩
    ·have hqz : ¬ (i : Int) < (q : Int) := by omega
     go_wp2
     (try simp only [Exit.inBlock, Exit.then])
     refine bodyPost_ret (results_none rfl _ _ _) rfl ?_
     exact ⟨rfl, dk, PP.out, S1.out⟩
end Go.Proofs.W
namespace Go.Proofs.W
open Go Go.Proofs Go.Shelf Go.RowKit Go.Lib Go.Sort
set_option maxRecDepth 1000000
set_option linter.unusedSectionVars false
variable {α : Type} [Inhabited α]
set_option maxHeartbeats 16000000 in
theorem symMerge {P : Program} {k : Nat} (L : Stab P k) (enc : α → List Value) (cf : α → α → Int) (g : Nat) (cb : Array Value) (blk off cap : Nat) (d0 : Array α) (w0 : World)
  (eg : ∀ args w, (callFunc g args).run P w = .ok (.enter g args) w) (hcmp : CmpLays P g cb enc k cf blk off d0.size w0)
  (R : RowK enc k w0 blk off d0) (hsz : d0.size < 4611686018427387904) : ∀ (n a m b : Nat) (d : Array α) (w : World), b - a ≤ n → d.size = d0.size → SWK enc k w0 blk off d w → a < m → m < b → b ≤ d0.size →
  Calls P 121 #[.slice (some ⟨blk, off, none⟩) d0.size cap, .int .i64 a, .int .i64 m, .int .i64 b, .func (.func g) #[] cb] w fun e w' => e = .returned (.tuple #[]) ∧ ∃ d', SortA cf d d' ∧ SWK enc k w0 blk off d' w' := by
 intro n
 induction n with
 | zero => intro a m b d w h1 _ _ h2 h3; omega
 | succ n ih =>
  intro a m b d w hn hs S ha hm hb
  by_cases c1 : m = a + 1
  ·have := symMerge1 L enc cf g cb blk off cap a m b d0 d w0 w eg (by rw [hs]; exact hcmp) R hs.symm S c1 hm (by omega) (by omega)
   rwa [hs] at this
  by_cases c2 : b = m + 1
  ·have := symMerge2 L enc cf g cb blk off cap a m b d0 d w0 w eg (by rw [hs]; exact hcmp) R hs.symm S (by omega) c2 (by omega) (by omega)
   rwa [hs] at this
  have mixed := L.mixed; have t3 := L.t3; have a3 := L.a3; have z3 := L.z3; have v3 := L.v3; have t4 := L.t4; have a4 := L.a4; have z4 := L.z4; have v4 := L.v4; have t22 := L.t22; have a22 := L.a22; have z22 := L.z22; have v22 := L.v22; have aE := L.aE; have zE := L.zE; have t5 := L.t5; have a5 := L.a5; have z5 := L.z5; have v5 := L.v5
  have FG := L.symMerge
  have e1 : ∀ args w, (callFunc 175 args).run P w = .ok (.enter 175 args) w := enters_of L.rotate (by kernel_rfl) rfl
  have e2 : ∀ args w, (callFunc 121 args).run P w = .ok (.enter 121 args) w := enters_of L.symMerge (by kernel_rfl) rfl
  have S0 : Aside (SWK enc k w0 blk off d w) := S
  have HC : Aside (CmpLays P g cb enc k cf blk off d0.size w0) := hcmp
  have IH : Aside _ := ih
  obtain ⟨mid, hmd⟩ : ∃ mid, mid = (a + b) / 2 := ⟨_, rfl⟩
  have hmi : ((a : Int) + (b : Int)) / 2 = (mid : Int) := by omega
  have hm1 : a < mid := by omega
  have hm2 : mid < b := by omega
  have hm3 : a + b ≤ mid + mid + 1 := by omega
  have hm4 : mid + mid ≤ a + b := by omega
  have hma : ¬ (m : Int) - (a : Int) = 1 := by omega
  have hbm : ¬ (b : Int) - (m : Int) = 1 := by omega
  have hmaB : Hid (((m : Int) - (a : Int) == 1) = false) := by show _ = _; rw [beq_eq_false_iff_ne]; omega
  have hbmB : Hid (((b : Int) - (m : Int) == 1) = false) := by show _ = _; rw [beq_eq_false_iff_ne]; omega
  clear S hcmp ih c1 c2 hmd
  go_enter FG, Tryz.ntmps121
  by_cases hgt : mid < m
  all_goals
   have hgz : ((mid : Int) < (m : Int)) = (mid < m) := by simp
   go_wp2
   clear hma hbm hmi hgz
   try simp only [hmaB.out]
   try simp only [hbmB.out]
   go_loopg [20, 21] b (fun kx s20 s21 wr => ∃ (i j : Nat), s20 = .int .i64 i ∧ s21 = .int .i64 j ∧ a ≤ i ∧ i ≤ j ∧ j ≤ m ∧ j ≤ mid ∧ mid + m ≤ b + i ∧ j - i ≤ kx ∧ Aside (SWK enc k w0 blk off d wr) ∧ Hid (RiseC cf d → (mid < m → j = mid) ∧ (¬ mid < m → j = m)))
   case atStart => first | exact ⟨mid + m - b, mid, by go_num, rfl, by omega, by omega, by omega, by omega, by omega, by omega, S0, fun _ => ⟨fun _ => rfl, fun h => absurd hgt h⟩⟩ | exact ⟨a, m, rfl, rfl, by omega, by omega, by omega, by omega, by omega, by omega, S0, fun _ => ⟨fun h => absurd h hgt, fun _ => rfl⟩⟩
   case round =>
    clear S0
    obtain ⟨i, j, rfl, rfl, hi, hij, hjm, hjd, him, hkx, S1, RI⟩ := hrel
    by_cases hlt : i < j
    ·obtain ⟨h, hh⟩ : ∃ h, h = (i + j) / 2 := ⟨_, rfl⟩
     have hltz : (i : Int) < (j : Int) := by omega
     have hmi : ((i : Int) + (j : Int)) / 2 = (h : Int) := by omega
     have hh1 : i ≤ h := by omega
     have hh2 : h < j := by omega
     clear hh
     obtain ⟨ix, hix⟩ : ∃ ix : Nat, ix = mid + m - 1 - h := ⟨_, rfl⟩
     have hsub : (mid : Int) + (m : Int) - 1 - (h : Int) = (ix : Int) := by omega
     have hixl : ix < d0.size := by omega
     have hhx : h < ix := by omega
     have ea44 : ((ix : Int)).toNat = ix := by omega
     have pa44 : (0 : Int) ≤ (ix : Int) := by omega
     have ba44 : (ix : Int) < (d0.size : Int) := by omega
     have ra44 : IntKind.i64.wrap (ix : Int) = (ix : Int) := by rw [IntKind.wrap_i64]; omega
     clear hix
     have ec44 : ((h : Int)).toNat = h := by omega
     have pc44 : (0 : Int) ≤ (h : Int) := by omega
     have bc44 : (h : Int) < (d0.size : Int) := by omega
     obtain ⟨x, hx⟩ : ∃ x, x = d[ix]! := ⟨_, rfl⟩
     obtain ⟨y, hy⟩ : ∃ x, x = d[h]! := ⟨_, rfl⟩
     have l1 := S1.out.ld R hs P ix (by omega)
     have l2 := S1.out.ld R hs P h (by omega)
     rw [← hx] at l1
     rw [← hy] at l2
     have hc := S1.out.cmp HC.out hs x y
     have HNR : Hid (RiseC cf d → ¬ cf x y < 0) := fun rr => by rw [hx, hy]; exact rr h ix hhx (by rw [hs]; exact hixl)
     clear hx hy
     generalize cf x y = r at hc HNR
     by_cases hr : r < 0
     ·have hd38 : decide (r < 0) = true := decide_eq_true hr
      go_wp2_with fail
      go_quiet_grown (first | (go_at_fn g; refine Calls.grown_of (hc _ _)))
      have S2 : Aside (SWK enc k w0 blk off d (grow (wr.drewN nq) osq)) := S1.out.grown nq osq
      clear l1 l2 hc S1
      generalize grow (wr.drewN nq) osq = w2 at S2 ⊢
      go_wp2
      go_roundg (h - i)
      case measure => omega
      case rel => exact ⟨i, h, rfl, rfl, hi, hh1, by omega, by omega, him, Nat.le_refl _, S2, fun rr => (by have h5 := HNR.out rr; omega)⟩
     ·have hd38 : decide (r < 0) = false := decide_eq_false hr
      go_wp2_with fail
      go_quiet_grown (first | (go_at_fn g; refine Calls.grown_of (hc _ _)))
      have S2 : Aside (SWK enc k w0 blk off d (grow (wr.drewN nq) osq)) := S1.out.grown nq osq
      clear l1 l2 hc S1
      generalize grow (wr.drewN nq) osq = w2 at S2 ⊢
      go_wp2
      go_roundg (j - (h + 1))
      case measure => omega
      case rel => exact ⟨h + 1, j, by go_num, rfl, by omega, by omega, hjm, hjd, by omega, Nat.le_refl _, S2, RI⟩
    ·have hltz : ¬ (i : Int) < (j : Int) := by omega
     have him1 : i ≤ m := by omega
     have him2 : i ≤ mid := by omega
     have RI2 : Hid (RiseC cf d → (mid < m → i = mid) ∧ (¬ mid < m → i = m)) := fun rr => ⟨fun h => by have := (RI.out rr).1 h; omega, fun h => by have := (RI.out rr).2 h; omega⟩
     clear hkx hij hjm hjd hlt
     obtain ⟨en, hen⟩ : ∃ en : Nat, en = mid + m - i := ⟨_, rfl⟩
     have henz : (en : Int) = (mid : Int) + (m : Int) - (i : Int) := by omega
     have hrot : ∀ dk w, dk.size = d0.size → SWK enc k w0 blk off dk w → i < m → i < mid → Calls P 175 #[.slice (some ⟨blk, off, none⟩) d0.size cap, .int .i64 i, .int .i64 m, .int .i64 ((mid : Int) + (m : Int) - (i : Int)), .func (.func g) #[] cb] w fun e w' => e = .returned (.tuple #[]) ∧ ∃ d', (PermA dk d' ∧ (RiseC cf d → dk = d → d' = d)) ∧ SWK enc k w0 blk off d' w' := fun dk w h1 h2 h3 h4 => by
      have := rotate L enc (.func (.func g) #[] cb) blk off cap i m en d0 dk w0 w R h1.symm h2 h3 (by omega) (by omega) (by omega)
      rw [h1, henz] at this
      refine this.mono fun e w' ⟨q1, d', q2, q3⟩ => ⟨q1, d', ⟨q2, fun rr _ => ?_⟩, q3⟩
      exfalso
      by_cases hg2 : mid < m
      ·have := (RI2.out rr).1 hg2; omega
      ·have := (RI2.out rr).2 hg2; omega
     have hsA : ∀ dk w, dk.size = d0.size → SWK enc k w0 blk off dk w → a < i → i < mid → Calls P 121 #[.slice (some ⟨blk, off, none⟩) d0.size cap, .int .i64 a, .int .i64 i, .int .i64 mid, .func (.func g) #[] cb] w fun e w' => e = .returned (.tuple #[]) ∧ ∃ d', (PermA dk d' ∧ (RiseC cf d → dk = d → d' = d)) ∧ SWK enc k w0 blk off d' w' := fun dk w h1 h2 h3 h4 =>
      (IH.out a i mid dk w (by omega) h1 h2 h3 h4 (by omega)).mono fun e w' ⟨q1, d', q2, q3⟩ => ⟨q1, d', ⟨q2.1, fun rr e => (q2.2 (by rw [e]; exact rr)).trans e⟩, q3⟩
     have hsB : ∀ dk w, dk.size = d0.size → SWK enc k w0 blk off dk w → i < m → (mid : Int) + (m : Int) - (i : Int) < (b : Int) → Calls P 121 #[.slice (some ⟨blk, off, none⟩) d0.size cap, .int .i64 mid, .int .i64 ((mid : Int) + (m : Int) - (i : Int)), .int .i64 b, .func (.func g) #[] cb] w fun e w' => e = .returned (.tuple #[]) ∧ ∃ d', (PermA dk d' ∧ (RiseC cf d → dk = d → d' = d)) ∧ SWK enc k w0 blk off d' w' := fun dk w h1 h2 h3 h4 => by
      have := IH.out mid en b dk w (by omega) h1 h2 (by omega) (by omega) (by omega)
      rw [henz] at this
      exact this.mono fun e w' ⟨q1, d', q2, q3⟩ => ⟨q1, d', ⟨q2.1, fun rr e => (q2.2 (by rw [e]; exact rr)).trans e⟩, q3⟩
     have HR : Hid _ := hrot
     have HSA : Hid _ := hsA
     have HSB : Hid _ := hsB
     have PP : Aside (SortA cf d d) := SortA.refl cf d
     clear hrot hsA hsB
     clear henz hen
     go_wp2_with (first
      | (go_at_fn 175; refine (HR.out _ _ hs S1.out (by omega) (by omega)).mono ?_; rintro e w' ⟨rfl, d', hp, hS⟩; replace PP : Aside (SortA cf _ _) := ⟨PP.out.1.trans hp.1, fun rr => hp.2 rr (PP.out.2 rr)⟩; replace hs := hp.1.size.trans hs; replace S1 : Aside _ := hS; clear hp hS)
      | (go_at_fn 121; refine Calls.mono (HSA.out _ _ hs S1.out ?_ ?_) ?_; omega; omega; rintro e w' ⟨rfl, d', hp, hS⟩; replace PP : Aside (SortA cf _ _) := ⟨PP.out.1.trans hp.1, fun rr => hp.2 rr (PP.out.2 rr)⟩; replace hs := hp.1.size.trans hs; replace S1 : Aside _ := hS; clear hp hS)
      | (go_at_fn 121; refine Calls.mono (HSB.out _ _ hs S1.out ?_ ?_) ?_; omega; omega; rintro e w' ⟨rfl, d', hp, hS⟩; replace PP : Aside (SortA cf _ _) := ⟨PP.out.1.trans hp.1, fun rr => hp.2 rr (PP.out.2 rr)⟩; replace hs := hp.1.size.trans hs; replace S1 : Aside _ := hS; clear hp hS))
     all_goals
      go_end0
      exact ⟨rfl, _, PP.out, S1.out⟩
end Go.Proofs.W
namespace Go.Proofs.W
open Go Go.Proofs Go.Shelf Go.RowKit Go.Lib Go.Sort
set_option maxRecDepth 1000000
set_option linter.unusedSectionVars false
variable {α : Type} [Inhabited α]
set_option maxHeartbeats 16000000 in
theorem stableCmp {P : Program} {k : Nat} (L : Stab P k) (enc : α → List Value) (cf : α → α → Int) (g : Nat) (cb : Array Value) (blk off cap : Nat) (d0 : Array α) (w0 : World)
  (eg : ∀ args w, (callFunc g args).run P w = .ok (.enter g args) w) (hcmp : CmpLays P g cb enc k cf blk off d0.size w0)
  (R : RowK enc k w0 blk off d0) (hsz : d0.size < 1152921504606846976)
  (e3 : ∀ args w, (callFunc 120 args).run P w = .ok (.enter 120 args) w)
  (hins : ∀ (a b : Nat) (d : Array α) (w : World), d.size = d0.size → SWK enc k w0 blk off d w → a ≤ b → b ≤ d0.size → Calls P 120 #[.slice (some ⟨blk, off, none⟩) d0.size cap, .int .i64 a, .int .i64 b, .func (.func g) #[] cb] w fun e w' => e = .returned (.tuple #[]) ∧ ∃ d', SortA cf d d' ∧ SWK enc k w0 blk off d' w')
  (w : World) (S : SWK enc k w0 blk off d0 w) :
  Calls P 68 #[.slice (some ⟨blk, off, none⟩) d0.size cap, .int .i64 d0.size, .func (.func g) #[] cb] w fun e w' => e = .returned (.tuple #[]) ∧ ∃ d', SortA cf d0 d' ∧ SWK enc k w0 blk off d' w' := by
 have hsm : ∀ (a m b : Nat) (d : Array α) (w : World), d.size = d0.size → SWK enc k w0 blk off d w → a < m → m < b → b ≤ d0.size → Calls P 121 #[.slice (some ⟨blk, off, none⟩) d0.size cap, .int .i64 a, .int .i64 m, .int .i64 b, .func (.func g) #[] cb] w fun e w' => e = .returned (.tuple #[]) ∧ ∃ d', SortA cf d d' ∧ SWK enc k w0 blk off d' w' :=
  fun a m b d w h1 h2 h3 h4 h5 => symMerge L enc cf g cb blk off cap d0 w0 eg hcmp R (by omega) (b - a) a m b d w (Nat.le_refl _) h1 h2 h3 h4 h5
 have mixed := L.mixed; have t3 := L.t3; have a3 := L.a3; have z3 := L.z3; have v3 := L.v3; have t4 := L.t4; have a4 := L.a4; have z4 := L.z4; have v4 := L.v4; have t22 := L.t22; have a22 := L.a22; have z22 := L.z22; have v22 := L.v22
 have FG := L.stable
 have e2 : ∀ args w, (callFunc 121 args).run P w = .ok (.enter 121 args) w := enters_of L.symMerge (by kernel_rfl) rfl
 have S0 : Aside (SWK enc k w0 blk off d0 w) := S
 have HI : Aside _ := hins
 have HM : Aside _ := hsm
 have HZ : Hid (d0.size < 1152921504606846976) := hsz
 clear S hcmp hins hsm
 go_enter FG, Tryz.ntmps68
 go_wp2
 go_loopg [7, 8] d0.size (fun kx s7 s8 wr => ∃ (i : Nat) (dk : Array α), s7 = .int .i64 i ∧ s8 = .int .i64 ((i : Int) + 20) ∧ i ≤ d0.size ∧ d0.size - i ≤ kx ∧ dk.size = d0.size ∧ Aside (SWK enc k w0 blk off dk wr) ∧ Aside (SortA cf d0 dk))
 case atStart => exact ⟨0, d0, rfl, rfl, Nat.zero_le _, by omega, rfl, S0, SortA.refl cf d0⟩
 case round =>
  clear S0
  obtain ⟨i, dk, rfl, rfl, hi, hkx, hs, S1, PP⟩ := hrel
  by_cases hlt : i + 20 ≤ d0.size
  ·have hltz : (i : Int) + 20 ≤ (d0.size : Int) := by omega
   have hin := HI.out i (i + 20) dk wr hs S1.out (by omega) hlt
   rw [Int.natCast_add] at hin
   go_wp2_with (first | (go_at_fn 120; refine Calls.mono hin ?_; rintro e w' ⟨rfl, d', hp, hS⟩))
   go_roundg (d0.size - (i + 20))
   case measure => omega
   case rel => exact ⟨i + 20, d', by go_num, by go_num, hlt, Nat.le_refl _, hp.size.trans hs, hS, PP.out.trans hp⟩
  ·have hltz : ¬ (i : Int) + 20 ≤ (d0.size : Int) := by omega
   have hin := HI.out i d0.size dk wr hs S1.out hi (Nat.le_refl _)
   go_wp2_with (first | (go_at_fn 120; refine Calls.mono hin ?_; rintro e w' ⟨rfl, d1, hp, hS⟩))
   replace PP : Aside (SortA cf _ _) := PP.out.trans hp
   replace hs := hp.size.trans hs
   replace S1 : Aside _ := hS
   clear hp hS hin hltz hlt hkx
   go_loopg [6] d0.size (fun kx s6 wr => ∃ (bs : Nat) (dk : Array α), s6 = .int .i64 bs ∧ 0 < bs ∧ d0.size - bs ≤ kx ∧ dk.size = d0.size ∧ Aside (SWK enc k w0 blk off dk wr) ∧ Aside (SortA cf d0 dk))
   case atStart => exact ⟨20, d1, rfl, by omega, by omega, hs, S1, PP⟩
   case round =>
    clear S1 PP hs
    obtain ⟨bs, dm, rfl, hb0, hkx, hs, S1, PP⟩ := hrel
    by_cases hlt : bs < d0.size
    ·have hltz : (bs : Int) < (d0.size : Int) := by omega
     go_wp2
     go_loopg [7, 8] d0.size (fun kx s7 s8 wr => ∃ (i : Nat) (dk : Array α), s7 = .int .i64 i ∧ s8 = .int .i64 ((i : Int) + 2 * (bs : Int)) ∧ i ≤ d0.size ∧ d0.size - i ≤ kx ∧ dk.size = d0.size ∧ Aside (SWK enc k w0 blk off dk wr) ∧ Aside (SortA cf d0 dk))
     case atStart => exact ⟨0, dm, rfl, by go_num, Nat.zero_le _, by omega, hs, S1, PP⟩
     case round =>
      clear S1 PP hs
      obtain ⟨i, dk, rfl, rfl, hi, hkx2, hs, S1, PP⟩ := hrel
      by_cases hl2 : i + 2 * bs ≤ d0.size
      ·have hl2z : (i : Int) + 2 * (bs : Int) ≤ (d0.size : Int) := by omega
       have hin := HM.out i (i + bs) (i + 2 * bs) dk wr hs S1.out (by omega) (by omega) hl2
       push_cast at hin
       go_wp2_with (first | (go_at_fn 121; refine Calls.mono hin ?_; rintro e w' ⟨rfl, d', hp, hS⟩))
       go_roundg (d0.size - (i + 2 * bs))
       case measure => omega
       case rel => exact ⟨i + 2 * bs, d', by go_num, by go_num, hl2, Nat.le_refl _, hp.size.trans hs, hS, PP.out.trans hp⟩
      ·have hl2z : ¬ (i : Int) + 2 * (bs : Int) ≤ (d0.size : Int) := by omega
       by_cases hl3 : i + bs < d0.size
       ·have hl3z : (i : Int) + (bs : Int) < (d0.size : Int) := by omega
        have hin := HM.out i (i + bs) d0.size dk wr hs S1.out (by omega) hl3 (Nat.le_refl _)
        push_cast at hin
        go_wp2_with (first | (go_at_fn 121; refine Calls.mono hin ?_; rintro e w' ⟨rfl, d', hp, hS⟩))
        go_roundg (d0.size - bs * 2)
        case measure => omega
        case rel => exact ⟨bs * 2, d', by go_num, by omega, Nat.le_refl _, hp.size.trans hs, hS, PP.out.trans hp⟩
       ·have hl3z : ¬ (i : Int) + (bs : Int) < (d0.size : Int) := by omega
        go_wp2
        go_roundg (d0.size - bs * 2)
        case measure => omega
        case rel => exact ⟨bs * 2, dk, by go_num, by omega, Nat.le_refl _, hs, S1, PP⟩
    ·have hltz : ¬ (bs : Int) < (d0.size : Int) := by omega
     go_wp2
     go_end0
     exact ⟨rfl, dm, PP.out, S1.out⟩
theorem sortStable {P : Program} {k : Nat} (L : Stab P k) (enc : α → List Value) (cf : α → α → Int) (g : Nat) (cb : Array Value) (blk off cap : Nat) (d0 : Array α) (w0 : World)
  (eg : ∀ args w, (callFunc g args).run P w = .ok (.enter g args) w) (hcmp : CmpLays P g cb enc k cf blk off d0.size w0)
  (R : RowK enc k w0 blk off d0) (hsz : d0.size < 1152921504606846976)
  (e3 : ∀ args w, (callFunc 120 args).run P w = .ok (.enter 120 args) w)
  (hins : ∀ (a b : Nat) (d : Array α) (w : World), d.size = d0.size → SWK enc k w0 blk off d w → a ≤ b → b ≤ d0.size → Calls P 120 #[.slice (some ⟨blk, off, none⟩) d0.size cap, .int .i64 a, .int .i64 b, .func (.func g) #[] cb] w fun e w' => e = .returned (.tuple #[]) ∧ ∃ d', SortA cf d d' ∧ SWK enc k w0 blk off d' w') :
  Calls P 28 #[.slice (some ⟨blk, off, none⟩) d0.size cap, .func (.func g) #[] cb] w0 fun e w' => e = .returned (.tuple #[]) ∧ ∃ d', SortA cf d0 d' ∧ SWK enc k w0 blk off d' w' := by
 have hst := stableCmp L enc cf g cb blk off cap d0 w0 eg hcmp R hsz e3 hins w0 (SWK.start R.hH)
 have mixed := L.mixed; have t3 := L.t3; have a3 := L.a3; have z3 := L.z3; have v3 := L.v3; have t22 := L.t22; have a22 := L.a22; have z22 := L.z22; have v22 := L.v22
 have FG := L.sort
 have e2 : ∀ args w, (callFunc 68 args).run P w = .ok (.enter 68 args) w := enters_of L.stable (by kernel_rfl) rfl
 clear hins hcmp
 go_enter FG, Tryz.ntmps28
 go_wp2_with (first | (go_at_fn 68; refine Calls.mono hst ?_; rintro e w' ⟨rfl, d', hp, hS⟩))
 go_end0
 exact ⟨rfl, d', hp, hS⟩
end Go.Proofs.W
namespace Go.Proofs.W
open Go Go.Proofs Go.Shelf Go.RowKit Go.Lib Go.Sort
set_option maxRecDepth 1000000
def FileK : Type := { f : FileV // f.path.size < 4294967281 }
instance : Inhabited FileK := ⟨⟨⟨ByteArray.empty, false, [], none, 0⟩, by show ByteArray.empty.size < _; decide⟩⟩
def FileK.enc (x : FileK) : List Value := x.1.cells
def FileK.cf (x y : FileK) : Int := orderP x.1.path y.1.path
theorem FileK.swo : SWO (ltOf FileK.cf) := by
 have hl : ∀ x y : FileK, ltOf FileK.cf x y = pathLess x.1.path y.1.path := fun x y => by
  unfold ltOf FileK.cf
  have := orderP_neg x.1.path y.1.path
  cases h : pathLess x.1.path y.1.path with
  | true => exact decide_eq_true (this.2 h)
  | false => exact decide_eq_false fun e => by rw [this.1 e] at h; cases h
 constructor
 ·intro x; rw [hl]; exact pathLess_irr _
 ·intro x y z h1 h2; rw [hl] at *; exact pathLess_tr h1 h2
 ·intro x y z h1 h2
  rw [hl] at *
  cases h : pathLess x.1.path z.1.path with
  | false => rfl
  | true =>
   cases h3 : pathLess y.1.path x.1.path with
   | true => rw [pathLess_tr h3 h] at h2; cases h2
   | false => rw [pathLess_tri h1 h3] at h; rw [h] at h2; cases h2
theorem cell?_swk {α : Type} [Inhabited α] {enc : α → List Value} {k : Nat} (W : World) (blk off n : Nat) (dk : Array α) (os : Array Obj) (a : Addr) (h1 : a.block ≠ blk) (h2 : a.block < W.heap.size) : (sortWorldK enc k W blk off n dk os).cell? a = W.cell? a := by
 unfold sortWorldK
 rw [cell?_grow _ _ _ (by rw [size_putRowK]; exact h2), cell?_putRowK_other _ _ _ _ _ _ _ h1]
 rfl
theorem HasM.swk {α : Type} [Inhabited α] {enc : α → List Value} {k : Nat} {w : World} (h : HasM w) (blk off n : Nat) (dk : Array α) (os : Array Obj) (hne : 2 ≠ blk) : HasM (sortWorldK enc k w blk off n dk os) := by
 obtain ⟨m, h1, h2⟩ := h
 refine ⟨m, (cell?_swk w blk off n dk os _ hne h2).trans h1, ?_⟩
 unfold sortWorldK
 rw [size_grow, size_putRowK]
 exact Nat.lt_of_lt_of_le h2 (Nat.le_add_right _ _)
theorem order_lays (w : World) (hm : HasM w) (blk off size : Nat) (hne : 2 ≠ blk) : CmpLays Tryz.prog 29 #[] FileK.enc 3 FileK.cf blk off size w := by
 intro m os dk _ x y
 exact (tree_order x.1 y.1 _ x.2 y.2 (hm.swk blk off m dk os hne)).grows
theorem insInner_same {α : Type} [Inhabited α] {cf : α → α → Int} {d : Array α} (h : RiseC cf d) (a : Nat) : ∀ j, j < d.size → insInner (ltOf cf) a j d = d
 | 0, _ => rfl
 | j + 1, hj => by
  unfold insInner
  have h1 : ltOf cf d[j + 1]! d[j]! = false := decide_eq_false (h j (j + 1) (Nat.lt_succ_self j) hj)
  rw [h1, Bool.and_false]
  rfl
theorem insOuter_same {α : Type} [Inhabited α] {cf : α → α → Int} {d : Array α} (h : RiseC cf d) (a b : Nat) (hb : b ≤ d.size) : ∀ n i, b - i = n → insOuter (ltOf cf) a b i d = d
 | 0, i, hn => by rw [insOuter, if_neg (by omega)]
 | n + 1, i, hn => by
  rw [insOuter, if_pos (by omega), insInner_same h a i (by omega)]
  exact insOuter_same h a b hb n (i + 1) (by omega)
theorem ins_same {α : Type} [Inhabited α] {cf : α → α → Int} {d : Array α} (h : RiseC cf d) (a b : Nat) (hb : b ≤ d.size) : insertionSort (ltOf cf) d a b = d := insOuter_same h a b hb _ _ rfl
theorem sortFiles (blk off cap : Nat) (d0 : Array FileK) (w0 : World) (hm : HasM w0) (hne : 2 ≠ blk) (hH : HoldsK FileK.enc 3 w0 blk off d0) (hblk : blk < w0.heap.size) (hsz : d0.size < 1152921504606846976) :
  Calls Tryz.prog 28 #[.slice (some ⟨blk, off, none⟩) d0.size cap, .func (.func 29) #[] #[]] w0 fun e w' => e = .returned (.tuple #[]) ∧ ∃ d', SortA FileK.cf d0 d' ∧ SWK FileK.enc 3 w0 blk off d' w' := by
 have R : RowK FileK.enc 3 w0 blk off d0 := ⟨fun x => fileCells_len x.1, fun x => fileCells_one x.1, hH, hblk⟩
 refine sortStable stab FileK.enc FileK.cf 29 #[] blk off cap d0 w0 order_enters (order_lays w0 hm blk off _ hne) R hsz (enters_of Tryz.func120 (by kernel_rfl) rfl) fun a b d w hs S hab hb => ?_
 have h := AnyQ.insertionSortCmpFunc_w Tryz.insLays 3 (fun w => by kernel_rfl) (fun w => by kernel_rfl) FileK.enc FileK.cf 29 #[] blk off cap a b d0 d w0 w order_enters (order_lays w0 hm blk off _ hne) R hs.symm S FileK.swo hab (by omega) (by omega)
 rw [hs] at h
 exact h.mono fun e w' ⟨h1, h2⟩ => ⟨h1, _, ⟨PermA.ofIn (insertionSort_holds FileK.swo d a b hab (by omega)).1 (by omega), fun rr => ins_same rr a b (by omega)⟩, h2⟩
end Go.Proofs.W
