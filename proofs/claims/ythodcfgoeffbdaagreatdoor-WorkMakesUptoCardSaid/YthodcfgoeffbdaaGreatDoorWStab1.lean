/- A PART OF THE PROOF THAT WORKMAKES HOLDS FOR EVERY INPUT OF BULK AT MOST 1048576. No condition beyond the given statement. This part: WStab1. -/
import Derived.Test.YthodcfgoeffbdaaGreatDoorWWith
import Derived.Shelf.SlSortCmp.KitK
import Derived.Sort.WalkB2
import Derived.Sort.WalkB12
import Derived.Deep.LoopGhost
namespace Go.Proofs.W
open Go Go.Proofs Go.Shelf Go.RowKit Go.Lib Go.Sort
set_option maxRecDepth 1000000
set_option linter.unusedSectionVars false
variable {α : Type} [Inhabited α]

/-- the same elements in another order -/
def PermA (d d' : Array α) : Prop := d'.toList.Perm d.toList
theorem PermA.refl (d : Array α) : PermA d d := List.Perm.refl _
theorem PermA.trans {a b c : Array α} (h : PermA a b) (h2 : PermA b c) : PermA a c := List.Perm.trans h2 h
theorem PermA.size {a b : Array α} (h : PermA a b) : b.size = a.size := by simpa using h.length_eq
theorem PermA.swp {a b : Array α} (h : PermA a b) (i j : Nat) (hi : i < b.size) (hj : j < b.size) : PermA a (Sort.swp b i j) := by
  unfold PermA Sort.swp
  rw [Array.toList_setIfInBounds, Array.toList_setIfInBounds, getElem!_pos b i hi, getElem!_pos b j hj]
  exact (perm_set_set b.toList i j (by simpa using hi) (by simpa using hj)).trans h
theorem PermA.ofIn {a b : Array α} {i j : Nat} (h : PermIn i j a b) (hj : j ≤ a.size) : PermA a b := by
  have h0 : PermIn 0 a.size a b := permIn_mono _ _ _ _ _ _ (Nat.zero_le _) hj (Nat.le_refl _) h
  have hp := h0.2.2
  have e1 : b.extract 0 a.size = b := by rw [← h0.1]; exact Array.extract_size
  rw [e1, Array.extract_size] at hp
  exact hp

/-- what the stable sort's walks are told of the program: A PROGRAM THAT IS A VARIABLE (so that a load of k cells stays one equation) -/
structure Stab (P : Program) (k : Nat) : Prop where
  mixed : P.follows .mixedOrders = true
  t3 : P.underlying 3 = some (TypeDesc.int IntKind.i64)
  a3 : ∀ w, (isAgg 3).run P w = .ok false w
  z3 : ∀ w, (Go.sizeOf 3).run P w = .ok 1 w
  v3 : ∀ w, (zeroValue 3).run P w = .ok (Value.int IntKind.i64 0) w
  t4 : P.underlying 4 = some (TypeDesc.bool)
  a4 : ∀ w, (isAgg 4).run P w = .ok false w
  z4 : ∀ w, (Go.sizeOf 4).run P w = .ok 1 w
  v4 : ∀ w, (zeroValue 4).run P w = .ok (Value.bool false) w
  t5 : P.underlying 164 = some (TypeDesc.int IntKind.u64)
  a5 : ∀ w, (isAgg 164).run P w = .ok false w
  z5 : ∀ w, (Go.sizeOf 164).run P w = .ok 1 w
  v5 : ∀ w, (zeroValue 164).run P w = .ok (Value.int IntKind.u64 0) w
  t22 : P.underlying 22 = some (TypeDesc.slice 53)
  a22 : ∀ w, (isAgg 22).run P w = .ok false w
  z22 : ∀ w, (Go.sizeOf 22).run P w = .ok 1 w
  v22 : ∀ w, (zeroValue 22).run P w = .ok (Value.slice none 0 0) w
  aE : ∀ w, (isAgg 53).run P w = .ok true w
  zE : ∀ w, (Go.sizeOf 53).run P w = .ok k w
  swapRange : P.funcs[210]? = some Tryz.f210
  rotate : P.funcs[165]? = some Tryz.f165
  symMerge : P.funcs[112]? = some Tryz.f112
  stable : P.funcs[60]? = some Tryz.f60
  sort : P.funcs[23]? = some Tryz.f23
theorem stab : Stab Tryz.prog 3 where
  mixed := by kernel_rfl
  t3 := by kernel_rfl
  a3 := fun w => by kernel_rfl
  z3 := fun w => by kernel_rfl
  v3 := fun w => by kernel_rfl
  t4 := by kernel_rfl
  a4 := fun w => by kernel_rfl
  z4 := fun w => by kernel_rfl
  v4 := fun w => by kernel_rfl
  t5 := by kernel_rfl
  a5 := fun w => by kernel_rfl
  z5 := fun w => by kernel_rfl
  v5 := fun w => by kernel_rfl
  t22 := by kernel_rfl
  a22 := fun w => by kernel_rfl
  z22 := fun w => by kernel_rfl
  v22 := fun w => by kernel_rfl
  aE := fun w => by kernel_rfl
  zE := fun w => by kernel_rfl
  swapRange := Tryz.func210
  rotate := Tryz.func165
  symMerge := Tryz.func112
  stable := Tryz.func60
  sort := Tryz.func23

set_option maxHeartbeats 4000000 in
theorem swapRange {P : Program} {k : Nat} (L : Stab P k) (enc : α → List Value) (cmp : Value) (blk off cap a b n : Nat) (d0 d : Array α) (w0 w : World)
    (R : RowK enc k w0 blk off d0) (hs : d0.size = d.size) (S : SWK enc k w0 blk off d w) (ha : a + n ≤ d.size) (hb : b + n ≤ d.size) (hsz : d.size < 4611686018427387904) :
    Calls P 210 #[.slice (some ⟨blk, off, none⟩) d.size cap, .int .i64 a, .int .i64 b, .int .i64 n, cmp] w fun e w' => e = .returned (.tuple #[]) ∧ ∃ d', PermA d d' ∧ SWK enc k w0 blk off d' w' := by
  have mixed := L.mixed; have t3 := L.t3; have a3 := L.a3; have z3 := L.z3; have v3 := L.v3; have t4 := L.t4; have a4 := L.a4; have z4 := L.z4; have v4 := L.v4; have t22 := L.t22; have a22 := L.a22; have z22 := L.z22; have v22 := L.v22; have aE := L.aE; have zE := L.zE
  have FG := L.swapRange
  have S0 : Aside (SWK enc k w0 blk off d w) := S
  clear S
  go_enter FG, Tryz.ntmps210
  go_wp2
  go_loopg [10] n (fun kx s10 wr => ∃ (i : Nat) (dk : Array α), s10 = .int .i64 i ∧ i ≤ n ∧ n - i ≤ kx ∧ dk.size = d.size ∧ Aside (SWK enc k w0 blk off dk wr) ∧ Aside (PermA d dk))
  case atStart => exact ⟨0, d, rfl, by omega, by omega, rfl, S0, PermA.refl d⟩
  case round =>
    clear S0
    obtain ⟨i, dk, rfl, h1, hkx, hds, S1, PP⟩ := hrel
    by_cases hlt : i < n
    · have hltz : (i : Int) < (n : Int) := by omega
      go_wp2_with fail
      have ea44 : ((a : Int) + (i : Int)).toNat = a + i := by omega
      have pa44 : (0 : Int) ≤ (a : Int) + (i : Int) := by omega
      have ba44 : (a : Int) + (i : Int) < (d.size : Int) := by omega
      have ra44 : IntKind.i64.wrap ((a : Int) + (i : Int)) = (a : Int) + (i : Int) := by rw [IntKind.wrap_i64]; omega
      have ec44 : ((b : Int) + (i : Int)).toNat = b + i := by omega
      have pc44 : (0 : Int) ≤ (b : Int) + (i : Int) := by omega
      have bc44 : (b : Int) + (i : Int) < (d.size : Int) := by omega
      have rc44 : IntKind.i64.wrap ((b : Int) + (i : Int)) = (b : Int) + (i : Int) := by rw [IntKind.wrap_i64]; omega
      have S2 : Aside (SWK enc k w0 blk off (Sort.swp dk (a + i) (b + i)) ((wr.drew.setCells blk (off + (a + i) * k) (enc dk[b + i]!)).setCells blk (off + (b + i) * k) (enc dk[a + i]!))) := S1.out.swapped R (a + i) (b + i) (by omega) (by omega)
      have l44a := S1.out.ld1 R (by omega) P (a + i) (by omega)
      have l44b := S1.out.ld1 R (by omega) P (b + i) (by omega)
      have s44a := S1.out.st1 R (by omega) P (a + i) (by omega) dk[b + i]!
      have s44b := S1.out.st2 R (by omega) P (a + i) (b + i) (by omega) (by omega) dk[b + i]! dk[a + i]!
      have n44a : (enc dk[a + i]!).length = k := R.hk _
      have n44b : (enc dk[b + i]!).length = k := R.hk _
      generalize enc dk[a + i]! = cI44 at S2 l44a s44b n44a
      generalize enc dk[b + i]! = cJ44 at S2 l44b s44a s44b n44b
      clear S1
      go_wp2_with fail
      go_big_region_o
      clear l44a l44b s44a s44b
      generalize (wr.drew.setCells blk (off + (a + i) * k) cJ44).setCells blk (off + (b + i) * k) cI44 = w2 at S2 ⊢
      go_wp2
      go_roundg (n - (i + 1))
      case measure => omega
      case rel =>
        exact ⟨i + 1, Sort.swp dk (a + i) (b + i), by go_num, by omega, Nat.le_refl _, by rw [size_swp]; exact hds, S2, PP.out.swp _ _ (by omega) (by omega)⟩
    · have hltz : ¬ (i : Int) < (n : Int) := by omega
      go_wp2
      go_end0
      exact ⟨rfl, dk, PP.out, S1.out⟩
end Go.Proofs.W
namespace Go.Proofs.W
open Go Go.Proofs Go.Shelf Go.RowKit Go.Lib Go.Sort
set_option maxRecDepth 1000000
set_option linter.unusedSectionVars false
variable {α : Type} [Inhabited α]

set_option maxHeartbeats 4000000 in
theorem rotate {P : Program} {k : Nat} (L : Stab P k) (enc : α → List Value) (cmp : Value) (blk off cap a m b : Nat) (d0 d : Array α) (w0 w : World)
    (R : RowK enc k w0 blk off d0) (hs : d0.size = d.size) (S : SWK enc k w0 blk off d w) (ha : a < m) (hm : m < b) (hb : b ≤ d.size) (hsz : d.size < 4611686018427387904) :
    Calls P 165 #[.slice (some ⟨blk, off, none⟩) d.size cap, .int .i64 a, .int .i64 m, .int .i64 b, cmp] w fun e w' => e = .returned (.tuple #[]) ∧ ∃ d', PermA d d' ∧ SWK enc k w0 blk off d' w' := by
  have mixed := L.mixed; have t3 := L.t3; have a3 := L.a3; have z3 := L.z3; have v3 := L.v3; have t4 := L.t4; have a4 := L.a4; have z4 := L.z4; have v4 := L.v4; have t22 := L.t22; have a22 := L.a22; have z22 := L.z22; have v22 := L.v22; have aE := L.aE; have zE := L.zE
  have FG := L.rotate
  have e1 : ∀ args w, (callFunc 210 args).run P w = .ok (.enter 210 args) w := enters_of L.swapRange (by kernel_rfl) rfl
  have S0 : Aside (SWK enc k w0 blk off d w) := S
  have hx1 : (a : Int) < (m : Int) := by omega
  have hx2 : (m : Int) < (b : Int) := by omega
  clear S
  go_enter FG, Tryz.ntmps165
  go_wp2
  go_loopg [10, 11] (b - a) (fun kx s10 s11 wr => ∃ (i j : Nat) (dk : Array α), s10 = .int .i64 i ∧ s11 = .int .i64 j ∧ 0 < i ∧ 0 < j ∧ i + a ≤ m ∧ j + m ≤ b ∧ i + j ≤ kx ∧ dk.size = d.size ∧ Aside (SWK enc k w0 blk off dk wr) ∧ Aside (PermA d dk))
  case atStart => exact ⟨m - a, b - m, d, by go_num, by go_num, by omega, by omega, by omega, by omega, by omega, rfl, S0, PermA.refl d⟩
  case round =>
    clear S0
    obtain ⟨i, j, dk, rfl, rfl, hi0, hj0, him, hjb, hkx, hds, S1, PP⟩ := hrel
    have ed : ((m - i : Nat) : Int) = (m : Int) - (i : Int) := by omega
    by_cases hlt : i = j
    · subst hlt
      have hsw := swapRange L enc cmp blk off cap (m - i) m i d0 dk w0 wr R (by omega) S1.out (by omega) (by omega) (by omega)
      rw [hds, ed] at hsw
      go_wp2_with (first | (go_at_fn 210; refine hsw.mono ?_; rintro e w' ⟨rfl, d', hp, hS⟩))
      go_end0
      exact ⟨rfl, d', PP.out.trans hp, hS⟩
    · have hne : ¬ ((i : Int) = (j : Int)) := by omega
      by_cases hgt : j < i
      · have hgtz : (j : Int) < (i : Int) := by omega
        have hsw := swapRange L enc cmp blk off cap (m - i) m j d0 dk w0 wr R (by omega) S1.out (by omega) (by omega) (by omega)
        rw [hds, ed] at hsw
        go_wp2_with (first | (go_at_fn 210; refine hsw.mono ?_; rintro e w' ⟨rfl, d', hp, hS⟩))
        go_roundg (i - j + j)
        case measure => omega
        case rel => exact ⟨i - j, j, d', by go_num, rfl, by omega, by omega, by omega, by omega, by omega, by rw [hp.size]; exact hds, hS, PP.out.trans hp⟩
      · have hgtz : ¬ (j : Int) < (i : Int) := by omega
        have ee : ((m + j - i : Nat) : Int) = (m : Int) + (j : Int) - (i : Int) := by omega
        have hsw := swapRange L enc cmp blk off cap (m - i) (m + j - i) i d0 dk w0 wr R (by omega) S1.out (by omega) (by omega) (by omega)
        rw [hds, ed, ee] at hsw
        go_wp2_with (first | (go_at_fn 210; refine hsw.mono ?_; rintro e w' ⟨rfl, d', hp, hS⟩))
        go_roundg (i + (j - i))
        case measure => omega
        case rel => exact ⟨i, j - i, d', rfl, by go_num, by omega, by omega, by omega, by omega, by omega, by rw [hp.size]; exact hds, hS, PP.out.trans hp⟩
end Go.Proofs.W
namespace Go.Proofs.W
open Go Go.Proofs Go.Shelf Go.RowKit Go.Lib Go.Sort
set_option maxRecDepth 1000000
set_option linter.unusedSectionVars false
variable {α : Type} [Inhabited α]

set_option maxHeartbeats 8000000 in
/-- symMerge where the first part is of one element -/
theorem symMerge1 {P : Program} {k : Nat} (L : Stab P k) (enc : α → List Value) (cf : α → α → Int) (g : Nat) (cb : Array Value) (blk off cap a m b : Nat) (d0 d : Array α) (w0 w : World)
    (eg : ∀ args w, (callFunc g args).run P w = .ok (.enter g args) w) (hcmp : CmpLays P g cb enc k cf blk off d.size w0)
    (R : RowK enc k w0 blk off d0) (hs : d0.size = d.size) (S : SWK enc k w0 blk off d w) (ha : m = a + 1) (hm : m < b) (hb : b ≤ d.size) (hsz : d.size < 4611686018427387904) :
    Calls P 112 #[.slice (some ⟨blk, off, none⟩) d.size cap, .int .i64 a, .int .i64 m, .int .i64 b, .func (.func g) #[] cb] w fun e w' => e = .returned (.tuple #[]) ∧ ∃ d', PermA d d' ∧ SWK enc k w0 blk off d' w' := by
  have mixed := L.mixed; have t3 := L.t3; have a3 := L.a3; have z3 := L.z3; have v3 := L.v3; have t4 := L.t4; have a4 := L.a4; have z4 := L.z4; have v4 := L.v4; have t22 := L.t22; have a22 := L.a22; have z22 := L.z22; have v22 := L.v22; have aE := L.aE; have zE := L.zE; have t5 := L.t5; have a5 := L.a5; have z5 := L.z5; have v5 := L.v5
  have FG := L.symMerge
  have S0 : Aside (SWK enc k w0 blk off d w) := S
  have HC : Aside (CmpLays P g cb enc k cf blk off d.size w0) := hcmp
  have hma : (m : Int) - (a : Int) = 1 := by omega
  have HA : Hid (m = a + 1) := ha
  clear S hcmp ha
  go_enter FG, Tryz.ntmps112
  go_wp2
  clear hma
  go_loopg [10, 11] b (fun kx s10 s11 wr => ∃ (i j : Nat), s10 = .int .i64 i ∧ s11 = .int .i64 j ∧ m ≤ i ∧ i ≤ j ∧ j ≤ b ∧ j - i ≤ kx ∧ Aside (SWK enc k w0 blk off d wr))
  case atStart => exact ⟨m, b, rfl, rfl, Nat.le_refl _, by omega, Nat.le_refl _, by omega, S0⟩
  case round =>
    clear S0
    obtain ⟨i, j, rfl, rfl, hi, hij, hjb, hkx, S1⟩ := hrel
    have hai : a < i := by have := HA.out; omega
    have hai2 : a < b := by omega
    by_cases hlt : i < j
    · obtain ⟨h, hh⟩ : ∃ h, h = (i + j) / 2 := ⟨_, rfl⟩
      have hltz : (i : Int) < (j : Int) := by omega
      have hmi : ((i : Int) + (j : Int)) / 2 = (h : Int) := by omega
      have hh1 : i ≤ h := by omega
      have hh2 : h < j := by omega
      clear hh
      have ea44 : ((h : Int)).toNat = h := by omega
      have pa44 : (0 : Int) ≤ (h : Int) := by omega
      have ba44 : (h : Int) < (d.size : Int) := by omega
      have pc44 : (0 : Int) ≤ (a : Int) := by omega
      have bc44 : (a : Int) < (d.size : Int) := by omega
      obtain ⟨x, hx⟩ : ∃ x, x = d[h]! := ⟨_, rfl⟩
      obtain ⟨y, hy⟩ : ∃ x, x = d[a]! := ⟨_, rfl⟩
      have l1 := S1.out.ld R (by omega) P h (by omega)
      have l2 := S1.out.ld R (by omega) P a (by omega)
      rw [← hx] at l1
      rw [← hy] at l2
      have hc := S1.out.cmp HC.out rfl x y
      clear hx hy
      generalize cf x y = r at hc
      by_cases hr : r < 0
      · go_wp2_with fail
        go_quiet_grown (first | (go_at_fn g; refine Calls.grown_of (hc _ _)))
        have S2 : Aside (SWK enc k w0 blk off d (grow (wr.drewN nq) osq)) := S1.out.grown nq osq
        clear l1 l2 hc S1
        generalize grow (wr.drewN nq) osq = w2 at S2 ⊢
        go_wp2
        go_roundg (j - (h + 1))
        case measure => omega
        case rel => exact ⟨h + 1, j, by go_num, rfl, by omega, by omega, hjb, Nat.le_refl _, S2⟩
      · go_wp2_with fail
        go_quiet_grown (first | (go_at_fn g; refine Calls.grown_of (hc _ _)))
        have S2 : Aside (SWK enc k w0 blk off d (grow (wr.drewN nq) osq)) := S1.out.grown nq osq
        clear l1 l2 hc S1
        generalize grow (wr.drewN nq) osq = w2 at S2 ⊢
        go_wp2
        go_roundg (h - i)
        case measure => omega
        case rel => exact ⟨i, h, rfl, rfl, hi, hh1, by omega, Nat.le_refl _, S2⟩
    · have hltz : ¬ (i : Int) < (j : Int) := by omega
      have hib : i ≤ b := by omega
      clear hkx hij hjb hlt
      go_wp2
      go_loopg [13] b (fun kx s13 wr => ∃ (q : Nat) (dk : Array α), s13 = .int .i64 q ∧ a ≤ q ∧ q < i ∧ i - q ≤ kx ∧ dk.size = d.size ∧ Aside (SWK enc k w0 blk off dk wr) ∧ Aside (PermA d dk))
      case atStart => exact ⟨a, d, rfl, Nat.le_refl _, by omega, by omega, rfl, S1, PermA.refl d⟩
      case round =>
        clear S1
        obtain ⟨q, dk, rfl, hq1, hq2, hkx, hds, S1, PP⟩ := hrel
        by_cases hqi : q + 1 < i
        · have hqz : (q : Int) < (i : Int) - 1 := by omega
          have ea44 : ((q : Int)).toNat = q := by omega
          have pa44 : (0 : Int) ≤ (q : Int) := by omega
          have ba44 : (q : Int) < (d.size : Int) := by omega
          have ec44 : ((q : Int) + 1).toNat = q + 1 := by omega
          have pc44 : (0 : Int) ≤ (q : Int) + 1 := by omega
          have bc44 : (q : Int) + 1 < (d.size : Int) := by omega
          have rc44 : IntKind.i64.wrap ((q : Int) + 1) = (q : Int) + 1 := by rw [IntKind.wrap_i64]; omega
          have S2 : Aside (SWK enc k w0 blk off (Sort.swp dk q (q + 1)) ((wr.drew.setCells blk (off + q * k) (enc dk[q + 1]!)).setCells blk (off + (q + 1) * k) (enc dk[q]!))) := S1.out.swapped R q (q + 1) (by omega) (by omega)
          have l44a := S1.out.ld1 R (by omega) P q (by omega)
          have l44b := S1.out.ld1 R (by omega) P (q + 1) (by omega)
          have s44a := S1.out.st1 R (by omega) P q (by omega) dk[q + 1]!
          have s44b := S1.out.st2 R (by omega) P q (q + 1) (by omega) (by omega) dk[q + 1]! dk[q]!
          have n44a : (enc dk[q]!).length = k := R.hk _
          have n44b : (enc dk[q + 1]!).length = k := R.hk _
          generalize enc dk[q]! = cI44 at S2 l44a s44b n44a
          generalize enc dk[q + 1]! = cJ44 at S2 l44b s44a s44b n44b
          clear S1
          go_wp2_with fail
          go_big_region_o
          clear l44a l44b s44a s44b
          generalize (wr.drew.setCells blk (off + q * k) cJ44).setCells blk (off + (q + 1) * k) cI44 = w2 at S2 ⊢
          go_wp2
          go_roundg (i - (q + 1))
          case measure => omega
          case rel => exact ⟨q + 1, Sort.swp dk q (q + 1), by go_num, by omega, by omega, Nat.le_refl _, by rw [size_swp]; exact hds, S2, PP.out.swp _ _ (by omega) (by omega)⟩
        · have hqz : ¬ (q : Int) < (i : Int) - 1 := by omega
          go_wp2
          (try simp only [Exit.inBlock, Exit.then])
          refine bodyPost_ret (results_none rfl _ _ _) rfl ?_
          exact ⟨rfl, dk, PP.out, S1.out⟩
end Go.Proofs.W
namespace Go.Proofs.W
open Go Go.Proofs Go.Shelf Go.RowKit Go.Lib Go.Sort
set_option maxRecDepth 1000000
set_option linter.unusedSectionVars false
variable {α : Type} [Inhabited α]

set_option maxHeartbeats 8000000 in
/-- symMerge where the second part is of one element -/
theorem symMerge2 {P : Program} {k : Nat} (L : Stab P k) (enc : α → List Value) (cf : α → α → Int) (g : Nat) (cb : Array Value) (blk off cap a m b : Nat) (d0 d : Array α) (w0 w : World)
    (eg : ∀ args w, (callFunc g args).run P w = .ok (.enter g args) w) (hcmp : CmpLays P g cb enc k cf blk off d.size w0)
    (R : RowK enc k w0 blk off d0) (hs : d0.size = d.size) (S : SWK enc k w0 blk off d w) (ha : a + 1 < m) (hm : b = m + 1) (hb : b ≤ d.size) (hsz : d.size < 4611686018427387904) :
    Calls P 112 #[.slice (some ⟨blk, off, none⟩) d.size cap, .int .i64 a, .int .i64 m, .int .i64 b, .func (.func g) #[] cb] w fun e w' => e = .returned (.tuple #[]) ∧ ∃ d', PermA d d' ∧ SWK enc k w0 blk off d' w' := by
  have mixed := L.mixed; have t3 := L.t3; have a3 := L.a3; have z3 := L.z3; have v3 := L.v3; have t4 := L.t4; have a4 := L.a4; have z4 := L.z4; have v4 := L.v4; have t22 := L.t22; have a22 := L.a22; have z22 := L.z22; have v22 := L.v22; have aE := L.aE; have zE := L.zE; have t5 := L.t5; have a5 := L.a5; have z5 := L.z5; have v5 := L.v5
  have FG := L.symMerge
  have S0 : Aside (SWK enc k w0 blk off d w) := S
  have HC : Aside (CmpLays P g cb enc k cf blk off d.size w0) := hcmp
  have hma : (b : Int) - (m : Int) = 1 := by omega
  have hmb : ¬ (m : Int) - (a : Int) = 1 := by omega
  have hmaB : Hid (((b : Int) - (m : Int) == 1) = true) := by show _ = _; rw [beq_iff_eq]; omega
  have hmbB : Hid (((m : Int) - (a : Int) == 1) = false) := by show _ = _; rw [beq_eq_false_iff_ne]; omega
  have HA : Hid (b = m + 1) := hm
  clear S hcmp hm
  go_enter FG, Tryz.ntmps112
  go_wp2
  clear hma hmb
  try simp only [hmaB.out]
  try simp only [hmbB.out]
  go_loopg [14, 15] b (fun kx s10 s11 wr => ∃ (i j : Nat), s10 = .int .i64 i ∧ s11 = .int .i64 j ∧ a ≤ i ∧ i ≤ j ∧ j ≤ m ∧ j - i ≤ kx ∧ Aside (SWK enc k w0 blk off d wr))
  case atStart => exact ⟨a, m, rfl, rfl, Nat.le_refl _, by omega, Nat.le_refl _, by have := HA.out; omega, S0⟩
  case round =>
    clear S0
    obtain ⟨i, j, rfl, rfl, hi, hij, hjm, hkx, S1⟩ := hrel
    have hmd : m < d.size := by have := HA.out; omega
    by_cases hlt : i < j
    · obtain ⟨h, hh⟩ : ∃ h, h = (i + j) / 2 := ⟨_, rfl⟩
      have hltz : (i : Int) < (j : Int) := by omega
      have hmi : ((i : Int) + (j : Int)) / 2 = (h : Int) := by omega
      have hh1 : i ≤ h := by omega
      have hh2 : h < j := by omega
      clear hh
      have ea44 : ((h : Int)).toNat = h := by omega
      have pa44 : (0 : Int) ≤ (h : Int) := by omega
      have ba44 : (h : Int) < (d.size : Int) := by omega
      have pc44 : (0 : Int) ≤ (m : Int) := by omega
      have bc44 : (m : Int) < (d.size : Int) := by omega
      obtain ⟨x, hx⟩ : ∃ x, x = d[m]! := ⟨_, rfl⟩
      obtain ⟨y, hy⟩ : ∃ x, x = d[h]! := ⟨_, rfl⟩
      have l1 := S1.out.ld R (by omega) P m (by omega)
      have l2 := S1.out.ld R (by omega) P h (by omega)
      rw [← hx] at l1
      rw [← hy] at l2
      have hc := S1.out.cmp HC.out rfl x y
      clear hx hy
      generalize cf x y = r at hc
      by_cases hr : r < 0
      · have hd38 : decide (r < 0) = true := decide_eq_true hr
        go_wp2_with fail
        go_quiet_grown (first | (go_at_fn g; refine Calls.grown_of (hc _ _)))
        have S2 : Aside (SWK enc k w0 blk off d (grow (wr.drewN nq) osq)) := S1.out.grown nq osq
        clear l1 l2 hc S1
        generalize grow (wr.drewN nq) osq = w2 at S2 ⊢
        go_wp2
        go_roundg (h - i)
        case measure => omega
        case rel => exact ⟨i, h, rfl, rfl, hi, hh1, by omega, Nat.le_refl _, S2⟩
      · have hd38 : decide (r < 0) = false := decide_eq_false hr
        go_wp2_with fail
        go_quiet_grown (first | (go_at_fn g; refine Calls.grown_of (hc _ _)))
        have S2 : Aside (SWK enc k w0 blk off d (grow (wr.drewN nq) osq)) := S1.out.grown nq osq
        clear l1 l2 hc S1
        generalize grow (wr.drewN nq) osq = w2 at S2 ⊢
        go_wp2
        go_roundg (j - (h + 1))
        case measure => omega
        case rel => exact ⟨h + 1, j, by go_num, rfl, by omega, by omega, hjm, Nat.le_refl _, S2⟩
    · have hltz : ¬ (i : Int) < (j : Int) := by omega
      have him : i ≤ m := by omega
      clear hkx hij hjm hlt
      go_wp2
      go_loopg [17] b (fun kx s13 wr => ∃ (q : Nat) (dk : Array α), s13 = .int .i64 q ∧ i ≤ q ∧ q ≤ m ∧ q - i ≤ kx ∧ dk.size = d.size ∧ Aside (SWK enc k w0 blk off dk wr) ∧ Aside (PermA d dk))
      case atStart => exact ⟨m, d, rfl, him, Nat.le_refl _, by have := HA.out; omega, rfl, S1, PermA.refl d⟩
      case round =>
        clear S1
        obtain ⟨q, dk, rfl, hq1, hq2, hkx, hds, S1, PP⟩ := hrel
        by_cases hqi : i < q
        · have hqz : (i : Int) < (q : Int) := by omega
          have ea44 : ((q : Int)).toNat = q := by omega
          have pa44 : (0 : Int) ≤ (q : Int) := by omega
          have ba44 : (q : Int) < (d.size : Int) := by omega
          have ec44 : ((q : Int) - 1).toNat = q - 1 := by omega
          have pc44 : (0 : Int) ≤ (q : Int) - 1 := by omega
          have bc44 : (q : Int) - 1 < (d.size : Int) := by omega
          have rc44 : IntKind.i64.wrap ((q : Int) - 1) = (q : Int) - 1 := by rw [IntKind.wrap_i64]; omega
          have S2 : Aside (SWK enc k w0 blk off (Sort.swp dk q (q - 1)) ((wr.drew.setCells blk (off + q * k) (enc dk[q - 1]!)).setCells blk (off + (q - 1) * k) (enc dk[q]!))) := S1.out.swapped R q (q - 1) (by omega) (by omega)
          have l44a := S1.out.ld1 R (by omega) P q (by omega)
          have l44b := S1.out.ld1 R (by omega) P (q - 1) (by omega)
          have s44a := S1.out.st1 R (by omega) P q (by omega) dk[q - 1]!
          have s44b := S1.out.st2 R (by omega) P q (q - 1) (by omega) (by omega) dk[q - 1]! dk[q]!
          have n44a : (enc dk[q]!).length = k := R.hk _
          have n44b : (enc dk[q - 1]!).length = k := R.hk _
          generalize enc dk[q]! = cI44 at S2 l44a s44b n44a
          generalize enc dk[q - 1]! = cJ44 at S2 l44b s44a s44b n44b
          clear S1
          go_wp2_with fail
          go_big_region_o
          clear l44a l44b s44a s44b
          generalize (wr.drew.setCells blk (off + q * k) cJ44).setCells blk (off + (q - 1) * k) cI44 = w2 at S2 ⊢
          go_wp2
          go_roundg (q - 1 - i)
          case measure => omega
          case rel => exact ⟨q - 1, Sort.swp dk q (q - 1), by go_num, by omega, by omega, Nat.le_refl _, by rw [size_swp]; exact hds, S2, PP.out.swp _ _ (by omega) (by omega)⟩
        · have hqz : ¬ (i : Int) < (q : Int) := by omega
          go_wp2
          (try simp only [Exit.inBlock, Exit.then])
          refine bodyPost_ret (results_none rfl _ _ _) rfl ?_
          exact ⟨rfl, dk, PP.out, S1.out⟩
end Go.Proofs.W
