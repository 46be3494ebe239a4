/- A PART OF THE PROOF THAT ONE CALL OF A LAW OF LAYER 18 (of nodes that may be, each path leads there) returns true, whatever the input; the input reads as it did. No condition beyond the given statement. This part: F13a. -/
import Derived.Test.YtbnkcpbdpgjjbaaGreatDoorWalkHead
import Derived.Deep.QuietTactic
import Derived.BigQuiet
import Derived.Shelf.SlicesQ.Load
namespace Go.Proofs.Np
open Go Go.Proofs Go.RowKit
set_option maxRecDepth 1000000

def Nd.agg (d : Nd) : Value := .agg d.cells.toArray

/-- a closure that says of each node whether it is one -/
def Says (g : Nat) (cb : Array Value) (q : Nd → Bool) (w : World) : Prop := ∀ (W : World) (d : Nd), Below w.heap.size w W → Calls Tryz.prog g (#[d.agg] ++ cb) W fun e W' => e = .returned (.bool (q d)) ∧ Below W.heap.size W W'

set_option maxHeartbeats 4000000 in
theorem says31 (p : ByteArray) (n : Int) (B : Nat) (w : World) (hB : B < w.heap.size) (h0 : w.cell? ⟨B, 0, none⟩ = some (.string p)) (h1 : w.cell? ⟨B, 1, none⟩ = some (.int .i64 n)) :
    Says 31 #[.pointer (some ⟨B, 0, none⟩)] (selfIs p n) w := fun W d hb => by
  have c0 : W.cell? ⟨B, 0, none⟩ = some (.string p) := (World.cell?_of_block (hb.block B hB)).trans h0
  have c1 : W.cell? ⟨B, 1, none⟩ = some (.int .i64 n) := (World.cell?_of_block (hb.block B hB)).trans h1
  have hBW : B < W.heap.size := Nat.lt_of_lt_of_le hB hb.size
  have hne : B ≠ W.heap.size := by omega
  have hm26 := guard26
  have he26 := eq26
  have hq : selfIs p n d = sameId d.sp d.sn p n := rfl
  rw [hq]
  show Calls Tryz.prog 31 #[.agg #[.string d.sp, .int .i64 d.sn, .bool d.dr, .string d.pp, .int .i64 d.pn, .string d.nm, .string d.gone, .slice d.ats.1 d.ats.2.1 d.ats.2.2, .slice d.pus.1 d.pus.2.1 d.pus.2.2, .slice d.lis.1 d.lis.2.1 d.lis.2.2], .pointer (some ⟨B, 0, none⟩)] W _
  go_enter Tryz.func31, Tryz.ntmps31
  go_wp2
  go_ret
  exact ⟨rfl, belowAlloc W _⟩

set_option maxHeartbeats 4000000 in
theorem says32 (p : ByteArray) (n : Int) (s : ByteArray) (B B2 : Nat) (w : World) (hB : B < w.heap.size) (hB2 : B2 < w.heap.size) (h0 : w.cell? ⟨B, 0, none⟩ = some (.string p)) (h1 : w.cell? ⟨B, 1, none⟩ = some (.int .i64 n)) (h2 : w.cell? ⟨B2, 0, none⟩ = some (.string s)) :
    Says 32 #[.pointer (some ⟨B, 0, none⟩), .pointer (some ⟨B2, 0, none⟩)] (liesAt p n s) w := fun W d hb => by
  have c0 : W.cell? ⟨B, 0, none⟩ = some (.string p) := (World.cell?_of_block (hb.block B hB)).trans h0
  have c1 : W.cell? ⟨B, 1, none⟩ = some (.int .i64 n) := (World.cell?_of_block (hb.block B hB)).trans h1
  have c2 : W.cell? ⟨B2, 0, none⟩ = some (.string s) := (World.cell?_of_block (hb.block B2 hB2)).trans h2
  have hBW : B < W.heap.size := Nat.lt_of_lt_of_le hB hb.size
  have hne : B ≠ W.heap.size := by omega
  have hBW2 : B2 < W.heap.size := Nat.lt_of_lt_of_le hB2 hb.size
  have hne2 : B2 ≠ W.heap.size := by omega
  have hm26 := guard26
  have he26 := eq26
  have hl : liesAt p n s d = (d.gone.toList.isEmpty && sameId d.pp d.pn p n && (d.nm.toList == s.toList)) := by
    rw [isEmpty_iff, toList_eq_iff]; rfl
  rw [hl]
  show Calls Tryz.prog 32 #[.agg #[.string d.sp, .int .i64 d.sn, .bool d.dr, .string d.pp, .int .i64 d.pn, .string d.nm, .string d.gone, .slice d.ats.1 d.ats.2.1 d.ats.2.2, .slice d.pus.1 d.pus.2.1 d.pus.2.2, .slice d.lis.1 d.lis.2.1 d.lis.2.2], .pointer (some ⟨B, 0, none⟩), .pointer (some ⟨B2, 0, none⟩)] W _
  cases hg : d.gone.toList.isEmpty <;> cases hs : sameId d.pp d.pn p n <;> cases hn : (d.nm.toList == s.toList)
  all_goals
    go_enter Tryz.func32, Tryz.ntmps32
    go_wp2
    go_ret
    exact ⟨rfl, belowAlloc W _⟩

end Go.Proofs.Np
namespace Go.Proofs.Np
open Go Go.Proofs Go.RowKit
set_option maxRecDepth 1000000

theorem enters31 : ∀ args w, (callFunc 31 args).run Tryz.prog w = .ok (.enter 31 args) w := enters_of Tryz.func31 (by kernel_rfl) rfl
theorem enters32 : ∀ args w, (callFunc 32 args).run Tryz.prog w = .ok (.enter 32 args) w := enters_of Tryz.func32 (by kernel_rfl) rfl

set_option maxHeartbeats 4000000 in
theorem index31 (q : Nd → Bool) (b o c : Nat) (ns : List Nd) (p1 : Nat) (w : World) (hq : Says 31 #[.pointer (some ⟨p1, 0, none⟩)] q w) (h : NodesAt w b o ns) (hlen : ns.length < 9223372036854775808) :
    Calls Tryz.prog 30 #[.slice (some ⟨b, o, none⟩) ns.length c, .func (.func 31) #[] #[.pointer (some ⟨p1, 0, none⟩)]] w fun e w' => e = .returned (.int .i64 (idxI q ns)) ∧ Below w.heap.size w w' := by
  have eg := enters31
  go_enter Tryz.func30, Tryz.ntmps30
  go_wp2
  go_loopw [8] (fun x w' => Below w.heap.size w w' ∧ ∃ i : Nat, i ≤ ns.length ∧ x = .int .i64 i ∧ ∀ j d, j < i → ns[j]? = some d → q d = false) (fun x _ => match x with | .int _ i => (ns.length - i.toNat) | _ => 0)
  case atStart => exact ⟨Below.refl _ w, 0, Nat.zero_le _, rfl, fun j d hj => absurd hj (Nat.not_lt_zero _)⟩
  case round =>
    obtain ⟨hB, i, hi, rfl, hno⟩ := hrel
    by_cases hlt : i < ns.length
    · have hd : ns[i]? = some ns[i] := List.getElem?_eq_getElem hlt
      obtain ⟨c0, c1, c2, c3, c4, c5, c6, c7, c8, c9⟩ := (h.below hB).cell i _ hd
      have hlt' : (i : Int) < (ns.length : Int) := by omega
      have hnn : ¬ (i : Int) < 0 := by omega
      have hnn0 : (0 : Int) ≤ (i : Int) := by omega
      have hcall : Calls Tryz.prog 31 #[.agg #[.string ns[i].sp, .int .i64 ns[i].sn, .bool ns[i].dr, .string ns[i].pp, .int .i64 ns[i].pn, .string ns[i].nm, .string ns[i].gone, .slice ns[i].ats.1 ns[i].ats.2.1 ns[i].ats.2.2, .slice ns[i].pus.1 ns[i].pus.2.1 ns[i].pus.2.2, .slice ns[i].lis.1 ns[i].lis.2.1 ns[i].lis.2.2], .pointer (some ⟨p1, 0, none⟩)] wr fun e W' => e = .returned (.bool (q ns[i])) ∧ Below wr.heap.size wr W' := hq wr ns[i] hB
      cases hqi : q ns[i] with
      | true =>
        rw [hqi] at hcall
        go_wp2_with (go_at_fn 31; refine hcall.mono ?_; rintro e w' ⟨rfl, hb'⟩)
        go_ret
        exact ⟨by rw [idxI_step hd hqi hno]; rfl, belowTrans hB hb'⟩
      | false =>
        rw [hqi] at hcall
        go_wp2_with (go_at_fn 31; refine hcall.mono ?_; rintro e w' ⟨rfl, hb'⟩)
        go_roundw
        case rel => exact ⟨belowTrans hB hb', i + 1, by omega, by push_cast; rfl, fun j d hj hd2 => by
          by_cases e : j = i
          · subst e; rw [hd] at hd2; obtain rfl := Option.some.inj hd2; exact hqi
          · exact hno j d (by omega) hd2⟩
        case measure =>
          show ns.length - ((i : Int) + 1).toNat < ns.length - (i : Int).toNat
          omega
    · have hlt' : ¬ (i : Int) < (ns.length : Int) := by omega
      go_wp2
      go_ret
      exact ⟨by rw [idxI_none fun j d hj => hno j d (by omega)]; rfl, hB⟩

end Go.Proofs.Np
namespace Go.Proofs.Np
open Go Go.Proofs Go.RowKit
set_option maxRecDepth 1000000

set_option maxHeartbeats 4000000 in
theorem index32 (q : Nd → Bool) (b o c : Nat) (ns : List Nd) (p1 p2 : Nat) (w : World) (hq : Says 32 #[.pointer (some ⟨p1, 0, none⟩), .pointer (some ⟨p2, 0, none⟩)] q w) (h : NodesAt w b o ns) (hlen : ns.length < 9223372036854775808) :
    Calls Tryz.prog 30 #[.slice (some ⟨b, o, none⟩) ns.length c, .func (.func 32) #[] #[.pointer (some ⟨p1, 0, none⟩), .pointer (some ⟨p2, 0, none⟩)]] w fun e w' => e = .returned (.int .i64 (idxI q ns)) ∧ Below w.heap.size w w' := by
  have eg := enters32
  go_enter Tryz.func30, Tryz.ntmps30
  go_wp2
  go_loopw [8] (fun x w' => Below w.heap.size w w' ∧ ∃ i : Nat, i ≤ ns.length ∧ x = .int .i64 i ∧ ∀ j d, j < i → ns[j]? = some d → q d = false) (fun x _ => match x with | .int _ i => (ns.length - i.toNat) | _ => 0)
  case atStart => exact ⟨Below.refl _ w, 0, Nat.zero_le _, rfl, fun j d hj => absurd hj (Nat.not_lt_zero _)⟩
  case round =>
    obtain ⟨hB, i, hi, rfl, hno⟩ := hrel
    by_cases hlt : i < ns.length
    · have hd : ns[i]? = some ns[i] := List.getElem?_eq_getElem hlt
      obtain ⟨c0, c1, c2, c3, c4, c5, c6, c7, c8, c9⟩ := (h.below hB).cell i _ hd
      have hlt' : (i : Int) < (ns.length : Int) := by omega
      have hnn : ¬ (i : Int) < 0 := by omega
      have hnn0 : (0 : Int) ≤ (i : Int) := by omega
      have hcall : Calls Tryz.prog 32 #[.agg #[.string ns[i].sp, .int .i64 ns[i].sn, .bool ns[i].dr, .string ns[i].pp, .int .i64 ns[i].pn, .string ns[i].nm, .string ns[i].gone, .slice ns[i].ats.1 ns[i].ats.2.1 ns[i].ats.2.2, .slice ns[i].pus.1 ns[i].pus.2.1 ns[i].pus.2.2, .slice ns[i].lis.1 ns[i].lis.2.1 ns[i].lis.2.2], .pointer (some ⟨p1, 0, none⟩), .pointer (some ⟨p2, 0, none⟩)] wr fun e W' => e = .returned (.bool (q ns[i])) ∧ Below wr.heap.size wr W' := hq wr ns[i] hB
      cases hqi : q ns[i] with
      | true =>
        rw [hqi] at hcall
        go_wp2_with (go_at_fn 32; refine hcall.mono ?_; rintro e w' ⟨rfl, hb'⟩)
        go_ret
        exact ⟨by rw [idxI_step hd hqi hno]; rfl, belowTrans hB hb'⟩
      | false =>
        rw [hqi] at hcall
        go_wp2_with (go_at_fn 32; refine hcall.mono ?_; rintro e w' ⟨rfl, hb'⟩)
        go_roundw
        case rel => exact ⟨belowTrans hB hb', i + 1, by omega, by push_cast; rfl, fun j d hj hd2 => by
          by_cases e : j = i
          · subst e; rw [hd] at hd2; obtain rfl := Option.some.inj hd2; exact hqi
          · exact hno j d (by omega) hd2⟩
        case measure =>
          show ns.length - ((i : Int) + 1).toNat < ns.length - (i : Int).toNat
          omega
    · have hlt' : ¬ (i : Int) < (ns.length : Int) := by omega
      go_wp2
      go_ret
      exact ⟨by rw [idxI_none fun j d hj => hno j d (by omega)]; rfl, hB⟩

end Go.Proofs.Np
namespace Go.Proofs.Np
open Go Go.Proofs Go.RowKit
set_option maxRecDepth 1000000

set_option maxHeartbeats 4000000 in
theorem find13 (b o c : Nat) (ns : List Nd) (p : ByteArray) (n : Int) (w : World) (h : NodesAt w b o ns) (hlen : ns.length < 9223372036854775808) :
    Calls Tryz.prog 13 #[.slice (some ⟨b, o, none⟩) ns.length c, .agg #[.string p, .int .i64 n]] w fun e w' => e = .returned (.int .i64 (idxI (selfIs p n) ns)) ∧ Below w.heap.size w w' := by
  have hB1 := belowAlloc w (.cells #[.string p, .int .i64 n] 26)
  have hcon := index31 (selfIs p n) b o c ns w.heap.size (w.alloc (.cells #[.string p, .int .i64 n] 26)) (says31 p n w.heap.size _ (by simp) (by rw [cell_newBlock]; rfl) (by rw [cell_newBlock]; rfl)) (h.below hB1) hlen
  go_enter Tryz.func13, Tryz.ntmps13
  go_wp2_with (go_at_call 30; refine hcon.mono ?_; rintro e w' ⟨rfl, hb'⟩)
  go_ret
  exact ⟨rfl, belowTrans hB1 hb'⟩

set_option maxHeartbeats 4000000 in
theorem at14 (b o c : Nat) (ns : List Nd) (p : ByteArray) (n : Int) (s : ByteArray) (w : World) (h : NodesAt w b o ns) (hlen : ns.length < 9223372036854775808) :
    Calls Tryz.prog 14 #[.slice (some ⟨b, o, none⟩) ns.length c, .agg #[.string p, .int .i64 n], .string s] w fun e w' => e = .returned (.int .i64 (idxI (liesAt p n s) ns)) ∧ Below w.heap.size w w' := by
  have hB1 := belowAlloc w (.cells #[.string p, .int .i64 n] 26)
  have hB2 := belowTrans hB1 (belowAlloc _ (.cells #[.string s] 9))
  have hsz : (w.alloc (.cells #[.string p, .int .i64 n] 26)).heap.size = w.heap.size + 1 := by simp
  have hc2 := cell_newBlock (w.alloc (.cells #[.string p, .int .i64 n] 26)) #[.string s] 9 0
  rw [hsz] at hc2
  have hk : ∀ j, ((w.alloc (.cells #[.string p, .int .i64 n] 26)).alloc (.cells #[.string s] 9)).cell? ⟨w.heap.size, j, none⟩ = #[Value.string p, .int .i64 n][j]? := fun j => by
    rw [World.cell?_of_block ((belowAlloc (w.alloc (.cells #[.string p, .int .i64 n] 26)) (.cells #[.string s] 9)).block w.heap.size (by simp)), cell_newBlock]
  have hcon := index32 (liesAt p n s) b o c ns w.heap.size (w.heap.size + 1) _ (says32 p n s w.heap.size (w.heap.size + 1) ((w.alloc (.cells #[.string p, .int .i64 n] 26)).alloc (.cells #[.string s] 9)) (by simp; omega) (by simp) (by rw [hk]; rfl) (by rw [hk]; rfl) (by rw [hc2]; rfl)) (h.below hB2) hlen
  go_enter Tryz.func14, Tryz.ntmps14
  go_wp2_with (go_at_call 30; refine hcon.mono ?_; rintro e w' ⟨rfl, hb'⟩)
  go_ret
  exact ⟨rfl, belowTrans hB2 hb'⟩
end Go.Proofs.Np
