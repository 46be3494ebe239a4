/- A PART OF THE PROOF THAT ONE CALL OF A LAW OF LAYER 18 (of nodes that may be, each path leads there) returns true, whatever the input; the input reads as it did. No condition beyond the given statement. This part: F4. -/
import Derived.Test.YtbnkcpbdpgjjbaaGreatDoorWalkHead
import Derived.Shelf.SlicesQ.Load
import Derived.Deep.QuietTactic
import Derived.BigQuiet
namespace Go.Proofs.Np
open Go Go.Proofs Go.RowKit
set_option maxRecDepth 1000000

/-- what the look at the input's sizes says -/
def LightSays (ns : List Nd) (e : Ending) : Prop := ∃ t, e = .returned (.bool t) ∧ (t = true → ∀ (j : Nat) d, ns[j]? = some d → d.nm.size ≤ 100)

set_option maxHeartbeats 8000000 in
theorem light4 (a : Option Addr) (c : Nat) (ns : List Nd) (w : World) (h : ns.length = 0 ∨ ∃ b o, a = some ⟨b, o, none⟩ ∧ NodesAt w b o ns) (hlen : ns.length < 9223372036854775808) :
    Calls Tryz.prog 4 #[.slice a ns.length c] w fun e w' => LightSays ns e ∧ Below w.heap.size w w' := by
  go_enter Tryz.func4, Tryz.ntmps4
  go_wp2
  go_loopw [3] (fun x w' => Below w.heap.size w w' ∧ ∃ i : Nat, i ≤ ns.length ∧ x = .int .i64 i ∧ ∀ j d, j < i → ns[j]? = some d → d.nm.size ≤ 100) (fun x _ => match x with | .int _ i => (ns.length - i.toNat) | _ => 0)
  case atStart => exact ⟨Below.refl _ w, 0, Nat.zero_le _, rfl, fun j d hj => absurd hj (Nat.not_lt_zero _)⟩
  case round =>
    obtain ⟨hB, i, hi, rfl, hno⟩ := hrel
    by_cases hlt : i < ns.length
    · obtain h0 | ⟨b, o, rfl, hN⟩ := h
      · omega
      have hd : ns[i]? = some ns[i] := List.getElem?_eq_getElem hlt
      obtain ⟨c0, c1, c2, c3, c4, c5, c6, c7, c8, c9⟩ := (hN.below hB).cell i _ hd
      have hlt' : (i : Int) < (ns.length : Int) := by omega
      have hnn : ¬ (i : Int) < 0 := by omega
      have hnn0 : (0 : Int) ≤ (i : Int) := by omega
      go_wp2
      all_goals first
        | (go_ret; exact ⟨⟨false, rfl, fun h => absurd h (by simp)⟩, belowTrans hB (belowAlloc wr _)⟩)
        | (go_roundw
           case rel => exact ⟨belowTrans hB (belowAlloc wr _), i + 1, by omega, by push_cast; rfl, fun j d hj hd2 => by
             by_cases e : j = i
             · subst e
               rw [hd] at hd2
               obtain rfl := Option.some.inj hd2
               omega
             · exact hno j d (by omega) hd2⟩
           case measure =>
             show ns.length - ((i : Int) + 1).toNat < ns.length - (i : Int).toNat
             omega)
    · have hlt' : ¬ (i : Int) < (ns.length : Int) := by omega
      go_wp2
      go_ret
      exact ⟨⟨_, rfl, fun _ j d hj => hno j d (by have := (List.getElem?_eq_some_iff.1 hj).1; omega) hj⟩, hB⟩
end Go.Proofs.Np
namespace Go.Proofs.Np
open Go Go.Proofs Go.RowKit
set_option maxRecDepth 1000000

set_option maxHeartbeats 4000000 in
theorem at7 (b o c : Nat) (ns : List Nd) (p : ByteArray) (n : Int) (s : ByteArray) (w : World) (h : NodesAt w b o ns) (hlen : ns.length < 9223372036854775808) :
    Calls Tryz.prog 7 #[.slice (some ⟨b, o, none⟩) ns.length c, .agg #[.string p, .int .i64 n], .string s] w fun e w' => e = .returned (.int .i64 (idxI (liesAt p n s) ns)) ∧ Below w.heap.size w w' := by
  have hm26 := guard26
  have he26 := eq26
  go_enter Tryz.func7, Tryz.ntmps7
  go_wp2
  go_loopw [7] (fun x w' => Below w.heap.size w w' ∧ w'.cell? ⟨w.heap.size, 0, none⟩ = some (.string p) ∧ w'.cell? ⟨w.heap.size, 1, none⟩ = some (.int .i64 n) ∧ ∃ i : Nat, i ≤ ns.length ∧ x = .int .i64 i ∧ ∀ j d, j < i → ns[j]? = some d → liesAt p n s d = false) (fun x _ => match x with | .int _ i => (ns.length - i.toNat) | _ => 0)
  case atStart => exact ⟨belowAlloc w _, by rw [cell_newBlock]; rfl, by rw [cell_newBlock]; rfl, 0, Nat.zero_le _, rfl, fun j d hj => absurd hj (Nat.not_lt_zero _)⟩
  case round =>
    obtain ⟨hB, hp0, hp1, i, hi, rfl, hno⟩ := hrel
    by_cases hlt : i < ns.length
    · have hd : ns[i]? = some ns[i] := List.getElem?_eq_getElem hlt
      obtain ⟨-, -, -, c3, c4, c5, c6, -⟩ := (h.below hB).cell i _ hd
      have hlt' : (i : Int) < (ns.length : Int) := by omega
      have hnn : ¬ (i : Int) < 0 := by omega
      have hnn0 : (0 : Int) ≤ (i : Int) := by omega
      have hBq : ∀ k, Below w.heap.size w (wr.drewN k) := fun k => belowTrans hB ⟨rfl, rfl, rfl, Nat.le_refl _, fun _ _ => rfl⟩
      have hl : liesAt p n s ns[i] = (ns[i].gone.toList.isEmpty && sameId ns[i].pp ns[i].pn p n && (ns[i].nm.toList == s.toList)) := by
        rw [isEmpty_iff, toList_eq_iff]; rfl
      cases hg : ns[i].gone.toList.isEmpty <;> cases hs : sameId ns[i].pp ns[i].pn p n <;> cases hn : (ns[i].nm.toList == s.toList)
      all_goals
        rw [hg, hs, hn] at hl
        go_wp2_with fail
        go_quiet (fail)
        go_wp2
      all_goals first
        | (go_ret; exact ⟨by rw [idxI_step hd hl hno]; rfl, (hBq _)⟩)
        | (go_roundw
           case rel => exact ⟨(hBq _), hp0, hp1, i + 1, by omega, by push_cast; rfl, fun j d hj hd2 => by
             by_cases e : j = i
             · subst e; rw [hd] at hd2; obtain rfl := Option.some.inj hd2; exact hl
             · exact hno j d (by omega) hd2⟩
           case measure =>
             show ns.length - ((i : Int) + 1).toNat < ns.length - (i : Int).toNat
             omega)
    · have hlt' : ¬ (i : Int) < (ns.length : Int) := by omega
      go_wp2
      go_ret
      exact ⟨by rw [idxI_none fun j d hj => hno j d (by omega)]; rfl, hB⟩
end Go.Proofs.Np
