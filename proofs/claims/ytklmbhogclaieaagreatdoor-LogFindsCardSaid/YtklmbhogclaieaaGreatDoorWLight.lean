/- A PART OF THE PROOF THAT ONE CALL OF A LAW OF LAYER 46 (which of any patches have a line with any word) returns true, whatever the input; the input reads as it did. No condition beyond the given statement. This part: WLight. -/
import Derived.Test.YtklmbhogclaieaaGreatDoorWHead
namespace Go.Proofs.W
open Go Go.Proofs Go.RowKit
set_option maxRecDepth 1000000

/-- what the look at lines' sizes says -/
def LinesLight (xs : List ByteArray) : Prop := xs.length ≤ 60 ∧ ∀ (j : Nat) d, xs[j]? = some d → d.size ≤ 300
def LinesLightSays (xs : List ByteArray) (e : Ending) : Prop := ∃ t, e = .returned (.bool t) ∧ (t = true → LinesLight xs)

set_option maxHeartbeats 4000000 in
theorem L03_Light (a : Option Addr) (c : Nat) (xs : List ByteArray) (w : World) (h : TextsH w a xs) (hlen : xs.length < 9223372036854775808) :
    Calls Tryz.prog 8 #[.slice a xs.length c] w fun e w' => LinesLightSays xs e ∧ w' = w := by
  go_enter Tryz.func8, Tryz.ntmps8
  go_wp2
  go_loop [3] (fun x => ∃ i : Nat, i ≤ xs.length ∧ x = .int .i64 i ∧ ∀ j d, j < i → xs[j]? = some d → d.size ≤ 300) (fun x => xs.length - (intOf x).toNat)
  case atStart => exact ⟨0, Nat.zero_le _, rfl, fun j d hj => absurd hj (Nat.not_lt_zero _)⟩
  case round =>
    obtain ⟨i, hi, rfl, hno⟩ := hrel
    by_cases hlt : i < xs.length
    · obtain h0 | ⟨b, o, rfl, hN⟩ := h
      · omega
      have hd : xs[i]? = some xs[i] := List.getElem?_eq_getElem hlt
      have c0 := hN.cell i _ hd
      have hlt' : (i : Int) < (xs.length : Int) := by omega
      have hnn : ¬ (i : Int) < 0 := by omega
      have hnn0 : (0 : Int) ≤ (i : Int) := by omega
      go_wp2
      all_goals first
        | (go_ret; exact ⟨⟨false, rfl, fun h => absurd h (by simp)⟩, rfl⟩)
        | (go_round
           case rel => exact ⟨i + 1, by omega, by push_cast; rfl, fun j d hj hd2 => by
             by_cases e : j = i
             · subst e
               rw [hd] at hd2
               obtain rfl := Option.some.inj hd2
               omega
             · exact hno j d (by omega) hd2⟩
           case measure => simp [intOf]; omega)
    · have hlt' : ¬ (i : Int) < (xs.length : Int) := by omega
      go_wp2
      go_ret
      refine ⟨⟨_, rfl, fun ht => ⟨?_, fun j d hj => hno j d (by have := (List.getElem?_eq_some_iff.1 hj).1; omega) hj⟩⟩, rfl⟩
      simp at ht
      omega
end Go.Proofs.W
namespace Go.Proofs.W
open Go Go.Proofs Go.RowKit
set_option maxRecDepth 1000000

set_option maxHeartbeats 4000000 in
theorem R01_Same (a a2 : Option Addr) (c c2 : Nat) (xs ys : List ByteArray) (w : World) (h : TextsH w a xs) (h2 : TextsH w a2 ys) (hlen : xs.length < 9223372036854775808) :
    Calls Tryz.prog 12 #[.slice a xs.length c, .slice a2 ys.length c2] w fun e w' => e = .returned (.bool (decide (xs = ys))) ∧ Below w.heap.size w w' := by
  by_cases hl : xs.length = ys.length
  · have hH : Hid (xs.length = ys.length) := hl
    rw [hl] at hlen ⊢
    clear hl
    go_enter Tryz.func12, Tryz.ntmps12
    go_wp2
    go_loopw [5] (fun x w' => Below w.heap.size w w' ∧ ∃ i : Nat, i ≤ ys.length ∧ x = .int .i64 i ∧ ∀ j, j < i → xs[j]? = ys[j]?) (fun x _ => ys.length - (intOf x).toNat)
    case atStart => exact ⟨Below.refl _ w, 0, Nat.zero_le _, rfl, fun j hj => absurd hj (Nat.not_lt_zero _)⟩
    case round =>
      obtain ⟨hB, i, hi, rfl, hno⟩ := hrel
      by_cases hlt : i < ys.length
      · obtain ⟨b2, o2, rfl, hN2⟩ : ∃ b o, a2 = some ⟨b, o, none⟩ ∧ TextsAt w b o ys := h2.resolve_left (by omega)
        obtain ⟨b, o, rfl, hN⟩ : ∃ b o, a = some ⟨b, o, none⟩ ∧ TextsAt w b o xs := h.resolve_left (by have : xs.length = ys.length := hH; omega)
        obtain ⟨x, hd⟩ : ∃ x, xs[i]? = some x := ⟨_, List.getElem?_eq_getElem (by have : xs.length = ys.length := hH; omega)⟩
        obtain ⟨y, hd2⟩ : ∃ y, ys[i]? = some y := ⟨_, List.getElem?_eq_getElem hlt⟩
        have c0 := (hN.below hB).cell i _ hd
        have c1 := (hN2.below hB).cell i _ hd2
        have hlt' : (i : Int) < (ys.length : Int) := by omega
        have hnn : ¬ (i : Int) < 0 := by omega
        have hnn0 : (0 : Int) ≤ (i : Int) := by omega
        have hBq : ∀ k, Below w.heap.size w (wr.drewN k) := fun k => belowTrans hB (belowDrew _ _)
        cases hq : (x.toList == y.toList)
        all_goals
          go_wp2_with fail
          go_quiet (fail)
          go_wp2
        all_goals first
          | (go_ret
             refine ⟨?_, hBq _⟩
             have hne : decide (xs = ys) = false := decide_eq_false fun e => by
               subst e
               rw [hd] at hd2
               obtain rfl := Option.some.inj hd2
               simp at hq
             rw [hne]
             rfl)
          | (go_roundw
             case rel => exact ⟨hBq _, i + 1, by omega, by push_cast; rfl, fun j hj => by
               by_cases e : j = i
               · subst e
                 rw [hd, hd2]
                 rw [toList_eq_iff] at hq
                 exact congrArg some (of_decide_eq_true hq)
               · exact hno j (by omega)⟩
             case measure => simp [intOf]; omega)
      · have hlt' : ¬ (i : Int) < (ys.length : Int) := by omega
        go_wp2
        go_ret
        refine ⟨?_, hB⟩
        have he : decide (xs = ys) = true := decide_eq_true <| List.ext_getElem? fun j => by
          have hx : xs.length = ys.length := hH
          by_cases hj : j < i
          · exact hno j hj
          · rw [List.getElem?_eq_none (by omega), List.getElem?_eq_none (by omega)]
        rw [he]
        rfl
  · have hl1 : ¬ (xs.length : Int) = (ys.length : Int) := by omega
    have hl2 : ((xs.length : Int) != (ys.length : Int)) = true := by simp; omega
    go_enter Tryz.func12, Tryz.ntmps12
    go_wp2
    go_ret
    refine ⟨?_, Below.refl _ _⟩
    have hne : decide (xs = ys) = false := decide_eq_false fun e => hl (congrArg List.length e)
    rw [hne]
    rfl
end Go.Proofs.W
