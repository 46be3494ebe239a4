/- A PART OF THE PROOF THAT WORKMAKES HOLDS FOR EVERY INPUT OF BULK AT MOST 1048576. No condition beyond the given statement. This part: WLight. -/
import Derived.Test.YthodcfgoeffbdaaGreatDoorWHead
namespace Go.Proofs.W
open Go Go.Proofs Go.RowKit
set_option maxRecDepth 1000000

/-- what the look at lines' sizes says -/
def LinesLight (xs : List ByteArray) : Prop := xs.length ≤ 60 ∧ ∀ (j : Nat) d, xs[j]? = some d → d.size ≤ 300
def LinesLightSays (xs : List ByteArray) (e : Ending) : Prop := ∃ t, e = .returned (.bool t) ∧ (t = true → LinesLight xs)

set_option maxHeartbeats 4000000 in
theorem L03_Light (a : Option Addr) (c : Nat) (xs : List ByteArray) (w : World) (h : TextsH w a xs) (hlen : xs.length < 9223372036854775808) :
    Calls Tryz.prog 13 #[.slice a xs.length c] w fun e w' => LinesLightSays xs e ∧ w' = w := by
  go_enter Tryz.func13, Tryz.ntmps13
  go_wp2
  go_loop [3] (fun x => ∃ i : Nat, i ≤ xs.length ∧ x = .int .i64 i ∧ ∀ j d, j < i → xs[j]? = some d → d.size ≤ 300) (fun x => xs.length - (intOf x).toNat)
  case atStart => exact ⟨0, Nat.zero_le _, rfl, fun j d hj => absurd hj (Nat.not_lt_zero _)⟩
  case round =>
    obtain ⟨i, hi, rfl, hno⟩ := hrel
    by_cases hlt : i < xs.length
    · obtain h0 | ⟨b, o, rfl, hN⟩ := h
      · omega
      have hd : xs[i]? = some xs[i] := List.getElem?_eq_getElem hlt
      have c0 := hN.cell i _ hd
      have hlt' : (i : Int) < (xs.length : Int) := by omega
      have hnn : ¬ (i : Int) < 0 := by omega
      have hnn0 : (0 : Int) ≤ (i : Int) := by omega
      go_wp2
      all_goals first
        | (go_ret; exact ⟨⟨false, rfl, fun h => absurd h (by simp)⟩, rfl⟩)
        | (go_round
           case rel => exact ⟨i + 1, by omega, by push_cast; rfl, fun j d hj hd2 => by
             by_cases e : j = i
             · subst e
               rw [hd] at hd2
               obtain rfl := Option.some.inj hd2
               omega
             · exact hno j d (by omega) hd2⟩
           case measure => simp [intOf]; omega)
    · have hlt' : ¬ (i : Int) < (xs.length : Int) := by omega
      go_wp2
      go_ret
      refine ⟨⟨_, rfl, fun ht => ⟨?_, fun j d hj => hno j d (by have := (List.getElem?_eq_some_iff.1 hj).1; omega) hj⟩⟩, rfl⟩
      simp at ht
      omega
end Go.Proofs.W
namespace Go.Proofs.W
open Go Go.Proofs Go.RowKit
set_option maxRecDepth 1000000

def FilesLight (xs : List FileV) : Prop := xs.length ≤ 40 ∧ ∀ (j : Nat) d, xs[j]? = some d → d.path.size ≤ 300 ∧ LinesLight d.lines
def FilesLightSays (xs : List FileV) (e : Ending) : Prop := ∃ t, e = .returned (.bool t) ∧ (t = true → FilesLight xs)

set_option maxHeartbeats 16000000 in
theorem L06_Light (a : Option Addr) (c : Nat) (xs : List FileV) (w : World) (h : FilesH w a xs) (hlen : xs.length < 9223372036854775808) :
    Calls Tryz.prog 4 #[.slice a xs.length c] w fun e w' => FilesLightSays xs e ∧ w' = w := by
  go_enter Tryz.func4, Tryz.ntmps4
  go_wp2
  go_loop [3] (fun x => ∃ i : Nat, i ≤ xs.length ∧ x = .int .i64 i ∧ ∀ j d, j < i → xs[j]? = some d → d.path.size ≤ 300 ∧ LinesLight d.lines) (fun x => xs.length - (intOf x).toNat)
  case atStart => exact ⟨0, Nat.zero_le _, rfl, fun j d hj => absurd hj (Nat.not_lt_zero _)⟩
  case round =>
    obtain ⟨i, hi, rfl, hno⟩ := hrel
    by_cases hlt : i < xs.length
    · obtain ⟨b, o, rfl, hN⟩ : ∃ b o, a = some ⟨b, o, none⟩ ∧ FilesAt w b o xs := h.resolve_left (by omega)
      have hd : xs[i]? = some xs[i] := List.getElem?_eq_getElem hlt
      obtain ⟨c0, c1, c2⟩ := hN.cell i _ hd
      obtain ⟨s1, s2⟩ := hN.sub i _ hd
      have hlt' : (i : Int) < (xs.length : Int) := by omega
      have hnn : ¬ (i : Int) < 0 := by omega
      have hnn0 : (0 : Int) ≤ (i : Int) := by omega
      generalize xs[i] = X at c0 c1 c2 s1 s2 hd
      have hcall := L03_Light X.la X.lc X.lines w s1 s2
      by_cases hsz : (300 : Int) < (X.path.size : Int)
      · go_wp2
        go_ret
        exact ⟨⟨false, rfl, fun h => absurd h (by simp)⟩, rfl⟩
      · go_wp2_with fail
        refine hcall.mono ?_
        rintro e w2 ⟨⟨t, rfl, ht⟩, rfl⟩
        cases t with
        | false =>
          go_wp2
          go_ret
          exact ⟨⟨false, rfl, fun h => absurd h (by simp)⟩, rfl⟩
        | true =>
          go_wp2
          go_round
          case rel => exact ⟨i + 1, by omega, by push_cast; rfl, fun j d hj hd2 => by
            by_cases e : j = i
            · subst e
              rw [hd] at hd2
              obtain rfl := Option.some.inj hd2
              exact ⟨by omega, by first | exact ht rfl | exact ht trivial⟩
            · exact hno j d (by omega) hd2⟩
          case measure => simp [intOf]; omega
    · have hlt' : ¬ (i : Int) < (xs.length : Int) := by omega
      go_wp2
      go_ret
      refine ⟨⟨_, rfl, fun ht => ⟨?_, fun j d hj => hno j d (by have := (List.getElem?_eq_some_iff.1 hj).1; omega) hj⟩⟩, rfl⟩
      simp at ht
      omega

end Go.Proofs.W
