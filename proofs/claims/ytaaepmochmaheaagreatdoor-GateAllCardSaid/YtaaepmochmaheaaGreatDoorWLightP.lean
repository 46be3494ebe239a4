/- A PART OF THE PROOF THAT SHOWS THAT EACH OF rafterlaw44.GateAsk AND rafterlaw44.GateAll RETURNS TRUE FOR EVERY INPUT. No condition beyond the given statement. This part: WLightP. -/
import Derived.Test.YtaaepmochmaheaaGreatDoorWHead
import Derived.Test.YtaaepmochmaheaaGreatDoorWPatch
import Derived.Shelf.SlicesQ.Load
namespace Go.Proofs.W
open Go Go.Proofs Go.RowKit
set_option maxRecDepth 1000000

def OpLight (d : OpV) : Prop := d.dels.length ≤ 40 ∧ LinesLight d.lines
def OpsLight (xs : List OpV) : Prop := xs.length ≤ 40 ∧ ∀ (j : Nat) d, xs[j]? = some d → OpLight d
def OpsLightSays (xs : List OpV) (e : Ending) : Prop := ∃ t, e = .returned (.bool t) ∧ (t = true → OpsLight xs)

set_option maxHeartbeats 16000000 in
theorem L12_Light (a : Option Addr) (c : Nat) (xs : List OpV) (w : World) (h : OpsH w a xs) (hlen : xs.length < 9223372036854775808) :
    Calls Tryz.prog 14 #[.slice a xs.length c] w fun e w' => OpsLightSays xs e ∧ Below w.heap.size w w' := by
  go_enter Tryz.func14, Tryz.ntmps14
  go_wp2
  go_loopw [3] (fun x w' => Below w.heap.size w w' ∧ ∃ i : Nat, i ≤ xs.length ∧ x = .int .i64 i ∧ ∀ j d, j < i → xs[j]? = some d → OpLight d) (fun x _ => xs.length - (intOf x).toNat)
  case atStart => exact ⟨Below.refl _ w, 0, Nat.zero_le _, rfl, fun j d hj => absurd hj (Nat.not_lt_zero _)⟩
  case round =>
    obtain ⟨hB, i, hi, rfl, hno⟩ := hrel
    by_cases hlt : i < xs.length
    · obtain h0 | ⟨b, o, rfl, hN⟩ := h
      · omega
      have hd : xs[i]? = some xs[i] := List.getElem?_eq_getElem hlt
      obtain ⟨c0, c1, c2, c3, c4, c5, c6, c7, c8, c9, d0, d1, d2, d3, d4, d5⟩ := (hN.below hB).cell i _ hd
      obtain ⟨hids, htx, hdl, hll⟩ := (hN.below hB).sub i _ hd
      have hlt' : (i : Int) < (xs.length : Int) := by omega
      have hnn : ¬ (i : Int) < 0 := by omega
      have hnn0 : (0 : Int) ≤ (i : Int) := by omega
      obtain ⟨wo, rfl⟩ : ∃ wo : World, wo = wr := ⟨_, rfl⟩
      generalize hX : xs[i] = X at c0 c1 c2 c3 c4 c5 c6 c7 c8 c9 d0 d1 d2 d3 d4 d5 hids htx hdl hll hd
      have hB1 : ∀ x, Below w.heap.size w (wo.alloc x) := fun x => belowTrans hB (belowAlloc _ _)
      have hsz := hB.size
      by_cases h40 : (40 : Int) < (X.dels.length : Int)
      · go_wp2_with fail
        go_ret
        exact ⟨⟨false, rfl, fun h => absurd h (by simp)⟩, hB1 _⟩
      · go_wp2_with fail
        refine (L03_Light X.la X.lc X.lines _ (htx.below (belowAlloc _ _)) hll).mono ?_
        rintro e w1 ⟨⟨t, rfl, ht⟩, rfl⟩
        cases t with
        | false =>
          go_wp2
          go_ret
          exact ⟨⟨false, rfl, fun h => absurd h (by simp)⟩, hB1 _⟩
        | true =>
          have hlines := ht rfl
          go_wp2
          · go_ret
            exact ⟨⟨false, rfl, fun h => absurd h (by simp)⟩, hB1 _⟩
          · go_loopw [5] (fun x w' => (Below w.heap.size w w' ∧ w'.cell? ⟨wo.heap.size, 13, none⟩ = some (.slice X.da X.dels.length X.dc) ∧ IdsH w' X.da X.dels) ∧ ∃ k : Nat, k ≤ X.dels.length ∧ x = .int .i64 k) (fun x _ => X.dels.length - (intOf x).toNat)
            case atStart => exact ⟨⟨hB1 _, by rw [cell_newBlock]; rfl, hids.below (belowAlloc _ _)⟩, 0, Nat.zero_le _, rfl⟩
            case round =>
              obtain ⟨⟨hB2, hc, hI⟩, k, hk, rfl⟩ := hrel
              by_cases hkl : k < X.dels.length
              · obtain ⟨b2, o2, hda, hN2⟩ : ∃ b o, X.da = some ⟨b, o, none⟩ ∧ IdsAt wr b o X.dels := hI.resolve_left (by omega)
                rw [hda] at hc
                have hd2 : X.dels[k]? = some X.dels[k] := List.getElem?_eq_getElem hkl
                obtain ⟨e0, e1⟩ := hN2.cell k _ hd2
                have hkl' : (k : Int) < (X.dels.length : Int) := by omega
                have hkn : ¬ (k : Int) < 0 := by omega
                have hkn0 : (0 : Int) ≤ (k : Int) := by omega
                go_wp2
                all_goals first
                  | (go_ret; exact ⟨⟨false, rfl, fun h => absurd h (by simp)⟩, hB2⟩)
                  | (go_roundw
                     case rel => exact ⟨⟨hB2, by rw [hda]; exact hc, hI⟩, k + 1, by omega, by push_cast; rfl⟩
                     case measure => simp [intOf]; omega)
              · have hkl' : ¬ (k : Int) < (X.dels.length : Int) := by omega
                go_wp2
                go_roundw
                case rel => exact ⟨hB2, i + 1, by omega, by push_cast; rfl, fun j d hj hd2 => by
                  by_cases e : j = i
                  · subst e
                    rw [hd] at hd2
                    obtain rfl := Option.some.inj hd2
                    exact ⟨by omega, hlines⟩
                  · exact hno j d (by omega) hd2⟩
                case measure => simp [intOf]; omega
    · have hlt' : ¬ (i : Int) < (xs.length : Int) := by omega
      go_wp2
      go_ret
      refine ⟨⟨_, rfl, fun ht => ⟨?_, fun j d hj => hno j d (by have := (List.getElem?_eq_some_iff.1 hj).1; omega) hj⟩⟩, hB⟩
      simp at ht
      omega

def PatchLight (d : PatchV) : Prop := d.deps.length ≤ 60 ∧ d.ops.length ≤ 30 ∧ (∀ (j : Nat) x, d.deps[j]? = some x → x.size ≤ 100) ∧ d.name.size ≤ 100 ∧ OpsLight d.ops
def PatchLightSays (d : PatchV) (e : Ending) : Prop := ∃ t, e = .returned (.bool t) ∧ (t = true → PatchLight d)

set_option maxHeartbeats 16000000 in
theorem L13_Light (d : PatchV) (w : World) (h1 : TextsH w d.pa d.deps) (h2 : OpsH w d.oa d.ops) (hl1 : d.deps.length < 9223372036854775808) (hl2 : d.ops.length < 9223372036854775808) :
    Calls Tryz.prog 5 #[.agg #[.string d.name, .slice d.pa d.deps.length d.pc, .slice d.oa d.ops.length d.oc]] w fun e w' => PatchLightSays d e ∧ Below w.heap.size w w' := by
  have hB1 := belowAlloc w (.cells #[.string d.name, .slice d.pa d.deps.length d.pc, .slice d.oa d.ops.length d.oc] 25)
  by_cases h60 : (60 : Int) < (d.deps.length : Int)
  · go_enter Tryz.func5, Tryz.ntmps5
    go_wp2
    go_ret
    exact ⟨⟨false, rfl, fun h => absurd h (by simp)⟩, hB1⟩
  · by_cases h100 : (100 : Int) < (d.name.size : Int)
    · go_enter Tryz.func5, Tryz.ntmps5
      go_wp2
      go_ret
      exact ⟨⟨false, rfl, fun h => absurd h (by simp)⟩, hB1⟩
    · by_cases h30 : (30 : Int) < (d.ops.length : Int)
      · go_enter Tryz.func5, Tryz.ntmps5
        go_wp2
        go_ret
        exact ⟨⟨false, rfl, fun h => absurd h (by simp)⟩, hB1⟩
      · go_enter Tryz.func5, Tryz.ntmps5
        go_wp2
        go_loopw [3] (fun x w' => (Below w.heap.size w w' ∧ w'.cell? ⟨w.heap.size, 1, none⟩ = some (.slice d.pa d.deps.length d.pc) ∧ w'.cell? ⟨w.heap.size, 2, none⟩ = some (.slice d.oa d.ops.length d.oc)) ∧ ∃ i : Nat, i ≤ d.deps.length ∧ x = .int .i64 i ∧ ∀ j y, j < i → d.deps[j]? = some y → y.size ≤ 100) (fun x _ => d.deps.length - (intOf x).toNat)
        case atStart => exact ⟨⟨hB1, by rw [cell_newBlock]; rfl, by rw [cell_newBlock]; rfl⟩, 0, Nat.zero_le _, rfl, fun j y hj => absurd hj (Nat.not_lt_zero _)⟩
        case round =>
          obtain ⟨⟨hB, hc1, hc2⟩, i, hi, rfl, hno⟩ := hrel
          by_cases hlt : i < d.deps.length
          · obtain ⟨b, o, hpa, hN⟩ : ∃ b o, d.pa = some ⟨b, o, none⟩ ∧ TextsAt w b o d.deps := h1.resolve_left (by omega)
            rw [hpa] at hc1
            have hd : d.deps[i]? = some d.deps[i] := List.getElem?_eq_getElem hlt
            have cx := (hN.below hB).cell i _ hd
            have hlt' : (i : Int) < (d.deps.length : Int) := by omega
            have hnn : ¬ (i : Int) < 0 := by omega
            have hnn0 : (0 : Int) ≤ (i : Int) := by omega
            go_wp2
            all_goals first
              | (go_ret; exact ⟨⟨false, rfl, fun h => absurd h (by simp)⟩, hB⟩)
              | (go_roundw
                 case rel => exact ⟨⟨hB, by rw [hpa]; exact hc1, hc2⟩, i + 1, by omega, by push_cast; rfl, fun j y hj hy => by
                   by_cases e : j = i
                   · subst e
                     rw [hd] at hy
                     obtain rfl := Option.some.inj hy
                     omega
                   · exact hno j y (by omega) hy⟩
                 case measure => simp [intOf]; omega)
          · have hlt' : ¬ (i : Int) < (d.deps.length : Int) := by omega
            go_wp2_with fail
            refine (L12_Light d.oa d.oc d.ops wr (h2.below hB) hl2).mono ?_
            rintro e w2 ⟨⟨t, rfl, ht⟩, hb2⟩
            go_wp2
            go_ret
            exact ⟨⟨t, rfl, fun h => ⟨by omega, by omega, fun j y hy => hno j y (by have := (List.getElem?_eq_some_iff.1 hy).1; omega) hy, by omega, ht h⟩⟩, belowTrans hB hb2⟩
end Go.Proofs.W
