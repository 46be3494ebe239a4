/- A PART OF THE PROOF THAT ONE CALL OF A LAW OF LAYER 29 (whose alternatives any lines have, and whether they have marks) returns true, whatever the input; the input reads as it did. No condition beyond the given statement. This part: WLawMN. -/
import Derived.Test.YtklmbhogclaieaaGreatDoorWLight
import Derived.Test.YtklmbhogclaieaaGreatDoorWMark
namespace Go.Proofs.W
open Go Go.Proofs Go.RowKit
set_option maxRecDepth 1000000

set_option maxHeartbeats 16000000 in
theorem lawMN (haw : ∀ W, Calls Tryz.prog 9 #[] W fun e w' => e = .returned (.bool true) ∧ Below W.heap.size W w') (a : Option Addr) (c : Nat) (xs : List ByteArray) (w : World) (h : TextsH w a xs) (hlen : xs.length < 9223372036854775808) :
    Calls Tryz.prog 3 #[.slice a xs.length c] w fun e w' => e = .returned (.bool true) ∧ Below w.heap.size w w' := by
  have hli := L03_Light a c xs w h hlen
  go_enter Tryz.func3, Tryz.ntmps3
  go_wp2_with fail
  refine hli.mono ?_
  rintro e w1 ⟨⟨t, rfl, ht⟩, rfl⟩
  cases t with
  | false =>
    go_wp2_with fail
    refine (haw _).mono ?_
    rintro e w2 ⟨rfl, hb⟩
    go_wp2
    go_ret
    exact ⟨rfl, hb⟩
  | true =>
    obtain ⟨hl60, hsz⟩ := ht rfl
    go_wp2
    go_loopw [3, 4, 5] (fun sv cv iv w' => Below w1.heap.size w1 w' ∧ ∃ i : Nat, i ≤ xs.length ∧ iv = .int .i64 i ∧ cv = .bool (cleanB (xs.take i)) ∧ OwnT w1.heap.size w' sv (namedB (xs.take i))) (fun _ _ iv _ => xs.length - (intOf iv).toNat)
    case atStart => exact ⟨Below.refl _ _, 0, Nat.zero_le _, rfl, rfl, OwnT.nil _ _⟩
    case round =>
      obtain ⟨hB, i, hi, rfl, rfl, hown⟩ := hrel
      by_cases hlt : i < xs.length
      · obtain ⟨b, o, rfl, hN⟩ : ∃ b o, a = some ⟨b, o, none⟩ ∧ TextsAt w1 b o xs := h.resolve_left (by omega)
        have hd : xs[i]? = some xs[i] := List.getElem?_eq_getElem hlt
        have hlt' : (i : Int) < (xs.length : Int) := by omega
        have hnn : ¬ (i : Int) < 0 := by omega
        have hnn0 : (0 : Int) ≤ (i : Int) := by omega
        obtain ⟨X, hX⟩ : ∃ X, xs[i] = X := ⟨_, rfl⟩
        have hnx := namedB_take xs i hlt
        have hcx := cleanB_take xs i hlt
        rw [hX] at hd hnx hcx
        have hszX : X.size ≤ 300 := hsz i X hd
        have cx := (hN.below hB).cell i _ hd
        have hnl := namedB_length (xs.take i)
        have hnl2 : (xs.take i).length ≤ xs.length := by rw [List.length_take]; omega
        have hmk := R29_Mark X
        have htsz : (tail4 X).size ≤ 300 := by unfold tail4; rw [ByteArray.size_extract]; omega
        have hnr := R02_Right (tail4 X)
        unfold named1 at hnx
        unfold clean1 at hcx
        generalize hQ : namedB (xs.take i) = Q at hown hnl hnx
        generalize hC : cleanB (xs.take i) = C at hcx
        cases hm : markB X with
        | false =>
          have hres : namedB (xs.take (i + 1)) = Q := by rw [hnx, hm]; simp
          rw [hm] at hmk
          cases C <;> cases he : (X.toList == [62, 62, 62])
          all_goals
            go_wp2_with (go_at_call 10; refine (hmk _).mono ?_; rintro e w' ⟨rfl, rfl⟩)
            go_roundw
            case rel => exact ⟨hB, i + 1, by omega, by push_cast; rfl, by rw [hcx, hm, he]; rfl, by rw [hres]; exact hown⟩
            case measure => simp [intOf]; omega
        | true =>
          have h4 : (4 : Int) ≤ (X.size : Int) := by
            unfold markB at hm
            rw [Bool.and_eq_true] at hm
            exact of_decide_eq_true hm.1
          rw [hm] at hmk
          have hres2 : cleanB (xs.take (i + 1)) = false := by rw [hcx, hm]; simp
          cases hn : nameR (tail4 X) with
          | false =>
            have hres : namedB (xs.take (i + 1)) = Q := by rw [hnx, hm, hn]; simp
            rw [hn] at hnr
            go_wp2_with (first | (go_at_call 10; refine (hmk _).mono ?_; rintro e w' ⟨rfl, rfl⟩) | (go_at_call 11; refine (hnr _ (by omega)).mono ?_; rintro e w' ⟨rfl, rfl⟩))
            go_roundw
            case rel => exact ⟨hB, i + 1, by omega, by push_cast; rfl, by rw [hres2], by rw [hres]; exact hown⟩
            case measure => simp [intOf]; omega
          | true =>
            have hres : namedB (xs.take (i + 1)) = Q ++ [tail4 X] := by rw [hnx, hm, hn]; simp
            rw [hn] at hnr
            go_wp2_with (first
              | (go_at_call 10; refine (hmk _).mono ?_; rintro e w' ⟨rfl, rfl⟩)
              | (go_at_call 11; refine (hnr _ (by omega)).mono ?_; rintro e w' ⟨rfl, rfl⟩)
              | (at_builtin; refine wpList_append_texts _ rfl (.tmp 27) (.tmp 33) rfl w1.heap.size _ Q rfl (hown.kept (belowAlloc _ _)) _ [tail4 X] rfl (srcOne _ _ _) ?len ?base ?_))
            case len => simp; omega
            case base => have := hB.size; simp; omega
            intro v1 w2 hown1 hg1
            have hb1 := belowGrown (belowTrans hB (belowAlloc _ _)) (Nat.le_refl _) (by have := hB.size; simp; omega) (hown.kept (belowAlloc _ _)) hg1
            go_wp2
            go_roundw
            case rel => exact ⟨hb1, i + 1, by omega, by push_cast; rfl, by rw [hres2], by rw [hres]; exact hown1⟩
            case measure => simp [intOf]; omega
      · have hlt' : ¬ (i : Int) < (xs.length : Int) := by omega
        obtain rfl : i = xs.length := by omega
        rw [List.take_length] at hown
        rw [List.take_length]
        have hnl := namedB_length xs
        have hmn : ∀ W, Below w1.heap.size w1 W → _ := fun W hb => markup_Names a c xs W (h.below hb) (by omega)
        have hmc : ∀ W, Below w1.heap.size w1 W → _ := fun W hb => markup_Clean a c xs W (h.below hb) hlen
        obtain ⟨na, nc, rfl, hnH⟩ := hown.H
        generalize cleanB xs = C at hmc
        go_wp2_with fail
        refine (haw _).mono ?_
        rintro e w2 ⟨rfl, hb2⟩
        have hB2 := belowTrans hB hb2
        go_wp2_with fail
        refine (hmn _ hB2).mono ?_
        rintro e w3 ⟨⟨v3, rfl, hv3⟩, hb3⟩
        have hB3 := belowTrans hB2 hb3
        obtain ⟨sa, sc, rfl, hsH⟩ := hv3.H
        have hst := R02_Set na nc (namedB xs) w3 (hnH.below (belowTrans hb2 hb3)) (by omega)
        go_wp2_with fail
        refine hst.mono ?_
        rintro e w4 ⟨⟨v4, rfl, hv4⟩, hb4⟩
        have hB4 := belowTrans hB3 hb4
        obtain ⟨ra, rc, rfl, hrH⟩ := hv4.H
        have hsl := setB_length (namedB xs)
        have hsame := R01_Same sa ra sc rc (setB (namedB xs)) (setB (namedB xs)) w4 (hsH.below hb4) hrH (by omega)
        rw [decide_eq_true rfl] at hsame
        go_wp2_with fail
        refine hsame.mono ?_
        rintro e w5 ⟨rfl, hb5⟩
        have hB5 := belowTrans hB4 hb5
        go_wp2_with fail
        refine (hmc _ hB5).mono ?_
        rintro e w6 ⟨rfl, hb6⟩
        cases C
        all_goals
          go_wp2
          go_ret
          exact ⟨rfl, belowTrans hB5 hb6⟩
end Go.Proofs.W
