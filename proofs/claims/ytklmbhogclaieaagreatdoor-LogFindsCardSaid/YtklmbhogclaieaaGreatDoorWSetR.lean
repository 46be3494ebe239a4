/- A PART OF THE PROOF THAT ONE CALL OF A LAW OF LAYER 46 (which of any patches have a line with any word) returns true, whatever the input; the input reads as it did. No condition beyond the given statement. This part: WSetR. -/
import Derived.Test.YtklmbhogclaieaaGreatDoorWHead
import Derived.Test.YtklmbhogclaieaaGreatDoorSetLaw
namespace Go.Proofs.W
open Go Go.Proofs Go.RowKit
set_option maxRecDepth 1000000

set_option maxHeartbeats 16000000 in
theorem R02_Set (a : Option Addr) (c : Nat) (xs : List ByteArray) (w : World) (h : TextsH w a xs) (hlen : xs.length ≤ 4398046511104) :
    Calls Tryz.prog 14 #[.slice a xs.length c] w fun e w' => (∃ v', e = .returned v' ∧ OwnT w.heap.size w' v' (setB xs)) ∧ Below w.heap.size w w' := by
  go_enter Tryz.func14, Tryz.ntmps14
  go_wp2
  go_loopw [3, 4] (fun sv iv w' => Below w.heap.size w w' ∧ ∃ i : Nat, i ≤ xs.length ∧ iv = .int .i64 i ∧ OwnT w.heap.size w' sv (setB (xs.take i))) (fun _ iv _ => xs.length - (intOf iv).toNat)
  case atStart => exact ⟨Below.refl _ w, 0, Nat.zero_le _, rfl, OwnT.nil _ _⟩
  case round =>
    obtain ⟨hB, i, hi, rfl, hown⟩ := hrel
    by_cases hlt : i < xs.length
    · obtain h0 | ⟨b, o, rfl, hN⟩ := h
      · omega
      have hd : xs[i]? = some xs[i] := List.getElem?_eq_getElem hlt
      have hlt' : (i : Int) < (xs.length : Int) := by omega
      have hnn : ¬ (i : Int) < 0 := by omega
      have hnn0 : (0 : Int) ≤ (i : Int) := by omega
      have hset := setB_take xs i hlt
      have hOl := setB_length (xs.take i)
      obtain ⟨wo, rfl⟩ : ∃ wo : World, wo = wr := ⟨_, rfl⟩
      obtain ⟨O, hO⟩ : ∃ O, setB (xs.take i) = O := ⟨_, rfl⟩
      rw [hO] at hset hown hOl
      have hOl2 : O.length ≤ xs.length := by rw [List.length_take] at hOl; omega
      obtain ⟨oa, oc, rfl, hsh⟩ := hown.shape
      obtain ⟨X, hX⟩ : ∃ X, xs[i] = X := ⟨_, rfl⟩
      rw [hX] at hset hd
      have cx := (hN.below hB).cell i _ hd
      go_wp2
      go_loopw [5] (fun kv w2 => (Below wo.heap.size wo w2 ∧ w2.heap.size = wo.heap.size) ∧ ∃ k : Nat, k ≤ O.length ∧ kv = .int .i64 k ∧ ∀ j (hj : j < O.length), j < k → Op.bytesLess O[j].toList X.toList = true) (fun kv _ => O.length - (intOf kv).toNat)
      case atStart => exact ⟨⟨Below.refl _ _, rfl⟩, 0, Nat.zero_le _, rfl, fun j _ hj => absurd hj (Nat.not_lt_zero _)⟩
      case round =>
        obtain ⟨⟨hBi, hSi⟩, k, hk, rfl, hless⟩ := hrel
        have hBw := belowTrans hB hBi
        have hBq : ∀ q, Below w.heap.size w (wr.drewN q) := fun q => belowTrans hBw (belowDrew _ _)
        have hBiq : ∀ q, Below wo.heap.size wo (wr.drewN q) := fun q => belowTrans hBi (belowDrew _ _)
        have hownr : ∀ q, OwnT w.heap.size (wr.drewN q) (.slice oa O.length oc) O := fun q => hown.kept (hBiq q)
        have cx1 := (hN.below hBw).cell i _ hd
        clear cx
        by_cases hkl : k < O.length
        · obtain ⟨g, rfl, hg0, hglt, hOt, hOc⟩ := hsh.resolve_left (fun h => by have := h.1; subst this; simp at hkl)
          obtain ⟨Y, hY⟩ : ∃ Y, O[k]? = some Y := ⟨_, List.getElem?_eq_getElem hkl⟩
          have hYe : O[k] = Y := (List.getElem?_eq_some_iff.1 hY).2
          have cy := (hOt.below hBi).cell k _ hY
          rw [Nat.zero_add] at cy
          have hk' : (k : Int) < (O.length : Int) := by omega
          have hkn : ¬ (k : Int) < 0 := by omega
          have hkn0 : (0 : Int) ≤ (k : Int) := by omega
          cases hq : Op.bytesLess Y.toList X.toList with
          | true =>
            go_wp2_with fail
            go_quiet (fail)
            go_wp2
            go_roundw
            case rel => exact ⟨⟨hBiq _, hSi⟩, k + 1, by omega, by push_cast; rfl, fun j hj hjk => by
              by_cases e : j = k
              · subst e; rw [hYe]; exact hq
              · exact hless j hj (by omega)⟩
            case measure => simp [intOf]; omega
          | false =>
            have hins := insB_at X O k hk hless (fun _ => by rw [hYe]; exact hq)
            cases he : (Y.toList == X.toList) with
            | true =>
              have hsame : setB (xs.take (i + 1)) = O := by
                rw [hset, hins, if_pos]
                rw [hY, (of_decide_eq_true ((toList_eq_iff Y X).symm.trans he))]
              go_wp2_with fail
              go_quiet (fail)
              go_wp2_with fail
              go_quiet (fail)
              go_wp2
              go_roundw
              case rel => exact ⟨hBq _, i + 1, by omega, by push_cast; rfl, by rw [hsame]; exact hownr _⟩
              case measure => simp [intOf]; omega
            | false =>
              go_wp2_with fail
              go_quiet (fail)
              go_wp2_with fail
              go_quiet (fail)
              have hock : ¬ oc = k := by omega
              have hres : setB (xs.take (i + 1)) = O.take k ++ [X] ++ O.drop k := by
                rw [hset, hins, if_neg]
                · simp
                · rw [hY]
                  intro e
                  rw [Option.some.inj e] at he
                  simp at he
              have hlk : (O.take k).length = k := by rw [List.length_take]; omega
              have hld : (O.drop k).length = O.length - k := List.length_drop
              go_wp2_with (at_builtin; refine wpList_append_texts _ rfl (.tmp 45) (.tmp 48) rfl wo.heap.size _ [] rfl (ownT_lit0 _ _ _ ?hn ?hb) _ (O.take k) rfl ?src ?len ?base ?_)
              case hn => exact hSi.symm
              case hb => exact Nat.le_of_eq hSi.symm
              case src =>
                exact srcPart (m := 0) (hOt.below (belowTrans (hBiq _) (belowAlloc _ _))) hlk (fun j x hj => by rw [Nat.zero_add]; rw [List.getElem?_take] at hj; split at hj; exact hj; cases hj)
              case len => rw [hlk]; simp; omega
              case base => simp; omega
              intro v1 w1 hown1 hg1
              have hb1 : Below wo.heap.size wo w1 := belowGrown (belowTrans (hBiq _) (belowAlloc _ _)) (Nat.le_refl _) (by simp; omega) (ownT_lit0 _ wo.heap.size _ hSi.symm (Nat.le_of_eq hSi.symm)) hg1
              have cx2 := (hN.below (belowTrans hB hb1)).cell i _ hd
              clear hg1 cx1
              go_wp2_with (at_builtin; refine wpList_append_texts _ rfl (.tmp 50) (.tmp 55) rfl wo.heap.size v1 (O.take k) rfl (hown1.kept (belowAlloc _ _)) _ [X] rfl (srcOne _ _ _) ?len ?base ?_)
              case len => rw [hlk]; simp; omega
              case base => have := hb1.size; simp; omega
              intro v2 w2 hown2 hg2
              have hb2 : Below wo.heap.size wo w2 := belowGrown (belowTrans hb1 (belowAlloc _ _)) (Nat.le_refl _) (by have := hb1.size; simp; omega) (hown1.kept (belowAlloc _ _)) hg2
              clear hg2
              go_wp2_with (at_builtin; refine wpList_append_texts _ rfl (.tmp 57) (.tmp 60) rfl wo.heap.size v2 (O.take k ++ [X]) rfl hown2 _ (O.drop k) rfl ?src ?len ?base ?_)
              case src =>
                have := srcPart (n := O.length - k) (c := oc - k) (m := k) (hOt.below hb2) hld (fun j x hj => by rw [List.getElem?_drop] at hj; exact hj)
                rw [Nat.zero_add] at this
                exact this
              case len => simp [hlk]; omega
              case base => exact hb2.size
              intro v3 w3 hown3 hg3
              have hown3' : OwnT wo.heap.size w3 v3 (O.take k ++ [X] ++ O.drop k) := by simpa using hown3
              have hb3 : Below wo.heap.size wo w3 := belowGrown hb2 (Nat.le_refl _) hb2.size hown2 hg3
              go_wp2
              go_roundw
              case rel => exact ⟨belowTrans hB hb3, i + 1, by omega, by push_cast; rfl, by rw [hres]; exact hown3'.mono hB.size⟩
              case measure => simp [intOf]; omega
        · have hke : Hid (k = O.length) := show k = O.length by omega
          have hk' : ¬ (k : Int) < (O.length : Int) := by omega
          have hins := insB_at X O k hk hless (fun h => absurd h hkl)
          have hres : setB (xs.take (i + 1)) = O.take k ++ [X] ++ O.drop k := by
            rw [hset, hins, if_neg]
            · simp
            · rw [List.getElem?_eq_none (by omega)]; exact fun h => by cases h
          have hlk : (O.take k).length = k := by rw [List.length_take]; omega
          have hd0 : O.drop k = [] := List.drop_eq_nil_of_le (by omega)
          have hl0 : O.length - k = 0 := by omega
          rcases hsh with ⟨hO0, rfl, rfl⟩ | ⟨g, rfl, hg0, hglt, hOt, hOc⟩
          · have hO1 : Hid (O = []) := hO0
            have hk00 : Hid (k = 0) := show k = 0 by rw [hO0] at hk; simpa using hk
            have hk0 : (k : Int) ≤ 0 := by have : k = 0 := hk00; omega
            have hkn0 : (0 : Int) ≤ (k : Int) := by omega
            clear hO0
            go_wp2_with fail
            go_quiet (fail)
            go_wp2_with fail
            go_quiet (fail)
            go_wp2_with (at_builtin; refine wpList_append_texts _ rfl (.tmp 45) (.tmp 48) rfl wo.heap.size _ [] rfl (ownT_lit0 _ _ _ ?hn ?hb) _ (O.take k) rfl ?src ?len ?base ?_)
            case hn => exact hSi.symm
            case hb => exact Nat.le_of_eq hSi.symm
            case src => exact .inl ⟨by have h1 : k = 0 := hk00; have h2 : O = [] := hO1; subst h2; subst h1; rfl, by rw [show O = [] from hO1]; simp⟩
            case len => rw [hlk]; simp; omega
            case base => simp; omega
            intro v1 w1 hown1 hg1
            have hb1 : Below wo.heap.size wo w1 := belowGrown (belowTrans (hBiq _) (belowAlloc _ _)) (Nat.le_refl _) (by simp; omega) (ownT_lit0 _ wo.heap.size _ hSi.symm (Nat.le_of_eq hSi.symm)) hg1
            have cx2 := (hN.below (belowTrans hB hb1)).cell i _ hd
            clear hg1 cx1
            go_wp2_with (at_builtin; refine wpList_append_texts _ rfl (.tmp 50) (.tmp 55) rfl wo.heap.size v1 (O.take k) rfl (hown1.kept (belowAlloc _ _)) _ [X] rfl (srcOne _ _ _) ?len ?base ?_)
            case len => rw [hlk]; simp; omega
            case base => have := hb1.size; simp; omega
            intro v2 w2 hown2 hg2
            have hb2 : Below wo.heap.size wo w2 := belowGrown (belowTrans hb1 (belowAlloc _ _)) (Nat.le_refl _) (by have := hb1.size; simp; omega) (hown1.kept (belowAlloc _ _)) hg2
            clear hg2
            go_wp2_with (at_builtin; refine wpList_append_texts _ rfl (.tmp 57) (.tmp 60) rfl wo.heap.size v2 (O.take k ++ [X]) rfl hown2 _ (O.drop k) rfl ?src ?len ?base ?_)
            case src => exact .inl ⟨by have h1 : k = 0 := hk00; have h2 : O = [] := hO1; subst h2; subst h1; rfl, by rw [show O = [] from hO1]; simp⟩
            case len => simp [hlk]; omega
            case base => exact hb2.size
            intro v3 w3 hown3 hg3
            have hown3' : OwnT wo.heap.size w3 v3 (O.take k ++ [X] ++ O.drop k) := by simpa [hd0] using hown3
            have hb3 : Below wo.heap.size wo w3 := belowGrown hb2 (Nat.le_refl _) hb2.size hown2 hg3
            go_wp2
            go_roundw
            case rel => exact ⟨belowTrans hB hb3, i + 1, by omega, by push_cast; rfl, by rw [hres]; exact hown3'.mono hB.size⟩
            case measure => simp [intOf]; omega
          · have hkn0 : (0 : Int) ≤ (k : Int) := by omega
            by_cases hock : oc = k
            all_goals
              go_wp2_with fail
              go_quiet (fail)
              go_wp2_with fail
              go_quiet (fail)
              go_wp2_with (at_builtin; refine wpList_append_texts _ rfl (.tmp 45) (.tmp 48) rfl wo.heap.size _ [] rfl (ownT_lit0 _ _ _ ?hn ?hb) _ (O.take k) rfl ?src ?len ?base ?_)
              case hn => exact hSi.symm
              case hb => exact Nat.le_of_eq hSi.symm
              case src =>
                exact srcPart (m := 0) (hOt.below (belowTrans (hBiq _) (belowAlloc _ _))) hlk (fun j x hj => by rw [Nat.zero_add]; rw [List.getElem?_take] at hj; split at hj; exact hj; cases hj)
              case len => rw [hlk]; simp; omega
              case base => simp; omega
              intro v1 w1 hown1 hg1
              have hb1 : Below wo.heap.size wo w1 := belowGrown (belowTrans (hBiq _) (belowAlloc _ _)) (Nat.le_refl _) (by simp; omega) (ownT_lit0 _ wo.heap.size _ hSi.symm (Nat.le_of_eq hSi.symm)) hg1
              have cx2 := (hN.below (belowTrans hB hb1)).cell i _ hd
              clear hg1 cx1
              go_wp2_with (at_builtin; refine wpList_append_texts _ rfl (.tmp 50) (.tmp 55) rfl wo.heap.size v1 (O.take k) rfl (hown1.kept (belowAlloc _ _)) _ [X] rfl (srcOne _ _ _) ?len ?base ?_)
              case len => rw [hlk]; simp; omega
              case base => have := hb1.size; simp; omega
              intro v2 w2 hown2 hg2
              have hb2 : Below wo.heap.size wo w2 := belowGrown (belowTrans hb1 (belowAlloc _ _)) (Nat.le_refl _) (by have := hb1.size; simp; omega) (hown1.kept (belowAlloc _ _)) hg2
              clear hg2
              go_wp2_with (at_builtin; refine wpList_append_texts _ rfl (.tmp 57) (.tmp 60) rfl wo.heap.size v2 (O.take k ++ [X]) rfl hown2 _ (O.drop k) rfl ?src ?len ?base ?_)
              case src => rw [hd0]; exact .inr ⟨_, _, rfl, fun j x hj => by simp at hj⟩
              case len => simp [hlk]; omega
              case base => exact hb2.size
              intro v3 w3 hown3 hg3
              have hown3' : OwnT wo.heap.size w3 v3 (O.take k ++ [X] ++ O.drop k) := by simpa [hd0] using hown3
              have hb3 : Below wo.heap.size wo w3 := belowGrown hb2 (Nat.le_refl _) hb2.size hown2 hg3
              go_wp2
              go_roundw
              case rel => exact ⟨belowTrans hB hb3, i + 1, by omega, by push_cast; rfl, by rw [hres]; exact hown3'.mono hB.size⟩
              case measure => simp [intOf]; omega
    · have hlt' : ¬ (i : Int) < (xs.length : Int) := by omega
      obtain rfl : i = xs.length := by omega
      rw [List.take_length] at hown
      go_wp2
      go_ret
      exact ⟨⟨_, rfl, hown⟩, hB⟩
end Go.Proofs.W
