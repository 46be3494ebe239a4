/- A PART OF THE PROOF THAT ONE CALL OF A LAW OF LAYER 18 (of nodes that may be, each path leads there) returns true, whatever the input; the input reads as it did. No condition beyond the given statement. This part: F18. -/
import Derived.Test.YtbnkcpbdpgjjbaaGreatDoorF61
import Derived.Test.YtbnkcpbdpgjjbaaGreatDoorF13a
namespace Go.Proofs.Np
open Go Go.Proofs Go.RowKit
set_option maxRecDepth 1000000

/-- a slice of texts, as a value -/
def TextSl (w : World) (v : Value) (xs : List ByteArray) : Prop := (xs = [] ∧ v = .slice none 0 0) ∨ ∃ b o c, v = .slice (some ⟨b, o, none⟩) xs.length c ∧ TextsAt w b o xs ∧ xs.length ≤ c

/-- .. in a block of its own -/
def TextNew (H : Nat) (w : World) (v : Value) (xs : List ByteArray) : Prop := (xs = [] ∧ v = .slice none 0 0) ∨ ∃ b, v = .slice (some ⟨b, 0, none⟩) xs.length xs.length ∧ H ≤ b ∧ TextsAt w b 0 xs

set_option maxHeartbeats 4000000 in
theorem split19 (p : ByteArray) (w : World) (hs : p.size < 4294967281) (hm : HasM w) : Calls Tryz.prog 19 #[.string p] w fun e w' => (∃ v, e = .returned v ∧ TextNew w.heap.size w' v (splitS pathR p)) ∧ Below w.heap.size w w' := by
  have hr := right39 p w hs hm
  unfold splitS
  cases h1 : pathR p with
  | false =>
    rw [h1] at hr
    go_enter Tryz.func19, Tryz.ntmps19
    go_wp2_with (go_at_call 39; refine hr.mono ?_; rintro e w' ⟨rfl, hb'⟩)
    go_ret
    exact ⟨⟨_, rfl, .inl ⟨rfl, rfl⟩⟩, hb'⟩
  | true =>
    rw [h1] at hr
    go_enter Tryz.func19, Tryz.ntmps19
    go_wp2_with (go_at_call 39; refine hr.mono ?_; rintro e w' ⟨rfl, hb'⟩)
    refine (split40 p w' hs (hm.below hb')).mono ?_
    rintro e w2 ⟨rfl, rfl⟩
    go_wp2
    go_ret
    exact ⟨⟨_, rfl, .inr ⟨_, rfl, hb'.size, textsAt_new w' (cutB p)⟩⟩, belowTrans hb' (belowAlloc _ _)⟩
end Go.Proofs.Np
namespace Go.Proofs.Np
open Go Go.Proofs Go.RowKit
set_option maxRecDepth 1000000

theorem joinB_size (xs : List ByteArray) : (Lib.join (xs.map (·.data.toList)) [47]).length = (joinB xs).size := by
  rw [← join_joinB]
  simp [ByteArray.size]

theorem call38 (v : Value) (xs : List ByteArray) (w : World) (h : TextSl w v xs) (hlen : xs.length ≤ 1000) (hsz : (joinB xs).size < 4294967281) :
    Calls Tryz.prog 38 #[v, .string ⟨#[47]⟩] w fun e w' => e = .returned (.string (joinB xs)) ∧ Below w.heap.size w w' := by
  rcases h with ⟨rfl, rfl⟩ | ⟨b, o, c, rfl, ht, hc⟩
  · refine (Tryz.strings_Join_none none 0 ⟨#[47]⟩ w).mono ?_
    rintro e w' ⟨rfl, rfl⟩
    exact ⟨rfl, Below.refl _ _⟩
  · have := Tryz.strings_Join b o c xs ⟨#[47]⟩ w ht.cell ht.lt (by omega) hc (by
      have := joinB_size xs
      show (Lib.join (xs.map (·.data.toList)) [47]).length ≤ _
      omega)
    refine this.mono ?_
    rintro e w' ⟨rfl, hb⟩
    refine ⟨?_, hb⟩
    rw [← join_joinB]

set_option maxHeartbeats 4000000 in
theorem join18 (v : Value) (xs : List ByteArray) (w : World) (h : TextSl w v xs) (hlen : xs.length ≤ 1000) (hsz : (joinB xs).size < 4294967281) (hm : HasM w) :
    Calls Tryz.prog 18 #[v] w fun e w' => e = .returned (.string (joinS pathR xs)) ∧ Below w.heap.size w w' := by
  have hj := call38 v xs w h hlen hsz
  obtain ⟨a, n, c, rfl, hn⟩ : ∃ a n c, v = .slice a n c ∧ n = xs.length := by
    rcases h with ⟨rfl, rfl⟩ | ⟨b, o, c, rfl, _, _⟩
    · exact ⟨none, 0, 0, rfl, rfl⟩
    · exact ⟨_, _, _, rfl, rfl⟩
  unfold joinS
  generalize joinB xs = q at hj hsz ⊢
  rw [← hn]
  clear hn h
  by_cases he : (splitS pathR q).length = n
  · rw [if_pos he]
    go_enter Tryz.func18, Tryz.ntmps18
    go_wp2_with (go_at_call 38; refine hj.mono ?_; rintro e w' ⟨rfl, hb'⟩)
    refine (split19 q w' hsz (hm.below hb')).mono ?_
    rintro e w2 ⟨⟨v', rfl, ht⟩, hb2⟩
    rcases ht with ⟨hnil, rfl⟩ | ⟨b', rfl, _, _⟩
    · rw [hnil] at he
      obtain rfl : 0 = n := he
      go_wp2
      go_ret
      exact ⟨rfl, belowTrans hb' hb2⟩
    · rw [he]
      go_wp2
      go_ret
      exact ⟨rfl, belowTrans hb' hb2⟩
  · rw [if_neg he]
    go_enter Tryz.func18, Tryz.ntmps18
    go_wp2_with (go_at_call 38; refine hj.mono ?_; rintro e w' ⟨rfl, hb'⟩)
    refine (split19 q w' hsz (hm.below hb')).mono ?_
    rintro e w2 ⟨⟨v', rfl, ht⟩, hb2⟩
    rcases ht with ⟨hnil, rfl⟩ | ⟨b', rfl, _, _⟩
    · rw [hnil] at he
      have he' : ¬ (0 : Int) = (n : Int) := by
        intro e; exact he (by simp; omega)
      go_wp2
      all_goals first
        | (go_ret; exact ⟨rfl, belowTrans hb' hb2⟩)
        | (exfalso; omega)
    · have he' : ¬ ((splitS pathR q).length : Int) = (n : Int) := by omega
      go_wp2
      all_goals first
        | (go_ret; exact ⟨rfl, belowTrans hb' hb2⟩)
        | (exfalso; omega)
end Go.Proofs.Np
