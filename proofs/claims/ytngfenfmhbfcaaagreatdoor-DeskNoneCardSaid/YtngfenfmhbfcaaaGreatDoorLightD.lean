/- A PART OF THE PROOFS THAT ONE CALL OF A LAW (the nil repository of layer 34; no desk, no power of layer 37) returns true, whatever the input; the input reads as it did. No condition beyond the given statement. This part: LightD. -/
import Derived.Test.YtngfenfmhbfcaaaGreatDoorLightR2
import Derived.Test.YtngfenfmhbfcaaaGreatDoorLightR3
namespace Go.Proofs.Tr
open Go Go.Ev Go.Proofs Go.RowKit
set_option maxRecDepth 1000000

theorem below_trans' {w w1 w2 : World} (h1 : Below w.heap.size w w1) (h2 : Below w1.heap.size w1 w2) : Below w.heap.size w w2 :=
  ⟨h2.os.trans h1.os, h2.tape.trans h1.tape, h2.output.trans h1.output, Nat.le_trans h1.size h2.size, fun b hb => (h2.block b (Nat.lt_of_lt_of_le hb h1.size)).trans (h1.block b hb)⟩

theorem Strs.below {w w' : World} {a : Option Addr} {n : Nat} (h : Strs w a n) (hb : Below w.heap.size w w') : Strs w' a n := by
  rcases h with h | ⟨b, o, e, hb1, hx⟩
  · exact .inl h
  · exact .inr ⟨b, o, e, Nat.lt_of_lt_of_le hb1 hb.size, fun j hj => by
      obtain ⟨s, hs⟩ := hx j hj
      exact ⟨s, by rw [cell_of_block (hb.block b hb1)]; exact hs⟩⟩

set_option maxHeartbeats 4000000 in
/-- a row of steps, that is one step -/
theorem light35 (b c : Nat) (_hc : 1 ≤ c) (sk k ek : Int) (rp fr nm p t : ByteArray) (na la : Option Addr) (nn nc ln lc : Nat) (hnc : nn ≤ nc) (hlc : ln ≤ lc) (w : World) (hN : Strs w na nn) (hL : Strs w la ln) (hn : nn < 9223372036854775808) (hl : ln < 9223372036854775808) (hb : b < w.heap.size)
    (hc : ∀ j, j < 10 → w.cell? ⟨b, j, none⟩ = #[.int .i64 sk, .string rp, .string fr, .int .i64 k, .string nm, .slice na nn nc, .int .i64 ek, .string p, .string t, .slice la ln lc][j]?) :
    Calls Tryz.prog 20 #[.slice (some ⟨b, 0, none⟩) 1 c] w fun e w' => IsBool e ∧ Below w.heap.size w w' := by
  go_enter Tryz.func20, Tryz.ntmps20
  go_wp2
  go_loopw [3] (fun s w' => Below w.heap.size w w' ∧ ∃ i : Nat, i ≤ 1 ∧ s = .int .i64 i) (fun s _ => match s with | .int _ i => (1 - i.toNat) | _ => 0)
  case atStart => exact ⟨Below.refl _ w, 0, Nat.zero_le _, rfl⟩
  case round =>
    obtain ⟨hB, i, hi, rfl⟩ := hrel
    by_cases hlt : i < 1
    · obtain rfl : i = 0 := by omega
      have hlight := light34 few22 k ek nm p t na la nn nc ln lc hnc hlc wr (hN.below hB) (hL.below hB) hn hl
      have hcr : ∀ j, j < 10 → wr.cell? ⟨b, j, none⟩ = #[.int .i64 sk, .string rp, .string fr, .int .i64 k, .string nm, .slice na nn nc, .int .i64 ek, .string p, .string t, .slice la ln lc][j]? := fun j hj => by
        rw [cell_of_block (hB.block b hb)]; exact hc j hj
      have c0 := hcr 0 (by decide)
      have c1 := hcr 1 (by decide)
      have c2 := hcr 2 (by decide)
      have c3 := hcr 3 (by decide)
      have c4 := hcr 4 (by decide)
      have c5 := hcr 5 (by decide)
      have c6 := hcr 6 (by decide)
      have c7 := hcr 7 (by decide)
      have c8 := hcr 8 (by decide)
      have c9 := hcr 9 (by decide)
      simp at c0 c1 c2 c3 c4 c5 c6 c7 c8 c9
      go_wp2_with (go_at_call 5; refine hlight.mono ?_; rintro e w' ⟨⟨bb, rfl⟩, hB'⟩; cases bb)
      all_goals first
        | (go_ret; exact ⟨⟨_, rfl⟩, hB⟩)
        | (go_ret; exact ⟨⟨_, rfl⟩, below_trans' hB hB'⟩)
        | exact ⟨below_trans' hB hB', 1, Nat.le_refl _, rfl⟩
        | exact ⟨⟨below_trans' hB hB', 1, Nat.le_refl _, rfl⟩, by decide⟩
    · obtain rfl : i = 1 := by omega
      go_wp2
      go_ret
      exact ⟨⟨_, rfl⟩, hB⟩
end Go.Proofs.Tr
