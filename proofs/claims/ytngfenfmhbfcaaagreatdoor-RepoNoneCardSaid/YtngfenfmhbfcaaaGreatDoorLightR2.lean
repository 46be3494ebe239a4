/- A PART OF THE PROOFS THAT ONE CALL OF A LAW (the nil repository of layer 34; no desk, no power of layer 37) returns true, whatever the input; the input reads as it did. No condition beyond the given statement. This part: LightR2. -/
import Derived.Test.YtngfenfmhbfcaaaGreatDoorLightR
namespace Go.Proofs.Tr
open Go Go.Ev Go.Proofs Go.RowKit
set_option maxRecDepth 1000000

theorem Strs.alloc {w : World} {a : Option Addr} {n : Nat} (h : Strs w a n) (x : Obj) : Strs (w.alloc x) a n := by
  rcases h with h | ⟨b, o, e, hb, hx⟩
  · exact .inl h
  · exact .inr ⟨b, o, e, by simp; omega, fun j hj => by
      obtain ⟨s, hs⟩ := hx j hj
      exact ⟨s, by rw [cell_of_block (heap_alloc_old w x hb)]; exact hs⟩⟩

set_option maxHeartbeats 4000000 in
theorem few22 (b c : Nat) (_hc : 1 ≤ c) (k : Int) (p t : ByteArray) (la : Option Addr) (ln lc : Nat) (hl : ln ≤ lc) (w : World) (h : Strs w la ln) (hn : ln < 9223372036854775808)
    (h0 : w.cell? ⟨b, 0, none⟩ = some (.int .i64 k)) (h1 : w.cell? ⟨b, 1, none⟩ = some (.string p)) (h2 : w.cell? ⟨b, 2, none⟩ = some (.string t)) (h3 : w.cell? ⟨b, 3, none⟩ = some (.slice la ln lc)) :
    Calls Tryz.prog 29 #[.slice (some ⟨b, 0, none⟩) 1 c] w fun e w' => IsBool e ∧ w' = w := by
  have hlight := light03 la ln lc hl w h hn
  go_enter Tryz.func29, Tryz.ntmps29
  go_wp2
  go_loopw [3] (fun s w' => w' = w ∧ ∃ i : Nat, i ≤ 1 ∧ s = .int .i64 i) (fun s _ => match s with | .int _ i => (1 - i.toNat) | _ => 0)
  case atStart => exact ⟨rfl, 0, Nat.zero_le _, rfl⟩
  case round =>
    obtain ⟨rfl, i, hi, rfl⟩ := hrel
    by_cases hlt : i < 1
    · obtain rfl : i = 0 := by omega
      go_wp2_with (go_at_call 64; refine hlight.mono ?_; rintro e w' ⟨⟨bb, rfl⟩, rfl⟩; cases bb)
      all_goals first
        | (go_ret; exact ⟨⟨_, rfl⟩, rfl⟩)
        | exact ⟨1, Nat.le_refl _, rfl⟩
        | exact ⟨⟨1, Nat.le_refl _, rfl⟩, by decide⟩
    · obtain rfl : i = 1 := by omega
      go_wp2
      go_ret
      exact ⟨⟨_, rfl⟩, rfl⟩
end Go.Proofs.Tr
