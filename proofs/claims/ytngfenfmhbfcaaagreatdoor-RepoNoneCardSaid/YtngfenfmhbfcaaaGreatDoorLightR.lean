/- A PART OF THE PROOFS THAT ONE CALL OF A LAW (the nil repository of layer 34; no desk, no power of layer 37) returns true, whatever the input; the input reads as it did. No condition beyond the given statement. This part: LightR. -/
import Derived.Test.YtngfenfmhbfcaaaGreatDoorEvSizeR
namespace Go.Proofs.Tr
open Go Go.Ev Go.Proofs Go.RowKit
set_option maxRecDepth 1000000

def IsBool (e : Ending) : Prop := ∃ b, e = .returned (.bool b)

/-- strings at a place -/
def Strs (w : World) (a : Option Addr) (n : Nat) : Prop := n = 0 ∨ ∃ b o, a = some ⟨b, o, none⟩ ∧ b < w.heap.size ∧ ∀ j, j < n → ∃ x : ByteArray, w.cell? ⟨b, o + j, none⟩ = some (.string x)

set_option maxHeartbeats 4000000 in
theorem light03 (a : Option Addr) (n c : Nat) (_hc : n ≤ c) (w : World) (h : Strs w a n) (hn : n < 9223372036854775808) :
    Calls Tryz.prog 64 #[.slice a n c] w fun e w' => IsBool e ∧ w' = w := by
  go_enter Tryz.func64, Tryz.ntmps64
  go_wp2
  go_loopw [3] (fun s w' => w' = w ∧ ∃ i : Nat, i ≤ n ∧ s = .int .i64 i) (fun s _ => match s with | .int _ i => (n - i.toNat) | _ => 0)
  case atStart => exact ⟨rfl, 0, Nat.zero_le _, rfl⟩
  case round =>
    obtain ⟨rfl, i, hi, rfl⟩ := hrel
    by_cases hlt : i < n
    · obtain h0 | ⟨b, o, rfl, hb, hx⟩ := h
      · omega
      obtain ⟨x, hx⟩ := hx i hlt
      have hlt' : (i : Int) < (n : Int) := by omega
      have hnn : ¬ (i : Int) < 0 := by omega
      go_wp2
      · go_ret
        exact ⟨⟨_, rfl⟩, rfl⟩
      · exact ⟨⟨i + 1, by omega, by push_cast; rfl⟩, by omega⟩
    · have hlt' : ¬ (i : Int) < (n : Int) := by omega
      go_wp2
      go_ret
      exact ⟨⟨_, rfl⟩, rfl⟩
end Go.Proofs.Tr
