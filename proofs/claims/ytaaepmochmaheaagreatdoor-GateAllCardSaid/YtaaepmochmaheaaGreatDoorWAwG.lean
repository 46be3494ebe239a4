/- A PART OF THE PROOF THAT SHOWS THAT EACH OF rafterlaw44.GateAsk AND rafterlaw44.GateAll RETURNS TRUE FOR EVERY INPUT. No condition beyond the given statement. This part: WAwG. -/
import Derived.Test.YtaaepmochmaheaaGreatDoorWAll
namespace Go.Proofs.W
open Go Go.Proofs Go.RowKit
set_option maxRecDepth 1000000

def nilP (s : ByteArray) : PatchV := ⟨s, [], none, 0, [], none, 0⟩
theorem nilP_light (s : ByteArray) (hs : s.size ≤ 100) : PatchLight (nilP s) := ⟨by simp [nilP], by simp [nilP], fun j x h => by simp [nilP] at h, hs, by simp [nilP], fun j d h => by simp [nilP] at h⟩
theorem ask_nilP (s : ByteArray) (hs : s.size ≤ 100) (B : Nat) (n : Int) (w : World) (hB : B < w.heap.size) (hc : w.cell? ⟨B, 0, none⟩ = some (.int .i64 n)) :
    Calls Tryz.prog 8 #[.iface 33 (hookV B), .agg #[.string s, .slice none 0 0, .slice none 0 0]] w fun e w' => e = .returned (.tuple #[.int .i64 (toldE n), .bool (toldB n)]) ∧ Below w.heap.size w w' :=
  gate_Ask (nilP s) B n w hB hc (.inl rfl) (.inl rfl) (nilP_light s hs)
theorem all_nilP (s : ByteArray) (hs : s.size ≤ 100) (a : Option Addr) (c : Nat) (l : List (Nat × Int)) (w : World) (h : HooksH w a l) (hlen : l.length ≤ 1000) :
    Calls Tryz.prog 12 #[.agg #[.string s, .slice none 0 0, .slice none 0 0], .slice a l.length c] w fun e w' => (∃ v', e = .returned (.tuple #[v', .int .i64 (fells l)]) ∧ w'.ownsRow w.heap.size 29 1 v' l.length (l.map fun h => .int .i64 (toldE h.2))) ∧ Below w.heap.size w w' :=
  gate_All (nilP s) a c l w h hlen (.inl rfl) (.inl rfl) (nilP_light s hs)

theorem hook_at (n : Int) (w : World) : Calls Tryz.prog 9 #[.int .i64 n] w fun e w' => e = .returned (hookV w.heap.size) ∧ Below w.heap.size w w' ∧ w.heap.size < w'.heap.size ∧ w'.cell? ⟨w.heap.size, 0, none⟩ = some (.int .i64 n) :=
  (law_hook n w).mono fun e w' ⟨h1, h2⟩ => ⟨h1, by rw [h2]; exact belowAlloc _ _, by rw [h2, allocSize]; omega, by rw [h2, cell_newBlock]; rfl⟩
theorem belowAll {a b c : World} (h1 : Below a.heap.size a b) (h2 : Below b.heap.size b c) : Below a.heap.size a c := belowTrans h1 h2

set_option maxHeartbeats 8000000 in
theorem gate_awake (w : World) : Calls Tryz.prog 6 #[] w fun e w' => e = .returned (.bool true) ∧ Below w.heap.size w w' := by
  go_enter Tryz.func6, Tryz.ntmps6
  go_wp2_with fail
  refine (hook_at 38 w).mono ?_
  rintro e w1 ⟨rfl, hb1, hl1, hc1⟩
  go_wp2_with fail
  refine (ask_nilP ⟨#[97]⟩ (by decide) w.heap.size 38 w1 hl1 hc1).mono ?_
  rintro e w2 ⟨rfl, hb2⟩
  rw [show toldE 38 = 17 from rfl, show toldB 38 = true from rfl]
  have hB2 := belowTrans hb1 hb2
  clear hb1 hl1 hc1 hb2
  go_wp2_with fail
  refine (gate_Ask_nil _ w2 ⟨_, _, _, _, _, _, _, rfl⟩).mono ?_
  rintro e w3 ⟨rfl, hb3⟩
  have hB3 := belowTrans hB2 hb3
  clear hB2 hb3
  go_wp2_with fail
  refine (hook_at 9 w3).mono ?_
  rintro e w4 ⟨rfl, hb4, hl4, hc4⟩
  go_wp2_with fail
  refine (ask_nilP ⟨#[]⟩ (by decide) w3.heap.size 9 w4 hl4 hc4).mono ?_
  rintro e w5 ⟨rfl, hb5⟩
  rw [show toldE 9 = 9 from rfl, show toldB 9 = false from rfl]
  have hB5 := belowTrans hB3 (belowTrans hb4 hb5)
  clear hB3 hb4 hb5 hl4 hc4
  go_wp2_with fail
  refine (hook_at 0 w5).mono ?_
  rintro e w6 ⟨rfl, hb6, hl6, hc6⟩
  go_wp2_with fail
  refine (hook_at 30 w6).mono ?_
  rintro e w7 ⟨rfl, hb7, hl7, hc7⟩
  go_wp2_with fail
  have hH : HooksH (w7.alloc (.cells #[.iface 33 (hookV w5.heap.size), .iface 33 (hookV w6.heap.size)] 55)) (some ⟨w7.heap.size, 0, none⟩) [(w5.heap.size, 0), (w6.heap.size, 30)] := by
    have hA := belowAlloc w7 (.cells #[.iface 33 (hookV w5.heap.size), .iface 33 (hookV w6.heap.size)] 55)
    have h67 := hb7.size
    refine .inr ⟨w7.heap.size, 0, rfl, by rw [allocSize]; omega, fun j h hj => ?_⟩
    match j, hj with
    | 0, hj =>
      obtain rfl := Option.some.inj hj
      exact ⟨by rw [cell_newBlock]; rfl, by rw [allocSize]; show w5.heap.size < _; omega, ((hA.cell (p := ⟨w5.heap.size, 0, none⟩) (by show w5.heap.size < _; omega)).trans ((hb7.cell (p := ⟨w5.heap.size, 0, none⟩) hl6).trans hc6))⟩
    | 1, hj =>
      obtain rfl := Option.some.inj hj
      exact ⟨by rw [cell_newBlock]; rfl, by rw [allocSize]; show w6.heap.size < _; omega, ((hA.cell (p := ⟨w6.heap.size, 0, none⟩) hl7).trans hc7)⟩
    | j + 2, hj => simp at hj
  refine (all_nilP ⟨#[]⟩ (by decide) _ _ [(w5.heap.size, 0), (w6.heap.size, 30)] _ hH (by simp)).mono ?_
  rintro e w8 ⟨⟨v', rfl, hown⟩, hb8⟩
  rw [show fells [(w5.heap.size, 0), (w6.heap.size, 30)] = 1 from rfl]
  rcases hown.2 with ⟨_, h0⟩ | ⟨g, cap, cur, rfl, _⟩
  · cases h0
  have hcg := hown.cellAt 1 (by simp)
  have hcg' : w8.cell? ⟨g, 1, none⟩ = some (.int .i64 11) := hcg
  have hB8 : Below w.heap.size w w8 := belowTrans hB5 (belowTrans hb6 (belowTrans hb7 (belowTrans (belowAlloc _ _) hb8)))
  clear hown hb8 hb6 hb7 hB5 hl6 hc6 hl7 hc7 hH hcg
  go_wp2_with fail
  refine (gate_Record_nil _ w8).mono ?_
  rintro e w9 ⟨rfl, rfl⟩
  go_wp2
  go_ret
  exact ⟨rfl, hB8⟩
end Go.Proofs.W
