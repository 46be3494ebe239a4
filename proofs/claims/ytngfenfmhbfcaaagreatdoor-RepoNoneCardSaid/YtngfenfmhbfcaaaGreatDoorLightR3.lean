/- A PART OF THE PROOFS THAT ONE CALL OF A LAW (the nil repository of layer 34; no desk, no power of layer 37) returns true, whatever the input; the input reads as it did. No condition beyond the given statement. This part: LightR3. -/
import Derived.Test.YtngfenfmhbfcaaaGreatDoorLightR
namespace Go.Proofs.Tr
open Go Go.Ev Go.Proofs Go.RowKit
set_option maxRecDepth 1000000

theorem Strs.alloc' {w : World} {a : Option Addr} {n : Nat} (h : Strs w a n) (x : Obj) : Strs (w.alloc x) a n := by
  rcases h with h | ⟨b, o, e, hb, hx⟩
  · exact .inl h
  · exact .inr ⟨b, o, e, by simp; omega, fun j hj => by
      obtain ⟨s, hs⟩ := hx j hj
      exact ⟨s, by rw [cell_of_block (heap_alloc_old w x hb)]; exact hs⟩⟩

theorem cell_new (w : World) (cs : Array Value) (e : TypeId) (j : Nat) : (w.alloc (.cells cs e)).cell? ⟨w.heap.size, j, none⟩ = cs[j]? := by
  unfold World.cell?
  simp only [heap_alloc_new]
  simp
theorem below_alloc2 (w : World) (x y : Obj) : Below w.heap.size w ((w.alloc x).alloc y) := ⟨rfl, rfl, rfl, by simp; omega, fun b hb => by rw [heap_alloc_old (w.alloc x) y (by simp; omega)]; exact heap_alloc_old w x hb⟩
theorem below_alloc (w : World) (x : Obj) : Below w.heap.size w (w.alloc x) := ⟨rfl, rfl, rfl, by simp, fun b hb => heap_alloc_old w x hb⟩

set_option maxHeartbeats 4000000 in
theorem light34 (few : ∀ (b c : Nat) (_hc : 1 ≤ c) (k : Int) (p t : ByteArray) (la : Option Addr) (ln lc : Nat) (_hl : ln ≤ lc) (w : World) (_h : Strs w la ln) (_hn : ln < 9223372036854775808)
    (_h0 : w.cell? ⟨b, 0, none⟩ = some (.int .i64 k)) (_h1 : w.cell? ⟨b, 1, none⟩ = some (.string p)) (_h2 : w.cell? ⟨b, 2, none⟩ = some (.string t)) (_h3 : w.cell? ⟨b, 3, none⟩ = some (.slice la ln lc)),
    Calls Tryz.prog 29 #[.slice (some ⟨b, 0, none⟩) 1 c] w fun e w' => IsBool e ∧ w' = w)
    (k ek : Int) (nm p t : ByteArray) (na la : Option Addr) (nn nc ln lc : Nat) (_hnc : nn ≤ nc) (hlc : ln ≤ lc) (w : World) (hN : Strs w na nn) (hL : Strs w la ln) (hn : nn < 9223372036854775808) (hl : ln < 9223372036854775808) :
    Calls Tryz.prog 5 #[.agg #[.int .i64 k, .string nm, .slice na nn nc, .int .i64 ek, .string p, .string t, .slice la ln lc]] w fun e w' => IsBool e ∧ Below w.heap.size w w' := by
  go_enter Tryz.func5, Tryz.ntmps5
  go_wp2
  · go_ret
    exact ⟨⟨_, rfl⟩, below_alloc _ _⟩
  · have hN1 := hN.alloc' (.cells #[.int .i64 k, .string nm, .slice na nn nc, .int .i64 ek, .string p, .string t, .slice la ln lc] 26)
    go_loopw [3] (fun s w' => w' = w.alloc (.cells #[.int .i64 k, .string nm, .slice na nn nc, .int .i64 ek, .string p, .string t, .slice la ln lc] 26) ∧ ∃ i : Nat, i ≤ nn ∧ s = .int .i64 i) (fun s _ => match s with | .int _ i => (nn - i.toNat) | _ => 0)
    case atStart => exact ⟨rfl, 0, Nat.zero_le _, rfl⟩
    case round =>
      obtain ⟨rfl, i, hi, rfl⟩ := hrel
      by_cases hlt : i < nn
      · obtain h0 | ⟨b, o, rfl, hb, hx⟩ := hN1
        · omega
        obtain ⟨x, hx⟩ := hx i hlt
        have hlt' : (i : Int) < (nn : Int) := by omega
        have hnn : ¬ (i : Int) < 0 := by omega
        go_wp2
        · go_ret
          exact ⟨⟨_, rfl⟩, below_alloc _ _⟩
        · exact ⟨⟨i + 1, by omega, by push_cast; rfl⟩, by omega⟩
      · have hlt' : ¬ (i : Int) < (nn : Int) := by omega
        go_wp2_with fail
        have hsz : (w.alloc (.cells #[.int .i64 k, .string nm, .slice na nn nc, .int .i64 ek, .string p, .string t, .slice la ln lc] 26)).heap.size = w.heap.size + 1 := by simp
        have hc := cell_new (w.alloc (.cells #[.int .i64 k, .string nm, .slice na nn nc, .int .i64 ek, .string p, .string t, .slice la ln lc] 26)) #[.int .i64 ek, .string p, .string t, .slice la ln lc] 24
        rw [hsz] at hc
        refine (few (w.heap.size + 1) 1 (Nat.le_refl _) ek p t la ln lc hlc _ ((hL.alloc' (.cells #[.int .i64 k, .string nm, .slice na nn nc, .int .i64 ek, .string p, .string t, .slice la ln lc] 26)).alloc' (.cells #[.int .i64 ek, .string p, .string t, .slice la ln lc] 24)) hl (hc 0) (hc 1) (hc 2) (hc 3)).mono ?_
        rintro e w' ⟨⟨bb, rfl⟩, rfl⟩
        go_wp2_with fail
        go_ret
        exact ⟨⟨_, rfl⟩, below_alloc2 w _ _⟩
  · go_ret
    exact ⟨⟨_, rfl⟩, below_alloc _ _⟩
end Go.Proofs.Tr
