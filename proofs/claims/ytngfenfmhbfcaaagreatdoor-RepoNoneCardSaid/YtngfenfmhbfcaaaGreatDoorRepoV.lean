/- A PART OF THE PROOFS THAT ONE CALL OF A LAW (the nil repository of layer 34; no desk, no power of layer 37) returns true, whatever the input; the input reads as it did. No condition beyond the given statement. This part: RepoV. -/
import Derived.Test.YtngfenfmhbfcaaaGreatDoorRepoW
namespace Go.Proofs.Tr
open Go Go.Ev Go.Proofs Go.RowKit
set_option maxRecDepth 1000000

theorem below_trans {w w1 w2 : World} (h1 : Below w.heap.size w w1) (h2 : Below w1.heap.size w1 w2) : Below w.heap.size w w2 :=
  ⟨h2.os.trans h1.os, h2.tape.trans h1.tape, h2.output.trans h1.output, Nat.le_trans h1.size h2.size, fun b hb => (h2.block b (Nat.lt_of_lt_of_le hb h1.size)).trans (h1.block b hb)⟩

set_option maxHeartbeats 4000000 in
theorem repoWalk (k ek : Int) (nm p t : ByteArray) (na la : Option Addr) (nn nc ln lc : Nat) (v u : AV) (w : World) (hv : SlR w v (.slice na nn nc)) (hu : SlR w u (.slice la ln lc)) (hn : nn < 9223372036854775808) (hl : ln < 9223372036854775808) :
    Calls Tryz.prog 3 #[.agg #[.int .i64 k, .string nm, .slice na nn nc, .int .i64 ek, .string p, .string t, .slice la ln lc]] w fun e w' => e = .returned (.bool true) ∧ Below w.heap.size w w' := by
  obtain ⟨hN, hnc⟩ := hv.strs
  obtain ⟨hL, hlc⟩ := hu.strs
  go_enter Tryz.func3, Tryz.ntmps3
  go_wp2_with fail
  rename_i K2 aK2 K1 aK1 K0 aK0
  have hRest := Hide.mk aK2
  clear aK2
  refine (light34 few22 k ek nm p t na la nn nc ln lc hnc hlc _ (hN.alloc' _) (hL.alloc' _) hn hl).mono ?_
  rintro e w1 ⟨⟨bb, rfl⟩, hB1⟩
  cases bb with
  | false =>
    go_wp2_with fail
    refine (awakeCalls w1).mono ?_
    rintro e w2 ⟨rfl, hB2⟩
    go_wp2_with fail
    go_ret
    exact ⟨rfl, below_trans (below_trans (below_alloc w _) hB1) hB2⟩
  | true =>
    go_wp2_with fail
    refine (awakeCalls w1).mono ?_
    rintro e w2 ⟨rfl, hB2⟩
    go_wp2_with fail
    apply hRest.out
    have hB : Below (w.alloc (.cells #[.int .i64 k, .string nm, .slice na nn nc, .int .i64 ek, .string p, .string t, .slice la ln lc] 26)).heap.size (w.alloc (.cells #[.int .i64 k, .string nm, .slice na nn nc, .int .i64 ek, .string p, .string t, .slice la ln lc] 26)) w2 := below_trans hB1 hB2
    have hB0 := below_trans (below_alloc w _) hB
    refine restWalk k ek nm p t v u (.slice na nn nc) (.slice la ln lc) w2 (hv.mono hB0) (hu.mono hB0) w.heap.size (Nat.lt_of_lt_of_le (by simp) hB.size) _ rfl rfl rfl (fun j hj => ?_) _ (fun w' hb => ⟨rfl, below_trans hB0 hb⟩)
    rw [cell_of_block (hB.block w.heap.size (by simp))]
    exact cell_new w _ 26 j
end Go.Proofs.Tr
