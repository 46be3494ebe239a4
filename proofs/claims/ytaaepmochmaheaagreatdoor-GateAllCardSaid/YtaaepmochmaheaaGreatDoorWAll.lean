/- A PART OF THE PROOF THAT SHOWS THAT EACH OF rafterlaw44.GateAsk AND rafterlaw44.GateAll RETURNS TRUE FOR EVERY INPUT. No condition beyond the given statement. This part: WAll. -/
import Derived.Test.YtaaepmochmaheaaGreatDoorWAsk
namespace Go.Proofs.W
open Go Go.Proofs Go.RowKit
set_option maxRecDepth 1000000

theorem gate_Ask_nil (p : Value) (w : World) (hp : ∃ a b c d e f g, p = .agg #[.string a, .slice b c d, .slice e f g]) :
    Calls Tryz.prog 8 #[.nilIface, p] w fun e w' => e = .returned (.tuple #[.int .i64 1, .bool false]) ∧ Below w.heap.size w w' := by
  obtain ⟨a, b, c, d, e, f, g, rfl⟩ := hp
  have hmf : ∀ (fn : Fn) (first cap : Array Value) (w : World), (Instr.makeFunc fn first cap).run Tryz.prog w = .ok (.func fn first cap) w := fun _ _ _ _ => rfl
  go_enter_defers Tryz.func8, Tryz.ntmps8
  go_wp2
  have hb : Below w.heap.size w (((w.alloc (.cells #[.string a, .slice b c d, .slice e f g] 25)).alloc (.cells #[.int .i64 1] 29)).alloc (.cells #[.bool false] 4)) := belowTrans (belowTrans (belowAlloc _ _) (belowAlloc _ _)) (belowAlloc _ _)
  exact ⟨.tuple #[.int .i64 1, .bool false], by simp [results, Tryz.results8, go_sem], rfl, hb⟩

theorem gate_Record_nil (s : ByteArray) (w : World) :
    Calls Tryz.prog 15 #[.pointer none, .string s, .slice none 0 0] w fun e w' => e = .returned (.tuple #[.int .i64 1, .int .i64 (-1)]) ∧ w' = w := by
  go_enter Tryz.func15, Tryz.ntmps15
  go_wp2
  go_ret2
  exact ⟨rfl, rfl⟩

structure HooksAt (w : World) (b o : Nat) (hs : List (Nat × Int)) : Prop where
  lt : b < w.heap.size
  cell : ∀ (j : Nat) (h : Nat × Int), hs[j]? = some h → w.cell? ⟨b, o + j, none⟩ = some (.iface 33 (hookV h.1)) ∧ h.1 < w.heap.size ∧ w.cell? ⟨h.1, 0, none⟩ = some (.int .i64 h.2)
theorem HooksAt.below {w w' : World} {b o : Nat} {hs : List (Nat × Int)} (h : HooksAt w b o hs) (hb : Below w.heap.size w w') : HooksAt w' b o hs :=
  ⟨Nat.lt_of_lt_of_le h.lt hb.size, fun j d hd => by
    obtain ⟨h1, h2, h3⟩ := h.cell j d hd
    exact ⟨(hb.cell (p := ⟨b, o + j, none⟩) h.lt).trans h1, Nat.lt_of_lt_of_le h2 hb.size, (hb.cell (p := ⟨d.1, 0, none⟩) h2).trans h3⟩⟩
def HooksH (w : World) (a : Option Addr) (hs : List (Nat × Int)) : Prop := hs.length = 0 ∨ ∃ b o, a = some ⟨b, o, none⟩ ∧ HooksAt w b o hs
def fells (hs : List (Nat × Int)) : Nat := (hs.filter fun h => toldB h.2).length
theorem info_errno : ∃ i, Tryz.prog.info? 29 = some i ∧ i.zero = some (.int .i64 0) ∧ i.size = 1 ∧ i.bytes = 8 := info_parts (show (Tryz.prog.info? 29).map (fun i => (i.zero, i.size, i.bytes)) = some (some (.int .i64 0), 1, 8) by kernel_rfl)

set_option maxHeartbeats 8000000 in
theorem gate_All (d : PatchV) (a : Option Addr) (c : Nat) (hs : List (Nat × Int)) (w : World) (h : HooksH w a hs) (hlen : hs.length ≤ 1000) (h1 : TextsH w d.pa d.deps) (h2 : OpsH w d.oa d.ops) (hl : PatchLight d) :
    Calls Tryz.prog 12 #[.agg #[.string d.name, .slice d.pa d.deps.length d.pc, .slice d.oa d.ops.length d.oc], .slice a hs.length c] w fun e w' => (∃ v', e = .returned (.tuple #[v', .int .i64 (fells hs)]) ∧ w'.ownsRow w.heap.size 29 1 v' hs.length (hs.map fun h => .int .i64 (toldE h.2))) ∧ Below w.heap.size w w' := by
  obtain ⟨ie, hie, hz0, hz1, hz2⟩ := info_errno
  have hB1 := belowAlloc w (.cells #[.string d.name, .slice d.pa d.deps.length d.pc, .slice d.oa d.ops.length d.oc] 25)
  have hbx : (w.alloc (.cells #[.string d.name, .slice d.pa d.deps.length d.pc, .slice d.oa d.ops.length d.oc] 25)).heap[w.heap.size]? = some (.cells #[.string d.name, .slice d.pa d.deps.length d.pc, .slice d.oa d.ops.length d.oc] 25 (0, 0)) := (MapKept.heap_alloc w _).1
  go_enter Tryz.func12, Tryz.ntmps12
  go_wp2
  go_loopw [6, 7, 14] (fun v m x w' => ∃ i : Nat, i ≤ hs.length ∧ x = .int .i64 i ∧ m = .int .i64 (fells (hs.take i)) ∧ w'.ownsRow w.heap.size 29 1 v i ((hs.take i).map fun h => .int .i64 (toldE h.2)) ∧ Below w.heap.size w w' ∧ w'.heap[w.heap.size]? = some (.cells #[.string d.name, .slice d.pa d.deps.length d.pc, .slice d.oa d.ops.length d.oc] 25 (0, 0))) (fun _ _ x _ => hs.length - (intOf x).toNat)
  case atStart => exact ⟨0, Nat.zero_le _, rfl, rfl, World.ownsRow_nil _ _ _ _, hB1, hbx⟩
  case round =>
    obtain ⟨i, hi, rfl, rfl, hown, hB, hbW⟩ := hrel
    by_cases hlt : i < hs.length
    · obtain ⟨b, o, rfl, hN⟩ : ∃ b o, a = some ⟨b, o, none⟩ ∧ HooksAt w b o hs := h.resolve_left (by omega)
      obtain ⟨⟨hB0, hn⟩, hd⟩ : ∃ x, hs[i]? = some x := ⟨_, List.getElem?_eq_getElem hlt⟩
      obtain ⟨e1, e2, e3⟩ := (hN.below hB).cell i _ hd
      simp only at e1 e2 e3
      have hlt' : (i : Int) < (hs.length : Int) := by omega
      have hnn : ¬ (i : Int) < 0 := by omega
      have hnn0 : (0 : Int) ≤ (i : Int) := by omega
      have c0 : wr.cell? ⟨w.heap.size, 0, none⟩ = some (.string d.name) := by simp [World.cell?, hbW]
      have c1 : wr.cell? ⟨w.heap.size, 1, none⟩ = some (.slice d.pa d.deps.length d.pc) := by simp [World.cell?, hbW]
      have c2 : wr.cell? ⟨w.heap.size, 2, none⟩ = some (.slice d.oa d.ops.length d.oc) := by simp [World.cell?, hbW]
      have htk : hs.take (i + 1) = hs.take i ++ [(hB0, hn)] := by rw [List.take_add_one, hd]; rfl
      have hask := gate_Ask d hB0 hn wr e2 e3 (h1.below hB) (h2.below hB) hl
      have hfl : fells (hs.take i) ≤ 1000 := by unfold fells; exact Nat.le_trans (List.length_filter_le _ _) (by simp; omega)
      cases hb : toldB hn
      · have hf : fells (hs.take (i + 1)) = fells (hs.take i) := by rw [htk]; unfold fells; simp [hb]
        rw [hb] at hask
        go_wp2_with (first | (go_at_call 8; refine hask.mono ?_; rintro e w2 ⟨rfl, hb2⟩) | (at_builtin; refine wpList_append_src _ rfl (.tmp 27) (.tmp 29) 39 rfl w.heap.size 29 ie _ 1 _ Tryz.underlying39 hie hz0 hz1 hz2 rfl (by decide) _ i _ rfl ((ownsRow_below hown hb2).alloc _) _ 1 [.int .i64 (toldE hn)] rfl (.inr ⟨_, _, rfl, rfl, ?src⟩) ?one ?len ?bytes ?base ?_))
        case src =>
          intro j u hu
          rw [Addr.add_lit, cell_newBlock]
          simpa using hu
        case one =>
          intro u hu
          simp only [List.mem_singleton] at hu
          subst hu
          rfl
        case len => unfold maxLen; omega
        case bytes => omega
        case base =>
          have := hB.size
          have := hb2.size
          rw [allocSize]
          omega
        intro v' w' hown' hg _
        have hb3 : Below w.heap.size w w' := ((belowTrans hB hb2).alloc (belowTrans hB hb2).size _).grown hg (by rw [allocSize]; have := (belowTrans hB hb2).size; omega) (fun k hk => (hown.lt k hk).1)
        have hn25 := row_other hown hbW (by decide)
        have hbW3 : w'.heap[w.heap.size]? = some (.cells #[.string d.name, .slice d.pa d.deps.length d.pc, .slice d.oa d.ops.length d.oc] 25 (0, 0)) := by
          have h4 := (Array.getElem?_eq_some_iff.1 hbW).1
          rw [hg.block _ (by rw [allocSize]; have := hb2.size; omega) (fun e => hn25 e.symm), Below.heap_alloc _ _ _ (by have := hb2.size; omega), hb2.block _ h4]
          exact hbW
        go_wp2
        go_roundw
        case rel => exact ⟨i + 1, by omega, by push_cast; rfl, by rw [hf], by rw [htk, List.map_append, List.map_take]; exact hown', hb3, hbW3⟩
        case measure => simp [intOf]; omega
      · have hf : fells (hs.take (i + 1)) = fells (hs.take i) + 1 := by rw [htk]; unfold fells; simp [hb]
        have hw : wrap64 ((fells (hs.take i) : Int) + 1) = (fells (hs.take i) : Int) + 1 := by unfold wrap64; omega
        rw [hb] at hask
        go_wp2_with (first | (go_at_call 8; refine hask.mono ?_; rintro e w2 ⟨rfl, hb2⟩) | (at_builtin; refine wpList_append_src _ rfl (.tmp 27) (.tmp 29) 39 rfl w.heap.size 29 ie _ 1 _ Tryz.underlying39 hie hz0 hz1 hz2 rfl (by decide) _ i _ rfl ((ownsRow_below hown hb2).alloc _) _ 1 [.int .i64 (toldE hn)] rfl (.inr ⟨_, _, rfl, rfl, ?src⟩) ?one ?len ?bytes ?base ?_))
        case src =>
          intro j u hu
          rw [Addr.add_lit, cell_newBlock]
          simpa using hu
        case one =>
          intro u hu
          simp only [List.mem_singleton] at hu
          subst hu
          rfl
        case len => unfold maxLen; omega
        case bytes => omega
        case base =>
          have := hB.size
          have := hb2.size
          rw [allocSize]
          omega
        intro v' w' hown' hg _
        have hb3 : Below w.heap.size w w' := ((belowTrans hB hb2).alloc (belowTrans hB hb2).size _).grown hg (by rw [allocSize]; have := (belowTrans hB hb2).size; omega) (fun k hk => (hown.lt k hk).1)
        have hn25 := row_other hown hbW (by decide)
        have hbW3 : w'.heap[w.heap.size]? = some (.cells #[.string d.name, .slice d.pa d.deps.length d.pc, .slice d.oa d.ops.length d.oc] 25 (0, 0)) := by
          have h4 := (Array.getElem?_eq_some_iff.1 hbW).1
          rw [hg.block _ (by rw [allocSize]; have := hb2.size; omega) (fun e => hn25 e.symm), Below.heap_alloc _ _ _ (by have := hb2.size; omega), hb2.block _ h4]
          exact hbW
        go_wp2
        go_roundw
        case rel => exact ⟨i + 1, by omega, by push_cast; rfl, by rw [hf]; push_cast; rfl, by rw [htk, List.map_append, List.map_take]; exact hown', hb3, hbW3⟩
        case measure => simp [intOf]; omega
    · have hlt' : ¬ (i : Int) < (hs.length : Int) := by omega
      have hi' : i = hs.length := by omega
      subst hi'
      go_wp2
      go_ret2
      rw [List.take_length] at hown
      exact ⟨⟨_, rfl, hown⟩, hB⟩
end Go.Proofs.W
