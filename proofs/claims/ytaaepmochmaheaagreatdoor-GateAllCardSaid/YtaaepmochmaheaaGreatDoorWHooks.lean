/- A PART OF THE PROOF THAT SHOWS THAT EACH OF rafterlaw44.GateAsk AND rafterlaw44.GateAll RETURNS TRUE FOR EVERY INPUT. No condition beyond the given statement. This part: WHooks. -/
import Derived.Test.YtaaepmochmaheaaGreatDoorWAwG
import Derived.Test.YtaaepmochmaheaaGreatDoorWLawGA
namespace Go.Proofs.W
open Go Go.Proofs Go.RowKit
set_option maxRecDepth 1000000

/-- numbers at a place -/
structure IntsAt (w : World) (b o : Nat) (xs : List Int) : Prop where
  lt : b < w.heap.size
  cell : ∀ (j : Nat) (x : Int), xs[j]? = some x → w.cell? ⟨b, o + j, none⟩ = some (.int .i64 x)
def IntsH (w : World) (a : Option Addr) (xs : List Int) : Prop := xs.length = 0 ∨ ∃ b o, a = some ⟨b, o, none⟩ ∧ IntsAt w b o xs
theorem IntsAt.below {w w' : World} {b o : Nat} {xs : List Int} (h : IntsAt w b o xs) (hb : Below w.heap.size w w') : IntsAt w' b o xs :=
  ⟨Nat.lt_of_lt_of_le h.lt hb.size, fun j d hd => by rw [World.cell?_of_block (hb.block b h.lt)]; exact h.cell j d hd⟩
theorem IntsH.below {w w' : World} {a : Option Addr} {xs : List Int} (h : IntsH w a xs) (hb : Below w.heap.size w w') : IntsH w' a xs := by
  rcases h with h | ⟨b, o, h1, h2⟩
  · exact .inl h
  · exact .inr ⟨b, o, h1, h2.below hb⟩

def hookRow (hs : List (Nat × Int)) : List Value := hs.map fun h => .iface 33 (hookV h.1)
theorem info_hook : ∃ i, Tryz.prog.info? 55 = some i ∧ i.zero = some .nilIface ∧ i.size = 1 ∧ i.bytes = 16 := info_parts (show (Tryz.prog.info? 55).map (fun i => (i.zero, i.size, i.bytes)) = some (some .nilIface, 1, 16) by kernel_rfl)

theorem hooksH_own {w : World} {base : Nat} {v : Value} {hs : List (Nat × Int)} (h : w.ownsRow base 55 1 v hs.length (hookRow hs)) (hh : ∀ x, x ∈ hs → x.1 < w.heap.size ∧ w.cell? ⟨x.1, 0, none⟩ = some (.int .i64 x.2)) : ∃ a c, v = .slice a hs.length c ∧ HooksH w a hs := by
  obtain ⟨_, ⟨rfl, h0⟩ | ⟨g, cap, cur, rfl, hg, hb, hc, _, hs', ht⟩⟩ := h
  · exact ⟨none, 0, by rw [h0], .inl h0⟩
  · refine ⟨_, cap, rfl, .inr ⟨g, 0, rfl, (Array.getElem?_eq_some_iff.1 hb).1, fun j x hj => ⟨?_, hh x (List.mem_of_getElem? hj)⟩⟩⟩
    have hjl : j < hs.length := (List.getElem?_eq_some_iff.1 hj).1
    have h1 : cur.toList[j]? = some (.iface 33 (hookV x.1)) := by
      have h2 : (cur.toList.take (hs.length * 1))[j]? = some (.iface 33 (hookV x.1)) := by rw [ht]; simp [hookRow, hj]
      rw [List.getElem?_take_of_lt (by omega)] at h2
      exact h2
    have h3 : cur[j]? = some (.iface 33 (hookV x.1)) := by rw [← Array.getElem?_toList]; exact h1
    simp [World.cell?, hb, h3]

def HooksRet (l : List Int) (e : Ending) (w' : World) : Prop := ∃ a' c' hs, e = .returned (.slice a' l.length c') ∧ hs.map (·.2) = l ∧ HooksH w' a' hs

set_option maxHeartbeats 8000000 in
theorem law_hooks (a : Option Addr) (c : Nat) (l : List Int) (w : World) (h : IntsH w a l) (hlen : l.length ≤ 1000) :
    Calls Tryz.prog 13 #[.slice a l.length c] w fun e w' => HooksRet l e w' ∧ Below w.heap.size w w' := by
  obtain ⟨ie, hie, hz0, hz1, hz2⟩ := info_hook
  go_enter Tryz.func13, Tryz.ntmps13
  go_wp2
  go_loopw [3, 4] (fun v x w' => ∃ (i : Nat) (hs : List (Nat × Int)), i ≤ l.length ∧ x = .int .i64 i ∧ hs.length = i ∧ hs.map (·.2) = l.take i ∧ w'.ownsRow w.heap.size 55 1 v i (hookRow hs) ∧ (∀ y, y ∈ hs → w'.heap[y.1]? = some (.cells #[.int .i64 y.2] 3 (0, 0))) ∧ Below w.heap.size w w') (fun _ x _ => l.length - (intOf x).toNat)
  case atStart => exact ⟨0, [], Nat.zero_le _, rfl, rfl, rfl, World.ownsRow_nil _ _ _ _, fun _ h => absurd h (by simp), Below.refl _ _⟩
  case round =>
    obtain ⟨i, hs, hi, rfl, hsl, hsm, hown, hhs, hB⟩ := hrel
    by_cases hlt : i < l.length
    · obtain ⟨b, o, rfl, hN⟩ : ∃ b o, a = some ⟨b, o, none⟩ ∧ IntsAt w b o l := h.resolve_left (by omega)
      obtain ⟨n, hn⟩ : ∃ x, l[i]? = some x := ⟨_, List.getElem?_eq_getElem hlt⟩
      have e1 := (hN.below hB).cell i _ hn
      have hlt' : (i : Int) < (l.length : Int) := by omega
      have hnn : ¬ (i : Int) < 0 := by omega
      have hnn0 : (0 : Int) ≤ (i : Int) := by omega
      have hask := law_hook n wr
      have hAl := belowAlloc wr (.cells #[.int .i64 n] 3)
      have hnew : (wr.alloc (.cells #[.int .i64 n] 3)).heap[wr.heap.size]? = some (.cells #[.int .i64 n] 3 (0, 0)) := (MapKept.heap_alloc wr _).1
      have hsz2 : (wr.alloc (.cells #[.int .i64 n] 3)).heap.size = wr.heap.size + 1 := allocSize _ _
      have hown2 := hown.alloc (.cells #[.int .i64 n] 3)
      generalize hW2 : wr.alloc (.cells #[.int .i64 n] 3) = W2 at hask hAl hnew hsz2 hown2
      clear hW2
      generalize hB0 : wr.heap.size = B0 at hask hnew hsz2
      go_wp2_with (first | (go_at_call 9; refine hask.mono ?_; rintro e w2 ⟨rfl, rfl⟩) | (at_builtin; refine wpList_append_src _ rfl (.tmp 11) (.tmp 18) 42 rfl w.heap.size 55 ie _ 1 _ Tryz.underlying42 hie hz0 hz1 hz2 rfl (by decide) _ i _ rfl (hown2.alloc _) _ 1 [.iface 33 (hookV B0)] rfl (.inr ⟨_, _, rfl, rfl, ?src⟩) ?one ?len ?bytes ?base ?_))
      case src =>
        intro j u hu
        rw [Addr.add_lit, ← hsz2, cell_newBlock]
        simpa using hu
      case one =>
        intro u hu
        simp only [List.mem_singleton] at hu
        subst hu
        rfl
      case len => unfold maxLen; omega
      case bytes => omega
      case base =>
        have := hB.size
        rw [allocSize]
        omega
      intro v' w' hown' hg _
      have hBB := belowTrans hB (by rw [hB0] at hAl; rw [hB0]; exact hAl)
      have hb3 : Below w.heap.size w w' := (hBB.alloc hBB.size _).grown hg (by rw [allocSize]; have := hBB.size; omega) (fun k hk => (hown.lt k hk).1)
      have hkeep : ∀ (k : Nat) (x : Int), w2.heap[k]? = some (Obj.cells #[.int .i64 x] 3 (0, 0)) → w'.heap[k]? = some (Obj.cells #[.int .i64 x] 3 (0, 0)) := fun k x hk => by
        have hn25 := row_other hown2 hk (by decide)
        have h4 := (Array.getElem?_eq_some_iff.1 hk).1
        rw [hg.block _ (by rw [allocSize]; omega) (fun e => hn25 e.symm), Below.heap_alloc _ _ _ h4]
        exact hk
      have htk : l.take (i + 1) = l.take i ++ [n] := by rw [List.take_add_one, hn]; rfl
      go_wp2
      go_roundw
      case rel => exact ⟨i + 1, hs ++ [(B0, n)], by omega, by push_cast; rfl, by simp [hsl], by rw [htk, List.map_append, hsm]; rfl, by unfold hookRow at hown' ⊢; rw [List.map_append]; exact hown', fun y hy => by
        rcases List.mem_append.1 hy with hy | hy
        · exact hkeep _ _ (by have h5 := hhs y hy; rw [hAl.block _ (by have := (Array.getElem?_eq_some_iff.1 h5).1; omega)]; exact h5)
        · simp only [List.mem_singleton] at hy
          subst hy
          exact hkeep _ _ hnew, hb3⟩
      case measure => simp [intOf]; omega
    · have hlt' : ¬ (i : Int) < (l.length : Int) := by omega
      have hi' : i = l.length := by omega
      subst hi'
      go_wp2
      go_ret
      rw [List.take_length] at hsm
      rw [← hsl] at hown
      obtain ⟨a', c', rfl, hH⟩ := hooksH_own hown (fun x hx => by
        have h5 := hhs x hx
        exact ⟨(Array.getElem?_eq_some_iff.1 h5).1, by simp [World.cell?, h5]⟩)
      exact ⟨⟨a', c', hs, congrArg (fun n => Ending.returned (.slice a' n c')) hsl, hsm, hH⟩, hB⟩
end Go.Proofs.W
namespace Go.Proofs.W
open Go Go.Proofs Go.RowKit
set_option maxRecDepth 1000000

def fellsL (l : List Int) : Nat := (l.filter toldB).length
theorem fells_map (hs : List (Nat × Int)) : fells hs = fellsL (hs.map (·.2)) := by
  unfold fells fellsL
  rw [List.filter_map, List.length_map]
  rfl
def GotV (l : List Int) (v : Value) (w : World) : Prop := ∃ ga gc, v = .slice ga l.length gc ∧ IntsH w ga (l.map toldE)
theorem GotV.below {l : List Int} {v : Value} {w w' : World} (h : GotV l v w) (hb : Below w.heap.size w w') : GotV l v w' := by
  obtain ⟨ga, gc, h1, h2⟩ := h
  exact ⟨ga, gc, h1, h2.below hb⟩
theorem gotV_own {l : List Int} {v : Value} {w : World} {base : Nat} (h : w.ownsRow base 29 1 v l.length (l.map fun x => .int .i64 (toldE x))) : GotV l v w := by
  obtain ⟨_, ⟨rfl, h0⟩ | ⟨g, cap, cur, rfl, hg, hb, hc, _, hs', ht⟩⟩ := h
  · exact ⟨none, 0, by rw [h0], .inl (by simpa using h0)⟩
  · refine ⟨_, cap, rfl, .inr ⟨g, 0, rfl, (Array.getElem?_eq_some_iff.1 hb).1, fun j x hj => ?_⟩⟩
    have hjl : j < l.length := by simpa using (List.getElem?_eq_some_iff.1 hj).1
    have hj2 : (l.map fun x => Value.int .i64 (toldE x))[j]? = some (.int .i64 x) := by
      rw [List.getElem?_map] at hj ⊢
      obtain ⟨y, hy, rfl⟩ := Option.map_eq_some_iff.1 hj
      rw [hy]
      rfl
    have h1 : cur.toList[j]? = some (.int .i64 x) := by
      have h2 : (cur.toList.take (l.length * 1))[j]? = some (.int .i64 x) := by rw [ht]; exact hj2
      rw [List.getElem?_take_of_lt (by omega)] at h2
      exact h2
    have h3 : cur[j]? = some (.int .i64 x) := by rw [← Array.getElem?_toList]; exact h1
    simp [World.cell?, hb, h3]

def LV (d : PatchV) (a : Option Addr) (c : Nat) (l : List Int) (i : Nat) (v : Value) (w : World) : Prop := match i with
  | 0 => v = .agg #[.string d.name, .slice d.pa d.deps.length d.pc, .slice d.oa d.ops.length d.oc]
  | 1 => v = .slice a l.length c
  | 2 => ∃ a' c' hs, v = .slice a' l.length c' ∧ hs.map (·.2) = l ∧ HooksH w a' hs
  | 3 | 4 => ∃ v', v = .tuple #[v', .int .i64 (fellsL l)] ∧ GotV l v' w
  | 5 | 7 => GotV l v w
  | 6 | 8 => v = .int .i64 (fellsL l)
  | _ => True
theorem HooksH.below {w w' : World} {a : Option Addr} {hs : List (Nat × Int)} (h : HooksH w a hs) (hb : Below w.heap.size w w') : HooksH w' a hs := by
  rcases h with h | ⟨b, o, h1, h2⟩
  · exact .inl h
  · exact .inr ⟨b, o, h1, h2.below hb⟩
theorem LV.below {d : PatchV} {a : Option Addr} {c : Nat} {l : List Int} {i : Nat} {v : Value} {w w' : World} (h : Below w.heap.size w w') (hv : LV d a c l i v w) : LV d a c l i v w' := by
  unfold LV at hv ⊢
  split at hv
  any_goals exact hv
  · obtain ⟨a', c', hs, e, h1, h2⟩ := hv
    exact ⟨a', c', hs, e, h1, h2.below h⟩
  · obtain ⟨v', e, h1⟩ := hv
    exact ⟨v', e, h1.below h⟩
  · obtain ⟨v', e, h1⟩ := hv
    exact ⟨v', e, h1.below h⟩
  · exact hv.below h
  · exact hv.below h

set_option maxHeartbeats 8000000 in
theorem law_GateAll (d : PatchV) (a : Option Addr) (c : Nat) (l : List Int) (w : World) (hN : IntsH w a l) (h1 : TextsH w d.pa d.deps) (h2 : OpsH w d.oa d.ops) (hl1 : d.deps.length < 9223372036854775808) (hl2 : d.ops.length < 9223372036854775808) (hl3 : l.length < 9223372036854775808) :
    Calls Tryz.prog 4 #[.agg #[.string d.name, .slice d.pa d.deps.length d.pc, .slice d.oa d.ops.length d.oc], .slice a l.length c] w fun e w' => e = .returned (.bool true) ∧ Below w.heap.size w w' := by
  have hA := belowAlloc w (.cells #[.string d.name, .slice d.pa d.deps.length d.pc, .slice d.oa d.ops.length d.oc] 25)
  have hbx := (MapKept.heap_alloc w (.cells #[.string d.name, .slice d.pa d.deps.length d.pc, .slice d.oa d.ops.length d.oc] 25)).1
  go_enter Tryz.func4, Tryz.ntmps4
  go_wp2_with fail
  refine (L13_Light d _ (h1.below hA) (h2.below hA) hl1 hl2).mono ?_
  rintro e w1 ⟨⟨t, rfl, ht⟩, hb1⟩
  have hB1 := belowTrans hA hb1
  cases t with
  | false =>
    go_wp2_with fail
    refine (gate_awake w1).mono ?_
    rintro e w2 ⟨rfl, hb2⟩
    go_wp2
    go_ret
    exact ⟨rfl, belowTrans hB1 hb2⟩
  | true =>
    by_cases h20 : (20 : Int) < (l.length : Int)
    · go_wp2_with fail
      refine (gate_awake w1).mono ?_
      rintro e w2 ⟨rfl, hb2⟩
      go_wp2
      go_ret
      exact ⟨rfl, belowTrans hB1 hb2⟩
    · have hl := ht rfl
      have hbW := (hb1.block w.heap.size (by rw [allocSize]; omega)).trans hbx
      have q0 : w1.cell? ⟨w.heap.size, 0, none⟩ = some (.string d.name) := by simp [World.cell?, hbW]
      have q1 : w1.cell? ⟨w.heap.size, 1, none⟩ = some (.slice d.pa d.deps.length d.pc) := by simp [World.cell?, hbW]
      have q2 : w1.cell? ⟨w.heap.size, 2, none⟩ = some (.slice d.oa d.ops.length d.oc) := by simp [World.cell?, hbW]
      go_wp2_with fail
      refine (law_copied d w1 (h1.below hB1) (h2.below hB1) hl).mono ?_
      rintro e w2 ⟨⟨f, rfl, hs, k1, k2⟩, hb2⟩
      have hB2 := belowTrans hB1 hb2
      clear q0 q1 q2
      go_wp2_with fail
      have hA3 := belowAlloc w2 (.cells #[.string f.name, .slice f.pa f.deps.length f.pc, .slice f.oa f.ops.length f.oc] 25)
      have hf3 := (MapKept.heap_alloc w2 (.cells #[.string f.name, .slice f.pa f.deps.length f.pc, .slice f.oa f.ops.length f.oc] 25)).1
      have hz3 : (w2.alloc (.cells #[.string f.name, .slice f.pa f.deps.length f.pc, .slice f.oa f.ops.length f.oc] 25)).heap.size = w2.heap.size + 1 := allocSize _ _
      have hws := hB1.size
      have hws2 := hb2.size
      have hw0 : w.heap.size < w1.heap.size := by have := hb1.size; rw [allocSize] at this; omega
      have hbx3 := (hA3.block w.heap.size (by omega)).trans ((hb2.block w.heap.size hw0).trans hbW)
      generalize w2.alloc (.cells #[.string f.name, .slice f.pa f.deps.length f.pc, .slice f.oa f.ops.length f.oc] 25) = w3 at hA3 hf3 hz3 hbx3 ⊢
      have hB3 := belowTrans hB2 hA3
      refine wp_region_go 9 3 78 (by kernel_rfl) ?ok ?forced rfl (LV d a c l) (fun W => Below w3.heap.size w3 W) (fun W W' => Below W.heap.size W W') (fun _ _ _ _ h hv => hv.below h) (belowDrew1 _) ?step ?fin
      case ok => kernel_rfl
      case forced => kernel_rfl
      case step =>
        intro i o hi ho L a1 W hpre hF hJ hV K hK
        have s1 : a1.tmps[1]? = some (.slice a l.length c) := hF.at (by kernel_rfl) rfl
        have s2 : a1.tmps[2]? = some (.pointer (some ⟨w.heap.size, 0, none⟩)) := hF.at (by kernel_rfl) rfl
        have hbW3 := (hJ.block w.heap.size (by omega)).trans hbx3
        have c0 : W.cell? ⟨w.heap.size, 0, none⟩ = some (.string d.name) := by simp [World.cell?, hbW3]
        have c1 : W.cell? ⟨w.heap.size, 1, none⟩ = some (.slice d.pa d.deps.length d.pc) := by simp [World.cell?, hbW3]
        have c2 : W.cell? ⟨w.heap.size, 2, none⟩ = some (.slice d.oa d.ops.length d.oc) := by simp [World.cell?, hbW3]
        have hBW := belowTrans hB3 hJ
        match i, hi with
        | 0, _ =>
          simp only [List.getElem?_toArray, List.getElem?_cons_zero, Option.some.injEq] at ho
          subst ho
          refine rg_val (v := .agg #[.string d.name, .slice d.pa d.deps.length d.pc, .slice d.oa d.ops.length d.oc]) ?_ (hK _ _ (Below.refl _ _) rfl hJ)
          simp [execOp, Act.eval, go_sem, s2, c0, c1, c2]
        | 1, _ =>
          simp only [List.getElem?_toArray, List.getElem?_cons_succ, List.getElem?_cons_zero, Option.some.injEq] at ho
          subst ho
          refine rg_val (v := .slice a l.length c) ?_ (hK _ _ (Below.refl _ _) rfl hJ)
          simp [execOp, Act.eval, go_sem, s1]
        | 2, _ =>
          simp only [List.getElem?_toArray, List.getElem?_cons_succ, List.getElem?_cons_zero, Option.some.injEq] at ho
          subst ho
          have s17 := hF.slot (i := 1) rfl (by simp) (hV 1 (hpre ⟨1, .data⟩ (by simp) rfl))
          refine rg_enter (f := 13) (args := #[.slice a l.length c]) (w' := W) ?_ (law_hooks a c l W (hN.below hBW) (by omega)) ?_ ?_ ?_
          · simp [Act.eval, go_sem, s17]
          · rintro v w'' ⟨⟨a', c', hs', e, h3, h4⟩, hb⟩
            cases e
            exact hK _ _ hb ⟨a', c', hs', rfl, h3, h4⟩ (belowTrans hJ hb)
          · rintro chain w'' ⟨⟨a', c', hs', e, h3, h4⟩, hb⟩
            cases e
          · rintro w'' ⟨⟨a', c', hs', e, h3, h4⟩, hb⟩
            cases e
        | 3, _ =>
          simp only [List.getElem?_toArray, List.getElem?_cons_succ, List.getElem?_cons_zero, Option.some.injEq] at ho
          subst ho
          have s24 := hF.slot (i := 0) rfl (by simp) (hV 0 (hpre ⟨0, .data⟩ (by simp) rfl))
          obtain ⟨a', c', hs', e, h3, h4⟩ := hV 2 (hpre ⟨2, .data⟩ (by simp) rfl)
          have s26 := hF.slot (i := 2) rfl (by simp) e
          have hlen' : hs'.length = l.length := by rw [← h3, List.length_map]
          have hall := gate_All d a' c' hs' W h4 (by omega) (h1.below hBW) (h2.below hBW) hl
          rw [hlen'] at hall
          refine rg_enter (f := 12) (args := #[.agg #[.string d.name, .slice d.pa d.deps.length d.pc, .slice d.oa d.ops.length d.oc], .slice a' l.length c']) (w' := W) ?_ hall ?_ ?_ ?_
          · simp [Act.eval, go_sem, s24, s26]
          · rintro v w'' ⟨⟨v', e, hown⟩, hb⟩
            cases e
            refine hK _ _ hb ⟨v', by rw [fells_map, h3]; rfl, gotV_own (base := W.heap.size) ?_⟩ (belowTrans hJ hb)
            have e5 : (l.map fun x => Value.int .i64 (toldE x)) = hs'.map fun h => .int .i64 (toldE h.2) := by rw [← h3, List.map_map]; rfl
            rw [e5]
            exact hown
          · rintro chain w'' ⟨⟨v', e, _⟩, _⟩
            cases e
          · rintro w'' ⟨⟨v', e, _⟩, _⟩
            cases e
        | 4, _ =>
          simp only [List.getElem?_toArray, List.getElem?_cons_succ, List.getElem?_cons_zero, Option.some.injEq] at ho
          subst ho
          obtain ⟨v', e, hg⟩ := hV 3 (hpre ⟨3, .data⟩ (by simp) rfl)
          have sx := hF.slot (i := 3) rfl (by simp) e
          refine rg_val (v := .tuple #[v', .int .i64 (fellsL l)]) ?_ (hK _ _ (Below.refl _ _) ⟨v', rfl, hg⟩ hJ)
          simp [execOp, Act.eval, go_sem, sx]
        | 5, _ =>
          simp only [List.getElem?_toArray, List.getElem?_cons_succ, List.getElem?_cons_zero, Option.some.injEq] at ho
          subst ho
          obtain ⟨v', e, hg⟩ := hV 4 (hpre ⟨4, .data⟩ (by simp) rfl)
          have sx := hF.slot (i := 4) rfl (by simp) e
          refine rg_val (v := v') ?_ (hK _ _ (Below.refl _ _) hg hJ)
          simp [execOp, Act.eval, go_sem, sx]
        | 6, _ =>
          simp only [List.getElem?_toArray, List.getElem?_cons_succ, List.getElem?_cons_zero, Option.some.injEq] at ho
          subst ho
          obtain ⟨v', e, hg⟩ := hV 4 (hpre ⟨4, .data⟩ (by simp) rfl)
          have sx := hF.slot (i := 4) rfl (by simp) e
          refine rg_val (v := .int .i64 (fellsL l)) ?_ (hK _ _ (Below.refl _ _) rfl hJ)
          simp [execOp, Act.eval, go_sem, sx]
        | 7, _ =>
          simp only [List.getElem?_toArray, List.getElem?_cons_succ, List.getElem?_cons_zero, Option.some.injEq] at ho
          subst ho
          have hg : GotV l _ W := hV 5 (hpre ⟨5, .data⟩ (by simp) rfl)
          obtain ⟨ga, gc, e, hi⟩ := hg
          have sx := hF.slot (i := 5) rfl (by simp) e
          refine rg_val (v := .slice ga l.length gc) ?_ (hK _ _ (Below.refl _ _) ⟨ga, gc, rfl, hi⟩ hJ)
          simp [execOp, Act.eval, go_sem, sx]
        | 8, _ =>
          simp only [List.getElem?_toArray, List.getElem?_cons_succ, List.getElem?_cons_zero, Option.some.injEq] at ho
          subst ho
          have sx := hF.slot (i := 6) rfl (by simp) (hV 6 (hpre ⟨6, .data⟩ (by simp) rfl))
          refine rg_val (v := .int .i64 (fellsL l)) ?_ (hK _ _ (Below.refl _ _) rfl hJ)
          simp [execOp, Act.eval, go_sem, sx]
      case fin =>
        intro a1 W hF hJ hV
        obtain ⟨ga, gc, e7, hgot⟩ : GotV l (a1.tmps.getD 6 undef) W := hV 7 (by omega)
        have e8 : a1.tmps.getD 7 undef = .int .i64 (fellsL l) := hV 8 (by omega)
        rw [hF.lit [24, 25, 26, 27, 23, 28, 29, 6, 7] (by kernel_rfl)]
        simp only [relaid, List.foldl_cons, List.foldl_nil, e7, e8]
        generalize a1.tmps.getD 23 undef = y23
        generalize a1.tmps.getD 24 undef = y24
        generalize a1.tmps.getD 25 undef = y25
        generalize a1.tmps.getD 26 undef = y26
        generalize a1.tmps.getD 27 undef = y27
        generalize a1.tmps.getD 28 undef = y28
        generalize a1.tmps.getD 29 undef = y29
        simp only [List.setIfInBounds_toArray, List.set_cons_succ, List.set_cons_zero, List.drop_succ_cons, List.drop_nil]
        clear hV hF e7 e8
        have hd4 := (hJ.block w.heap.size (by omega)).trans hbx3
        have hf4 := (hJ.block w2.heap.size (by omega)).trans hf3
        have hJs := hJ.size
        have hBW := belowTrans hB3 hJ
        go_wp2_with fail
        go_loopw [8, 9] (fun m x w' => ∃ i : Nat, i ≤ l.length ∧ x = .int .i64 i ∧ m = .int .i64 (fellsL (l.take i)) ∧ Below W.heap.size W w') (fun _ x _ => l.length - (intOf x).toNat)
        case atStart => exact ⟨0, Nat.zero_le _, rfl, rfl, Below.refl _ _⟩
        case round =>
          obtain ⟨i, hi, rfl, rfl, hBr⟩ := hrel
          by_cases hlt : i < l.length
          · obtain ⟨b, o, rfl, hNN⟩ : ∃ b o, a = some ⟨b, o, none⟩ ∧ IntsAt w b o l := hN.resolve_left (by omega)
            obtain ⟨g, go, rfl, hGG⟩ : ∃ b o, ga = some ⟨b, o, none⟩ ∧ IntsAt W b o (l.map toldE) := hgot.resolve_left (by rw [List.length_map]; omega)
            obtain ⟨n, hn⟩ : ∃ x, l[i]? = some x := ⟨_, List.getElem?_eq_getElem hlt⟩
            have e1 := (hNN.below (belowTrans hBW hBr)).cell i _ hn
            have e2 := (hGG.below hBr).cell i (toldE n) (by rw [List.getElem?_map, hn]; rfl)
            have hlt' : (i : Int) < (l.length : Int) := by omega
            have hnn : ¬ (i : Int) < 0 := by omega
            have hnn0 : (0 : Int) ≤ (i : Int) := by omega
            have htk : l.take (i + 1) = l.take i ++ [n] := by rw [List.take_add_one, hn]; rfl
            have hfl : fellsL (l.take i) ≤ 20 := by unfold fellsL; exact Nat.le_trans (List.length_filter_le _ _) (by simp; omega)
            have hask := R44_Told n wr
            cases hb : toldB n
            · have hf : fellsL (l.take (i + 1)) = fellsL (l.take i) := by rw [htk]; unfold fellsL; simp [hb]
              rw [hb] at hask
              go_wp2_with (go_at_call 10; refine hask.mono ?_; rintro e w5 ⟨rfl, rfl⟩)
              go_roundw
              case rel => exact ⟨i + 1, by omega, by push_cast; rfl, by rw [hf], hBr⟩
              case measure => simp [intOf]; omega
            · have hf : fellsL (l.take (i + 1)) = fellsL (l.take i) + 1 := by rw [htk]; unfold fellsL; simp [hb]
              generalize fellsL (l.take i) = m at hf hfl ⊢
              have hw : wrap64 ((m : Int) + 1) = (m : Int) + 1 := by unfold wrap64; omega
              clear hfl htk hn
              rw [hb] at hask
              go_wp2_with (go_at_call 10; refine hask.mono ?_; rintro e w5 ⟨rfl, rfl⟩)
              go_roundw
              case rel => exact ⟨i + 1, by omega, by push_cast; rfl, by rw [hf, hw]; push_cast; rfl, hBr⟩
              case measure => simp [intOf]; omega
          · have hlt' : ¬ (i : Int) < (l.length : Int) := by omega
            have hi' : i = l.length := by omega
            subst hi'
            rw [List.take_length]
            go_wp2_with fail
            refine (gate_awake wr).mono ?_
            rintro e w6 ⟨rfl, hb6⟩
            have hBr6 := belowTrans hBr hb6
            have hd6 := (hBr6.block w.heap.size (by omega)).trans hd4
            have hf6 := (hBr6.block w2.heap.size (by omega)).trans hf4
            have c0 : w6.cell? ⟨w.heap.size, 0, none⟩ = some (.string d.name) := by simp [World.cell?, hd6]
            have c1 : w6.cell? ⟨w.heap.size, 1, none⟩ = some (.slice d.pa d.deps.length d.pc) := by simp [World.cell?, hd6]
            have c2 : w6.cell? ⟨w.heap.size, 2, none⟩ = some (.slice d.oa d.ops.length d.oc) := by simp [World.cell?, hd6]
            have f0 : w6.cell? ⟨w2.heap.size, 0, none⟩ = some (.string f.name) := by simp [World.cell?, hf6]
            have f1 : w6.cell? ⟨w2.heap.size, 1, none⟩ = some (.slice f.pa f.deps.length f.pc) := by simp [World.cell?, hf6]
            have f2 : w6.cell? ⟨w2.heap.size, 2, none⟩ = some (.slice f.oa f.ops.length f.oc) := by simp [World.cell?, hf6]
            have hB6 := belowTrans hBW hBr6
            go_wp2_with fail
            refine (R13_same d f w6 (h1.below hB6) (h2.below hB6) (k1.below (belowTrans hA3 (belowTrans hJ hBr6))) (k2.below (belowTrans hA3 (belowTrans hJ hBr6))) hs hl1 hl2).mono ?_
            rintro e w7 ⟨rfl, hb7⟩
            go_wp2
            go_ret
            exact ⟨rfl, belowTrans hB6 hb7⟩
end Go.Proofs.W
