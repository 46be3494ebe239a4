/- A PART OF THE PROOF THAT SHOWS THAT EACH OF rafterlaw44.GateAsk AND rafterlaw44.GateAll RETURNS TRUE FOR EVERY INPUT. No condition beyond the given statement. This part: WClone. -/
import Derived.Test.YtaaepmochmaheaaGreatDoorWHead
import Derived.Test.YtaaepmochmaheaaGreatDoorWPatch
import Derived.Stop.Asserts
import Derived.Defers
import Derived.Recover
import Derived.OneCell
namespace Go.Proofs.W
open Go Go.Proofs Go.RowKit
set_option maxRecDepth 1000000

def idCells (d : Idv) : List Value := [.string d.p, .int .i64 d.n]
theorem idCells_get {xs : List Idv} {w : World} {b o : Nat} (h : IdsAt w b o xs) : ∀ (j : Nat) u, (xs.flatMap idCells)[j]? = some u → w.cell? ((⟨b, o, none⟩ : Addr).add j) = some u := by
  have key : ∀ (ys : List Idv) (m : Nat), (∀ j x, ys[j]? = some x → xs[m + j]? = some x) → ∀ j u, (ys.flatMap idCells)[j]? = some u → w.cell? ⟨b, o + m * 2 + j, none⟩ = some u := by
    intro ys
    induction ys with
    | nil => intro m _ j u hu; simp at hu
    | cons y r ih =>
      intro m hm j u hu
      obtain ⟨e1, e2⟩ := h.cell m y (by simpa using hm 0 y rfl)
      rw [List.flatMap_cons] at hu
      match j, hu with
      | 0, hu => rw [← Option.some.inj (show some (Value.string y.p) = some u from hu)]; exact e1
      | 1, hu => rw [← Option.some.inj (show some (Value.int .i64 y.n) = some u from hu)]; exact e2
      | j + 2, hu =>
        have := ih (m + 1) (fun j x hx => by
          have := hm (j + 1) x hx
          rw [show m + 1 + j = m + (j + 1) by omega]; exact this) j u hu
        rw [show o + m * 2 + (j + 2) = o + (m + 1) * 2 + j by omega]
        exact this
  intro j u hu
  rw [Addr.add_lit]
  have := key xs 0 (fun j x hx => by simpa using hx) j u hu
  simpa using this
theorem idCells_len : ∀ xs : List Idv, (xs.flatMap idCells).length = xs.length * 2
  | [] => rfl
  | x :: r => by have := idCells_len r; rw [List.flatMap_cons, List.length_append, this]; simp [idCells]; omega
theorem info_id : ∃ i, Tryz.prog.info? 50 = some i ∧ i.zero = some (.agg #[.string ⟨#[]⟩, .int .i64 0]) ∧ i.size = 2 ∧ i.bytes = 24 := info_parts (show (Tryz.prog.info? 50).map (fun i => (i.zero, i.size, i.bytes)) = some (some (.agg #[.string ⟨#[]⟩, .int .i64 0]), 2, 24) by kernel_rfl)

set_option maxHeartbeats 4000000 in
theorem cloneIds (a : Option Addr) (c : Nat) (xs : List Idv) (w : World) (h : IdsH w a xs) (hlen : xs.length ≤ 1099511627776) :
    Calls Tryz.prog 31 #[.slice a xs.length c] w fun e w' => (∃ v', e = .returned v' ∧ w'.ownsRow w.heap.size 50 2 v' xs.length (xs.flatMap idCells)) ∧ Below w.heap.size w w' := by
  obtain ⟨i0, hi0, hz0, hz1, hz2⟩ := info_id
  have qn : ∀ (w : World) (a : Option Addr) (n c n' c' : Nat), (binOp .eql 51 (.slice a n c) (.slice none n' c')).run Tryz.prog w = .ok (.bool a.isNone) w := fun w a n c n' c' => Lib.run_eql_slice_nil w _ _ a n c n' c' Tryz.underlying51
  cases a with
  | none =>
    have h0 : xs.length = 0 := h.elim id (fun ⟨_, _, h, _⟩ => by cases h)
    go_enter Tryz.func31, Tryz.ntmps31
    go_wp2
    go_ret
    refine ⟨⟨_, rfl, ?_⟩, Below.refl _ _⟩
    have : xs = [] := List.eq_nil_of_length_eq_zero h0
    subst this
    exact World.ownsRow_nil _ _ _ _
  | some ad =>
    have hsrc : ∀ x, ∃ ad' c', (Value.slice (some ad) xs.length c) = .slice (some ad') xs.length c' ∧ (xs.flatMap idCells).length = xs.length * 2 ∧ ∀ j u, (xs.flatMap idCells)[j]? = some u → (w.alloc x).cell? (ad'.add j) = some u := fun x => by
      refine ⟨ad, c, rfl, idCells_len xs, fun j u hu => ?_⟩
      rcases h with h0 | ⟨b, o, h1, h2⟩
      · have : xs = [] := List.eq_nil_of_length_eq_zero h0
        subst this
        simp at hu
      · cases h1
        exact idCells_get (h2.below (belowAlloc _ _)) j u hu
    go_enter Tryz.func31, Tryz.ntmps31
    go_wp2_with (at_builtin; refine wpList_append_src _ rfl (.tmp 5) (.tmp 6) 51 rfl w.heap.size 50 i0 (.agg #[.string ⟨#[]⟩, .int .i64 0]) 2 24 Tryz.underlying51 hi0 hz0 hz1 hz2 rfl (by decide) _ 0 [] rfl (World.ownsRow_lit w #[] 0 (Nat.le_refl _) (Nat.zero_le _) rfl) _ xs.length (xs.flatMap idCells) rfl (.inr (hsrc _)) ?one ?c1 ?c2 ?c3 ?_)
    case one =>
      intro u hu
      obtain ⟨d, _, hd⟩ := List.mem_flatMap.1 hu
      simp only [idCells, List.mem_cons, List.not_mem_nil, or_false] at hd
      rcases hd with rfl | rfl <;> rfl
    case c1 => unfold maxLen; omega
    case c2 => omega
    case c3 => simp
    intro v' w' hown hg _
    go_wp2
    go_ret
    refine ⟨⟨_, rfl, by simpa using hown⟩, ?_⟩
    have hb := belowAlloc w (.cells #[] 50)
    exact ⟨hg.os.trans hb.os, hg.tape.trans hb.tape, hg.output.trans hb.output, Nat.le_trans hb.size hg.size, fun k hk => (hg.block k (by simp; omega) (by simp [Value.ownBlock]; omega)).trans (hb.block k hk)⟩
end Go.Proofs.W
namespace Go.Proofs.W
open Go Go.Proofs Go.RowKit
set_option maxRecDepth 1000000

/-- what is told of a hook -/
def toldE (n : Int) : Int := if 0 ≤ n ∧ n ≤ 18 then n else if 20 ≤ n ∧ n ≤ 37 then n - 19 else if n = 38 then 17 else if n = 39 then 2 else 6
def toldB (n : Int) : Bool := !decide (0 ≤ n ∧ n ≤ 18)

set_option maxHeartbeats 4000000 in
theorem R44_Told (n : Int) (w : World) :
    Calls Tryz.prog 10 #[.int .i64 n] w fun e w' => e = .returned (.tuple #[.int .i64 (toldE n), .bool (toldB n)]) ∧ w' = w := by
  have hsub : 20 ≤ n → n ≤ 37 → wrap64 (n - 19) = n - 19 := fun h1 h2 => by unfold wrap64; omega
  by_cases h0 : 0 ≤ n ∧ n ≤ 18
  · obtain ⟨h0, h1⟩ := h0
    have e1 : toldE n = n := by unfold toldE; rw [if_pos ⟨h0, h1⟩]
    have e2 : toldB n = false := by unfold toldB; rw [decide_eq_true (show 0 ≤ n ∧ n ≤ 18 from ⟨h0, h1⟩)]; rfl
    rw [e1, e2]
    clear e1 e2
    go_enter Tryz.func10, Tryz.ntmps10
    go_wp2
    go_ret2
    exact ⟨rfl, rfl⟩
  · have e2 : toldB n = true := by unfold toldB; rw [decide_eq_false h0]; rfl
    rw [e2]
    clear e2
    by_cases h2 : 20 ≤ n ∧ n ≤ 37
    · have e1 : toldE n = n - 19 := by unfold toldE; rw [if_neg h0, if_pos h2]
      obtain ⟨h2, h3⟩ := h2
      have hn : 0 ≤ n := by omega
      have hn2 : ¬ n ≤ 18 := by omega
      have hw := hsub h2 h3
      rw [e1]
      clear e1 h0
      go_enter Tryz.func10, Tryz.ntmps10
      go_wp2
      go_ret2
      exact ⟨by simp, rfl⟩
    · have e1 : toldE n = if n = 38 then 17 else if n = 39 then 2 else 6 := by unfold toldE; rw [if_neg h0, if_neg h2]
      rw [e1]
      clear e1
      have h0' : ¬ 0 ≤ n ∨ (0 ≤ n ∧ ¬ n ≤ 18) := by omega
      have h2' : ¬ 20 ≤ n ∨ (20 ≤ n ∧ ¬ n ≤ 37) := by omega
      clear h0 h2 hsub
      by_cases h4 : n = 38
      · subst h4
        go_enter Tryz.func10, Tryz.ntmps10
        go_wp2
        go_ret2
        exact ⟨rfl, rfl⟩
      · by_cases h5 : n = 39
        · subst h5
          go_enter Tryz.func10, Tryz.ntmps10
          go_wp2
          go_ret2
          exact ⟨rfl, rfl⟩
        · rw [if_neg h4, if_neg h5]
          rcases h0' with h0' | ⟨h0', h0''⟩ <;> rcases h2' with h2' | ⟨h2', h2''⟩
          all_goals
            go_enter Tryz.func10, Tryz.ntmps10
            go_wp2
          all_goals
            go_ret2
            exact ⟨rfl, rfl⟩

theorem as_ee (v : Value) (w : World) : (Instr.typeAssert (.iface 29 v) 20 29 true).run Tryz.prog w = .ok (.tuple #[v, .bool true]) w := by kernel_rfl
theorem as_se (v : Value) (w : World) : (Instr.typeAssert (.iface 9 v) 20 29 true).run Tryz.prog w = .ok (.tuple #[.int .i64 0, .bool false]) w := by kernel_rfl
theorem as_ss (v : Value) (w : World) : (Instr.typeAssert (.iface 9 v) 20 9 true).run Tryz.prog w = .ok (.tuple #[v, .bool true]) w := by kernel_rfl
theorem as_pe (v : Value) (w : World) : (Instr.typeAssert (.iface 82 v) 20 29 true).run Tryz.prog w = .ok (.tuple #[.int .i64 0, .bool false]) w := by kernel_rfl
theorem as_ps (v : Value) (w : World) : (Instr.typeAssert (.iface 82 v) 20 9 true).run Tryz.prog w = .ok (.tuple #[.string ⟨#[]⟩, .bool false]) w := by kernel_rfl
theorem as_ie (v : Value) (w : World) : (Instr.typeAssert (.iface 3 v) 20 29 true).run Tryz.prog w = .ok (.tuple #[.int .i64 0, .bool false]) w := by kernel_rfl
theorem as_is (v : Value) (w : World) : (Instr.typeAssert (.iface 3 v) 20 9 true).run Tryz.prog w = .ok (.tuple #[.string ⟨#[]⟩, .bool false]) w := by kernel_rfl
theorem as_pr (v : Value) (w : World) : (Instr.typeAssert (.iface 82 v) 20 58 true).run Tryz.prog w = .ok (.tuple #[.iface 82 v, .bool true]) w := run_typeAssert_hasB Tryz.underlying58 (by kernel_rfl) v _ w
theorem as_ir (v : Value) (w : World) : (Instr.typeAssert (.iface 3 v) 20 58 true).run Tryz.prog w = .ok (.tuple #[.nilIface, .bool false]) w := run_typeAssert_lacksB Tryz.underlying58 (by kernel_rfl) (by kernel_rfl) v _ w

def ErrK (T : TypeId) (v : Value) (k : Int) : Prop := (T = 29 ∧ ∃ x, v = .int .i64 x ∧ k = if x = 0 then 6 else x) ∨ (T = 9 ∧ k = 17) ∨ (T = 82 ∧ k = 2) ∨ (T = 3 ∧ k = 6)

set_option maxHeartbeats 4000000 in
theorem gate_told (T : TypeId) (v : Value) (k : Int) (w : World) (h : ErrK T v k) :
    Calls Tryz.prog 17 #[.iface T v] w fun e w' => e = .returned (.int .i64 k) ∧ w' = w := by
  rcases h with ⟨rfl, x, rfl, rfl⟩ | ⟨rfl, rfl⟩ | ⟨rfl, rfl⟩ | ⟨rfl, rfl⟩
  · have h1 := as_ee
    by_cases hx : x = 0
    · subst hx
      go_enter Tryz.func17, Tryz.ntmps17
      go_wp2
      go_ret
      exact ⟨rfl, rfl⟩
    · rw [if_neg hx]
      go_enter Tryz.func17, Tryz.ntmps17
      go_wp2
      go_ret
      exact ⟨rfl, rfl⟩
  · have h1 := as_se
    have h2 := as_ss
    go_enter Tryz.func17, Tryz.ntmps17
    go_wp2
    go_ret
    exact ⟨rfl, rfl⟩
  · have h1 := as_pe
    have h2 := as_ps
    have h3 := as_pr
    go_enter Tryz.func17, Tryz.ntmps17
    go_wp2
    go_ret
    exact ⟨rfl, rfl⟩
  · have h1 := as_ie
    have h2 := as_is
    have h3 := as_ir
    go_enter Tryz.func17, Tryz.ntmps17
    go_wp2
    go_ret
    exact ⟨rfl, rfl⟩

/-- the deferred closure, behind a panic -/
theorem ask_caught (p q : Addr) (x y : Value) (T : TypeId) (v : Value) (k : Int) (older : List PanicEntry) (w : World) (hk : ErrK T v k) (hp : w.cell? p = some x) (hq : w.cell? q = some y) (hpz : w.frozen? p = false) (hqz : w.frozen? q = false) (hne : p ≠ q) :
    CallsD Tryz.prog 16 #[.pointer (some p), .pointer (some q)] (.panicking ({ v := .iface T v, recovered := false } :: older)) w fun e u' w' =>
      e = .returned (.tuple #[]) ∧ u' = .panicking ({ v := .iface T v, recovered := true } :: older) ∧ w' = (w.setCell p (.int .i64 k)).setCell q (.bool true) := by
  refine callsD_of_wpS Tryz.func16 rfl fun c₀ cs hu => ?_
  apply wpS_seq
  apply wpS_region
  simp [wpOpsS, go_sem, recoverD, hu, Tryz.ntmps16, Exit.thenS]
  refine wpS_of_wp ?_
  rw [show (#[Value.pointer (some p), Value.pointer (some q)] ++ ((Array.replicate 6 undef).setIfInBounds 1 (Value.iface T v)).setIfInBounds 0 (Value.iface T v)) = #[.pointer (some p), .pointer (some q), .iface T v, .iface T v, undef, undef, undef, undef] from rfl]
  go_wp2_with (go_at_call 17; refine (gate_told T v k _ hk).mono ?_; rintro e w2 ⟨rfl, rfl⟩)
  simp [bodyPostS, results, Tryz.results16, go_sem]

/-- .. behind a return -/
theorem ask_idle (p q : Addr) (w : World) :
    CallsD Tryz.prog 16 #[.pointer (some p), .pointer (some q)] .returning w fun e u' w' => e = .returned (.tuple #[]) ∧ u' = .returning ∧ w' = w := by
  refine callsD_of_wpS Tryz.func16 rfl fun c₀ cs hu => ?_
  apply wpS_seq
  apply wpS_region
  simp [wpOpsS, go_sem, recoverD, hu, Tryz.ntmps16, Exit.thenS]
  refine wpS_of_wp ?_
  rw [show (#[Value.pointer (some p), Value.pointer (some q)] ++ ((Array.replicate 6 undef).setIfInBounds 1 Value.nilIface).setIfInBounds 0 Value.nilIface) = #[.pointer (some p), .pointer (some q), .nilIface, .nilIface, undef, undef, undef, undef] from rfl]
  go_wp2
  cases c₀
  simp_all [bodyPostS, results, Tryz.results16]
end Go.Proofs.W
namespace Go.Proofs.W
open Go Go.Proofs Go.RowKit
set_option maxRecDepth 1000000

/-- a hook, as a value: its number lies in a block of its own -/
def hookV (B : Nat) : Value := .func (.func 19) #[] #[.pointer (some ⟨B, 0, none⟩)]

theorem law_hook (n : Int) (w : World) :
    Calls Tryz.prog 9 #[.int .i64 n] w fun e w' => e = .returned (hookV w.heap.size) ∧ w' = w.alloc (.cells #[.int .i64 n] 3) := by
  have hmf : ∀ (fn : Fn) (first cap : Array Value) (w : World), (Instr.makeFunc fn first cap).run Tryz.prog w = .ok (.func fn first cap) w := fun _ _ _ _ => rfl
  go_enter Tryz.func9, Tryz.ntmps9
  go_wp2
  go_ret
  exact ⟨rfl, rfl⟩

theorem errors_New (s : ByteArray) (w : World) : Calls Tryz.prog 20 #[.string s] w fun e w' => (∃ B, e = .returned (.iface 82 (.pointer (some ⟨B, 0, none⟩)))) ∧ Below w.heap.size w w' := by
  go_enter Tryz.func20, Tryz.ntmps20
  go_wp2
  go_ret
  exact ⟨⟨_, rfl⟩, belowAlloc _ _⟩

theorem row_at {w : World} {b : Nat} {e : TypeId} {sz : Nat} {a : Option Addr} {n c : Nat} {xs : List Value} (h : w.ownsRow b e sz (.slice a n c) n xs) (hn : 0 < n) : ∃ g cur, a = some ⟨g, 0, none⟩ ∧ b ≤ g ∧ w.heap[g]? = some (.cells cur e (0, 0)) := by
  rcases h.2 with ⟨_, h0⟩ | ⟨g, cap, cur, hv, hg, hh, _⟩
  · omega
  · cases hv
    exact ⟨g, cur, rfl, hg, hh⟩

theorem row_other {w : World} {b : Nat} {e e2 : TypeId} {sz : Nat} {v : Value} {n : Nat} {xs : List Value} (h : w.ownsRow b e sz v n xs) {g : Nat} {cur : Array Value} {r : Nat × Nat} (hg : w.heap[g]? = some (.cells cur e2 r)) (hne : e ≠ e2) : v.ownBlock ≠ some g := by
  rcases h.2 with ⟨rfl, _⟩ | ⟨g', cap, cur', rfl, _, hh, _⟩
  · simp [Value.ownBlock]
  · intro e'
    have : g' = g := by simpa [Value.ownBlock] using e'
    subst this
    rw [hg] at hh
    injection hh with hh
    injection hh with _ h2 _
    exact hne h2.symm

structure HookMem (b0 B2 B : Nat) (n : Int) (nm : ByteArray) (pa : Option Addr) (nd pc : Nat) (oa : Option Addr) (no oc : Nat) (w0 w : World) : Prop where
  below : Below b0 w0 w
  box : w.heap[B2]? = some (.cells #[.string nm, .slice pa nd pc, .slice oa no oc] 25 (0, 0))
  num : w.cell? ⟨B, 0, none⟩ = some (.int .i64 n)
  deps : ∃ xs, w.ownsRow b0 9 1 (.slice pa nd pc) nd xs
  ops : ∃ us, w.ownsRow b0 53 16 (.slice oa no oc) no us

variable {b0 B2 B : Nat} {n : Int} {nm : ByteArray} {pa : Option Addr} {nd pc : Nat} {oa : Option Addr} {no oc : Nat} {w0 w : World}
theorem HookMem.cells (h : HookMem b0 B2 B n nm pa nd pc oa no oc w0 w) : w.cell? ⟨B2, 0, none⟩ = some (.string nm) ∧ w.cell? ⟨B2, 1, none⟩ = some (.slice pa nd pc) ∧ w.cell? ⟨B2, 2, none⟩ = some (.slice oa no oc) := by
  refine ⟨?_, ?_, ?_⟩ <;> simp [World.cell?, h.box]
theorem HookMem.setDep (h : HookMem b0 B2 B n nm pa nd pc oa no oc w0 w) (hB : B < b0) {g i : Nat} (hpa : pa = some ⟨g, 0, none⟩) (hi : i < nd) (v : Value) :
    (∃ u, w.cell? ⟨g, i, none⟩ = some u) ∧ w.frozen? ⟨g, i, none⟩ = false ∧ HookMem b0 B2 B n nm pa nd pc oa no oc w0 (w.setCell ⟨g, i, none⟩ v) := by
  subst hpa
  obtain ⟨xs, hx⟩ := h.deps
  obtain ⟨us, hu⟩ := h.ops
  obtain ⟨g', cur, e, hg, hh⟩ := row_at hx (by omega)
  cases e
  have h1 := hx.cellAt i (by omega)
  have hl := hx.1
  refine ⟨⟨xs[i]'(by omega), by rw [h1, List.getElem?_eq_getElem]⟩, hx.frozenAt i, h.below.setCell hg v, ?_, ?_, ⟨_, (hx.stored i v).1⟩, ⟨us, ownsRow_setCell_other hu (row_other hu hh (by decide)) v⟩⟩
  · rw [Below.heap_setCell _ _ _ _ (fun e => ?_)]
    · exact h.box
    · have := h.box
      subst e
      rw [hh] at this
      injection this with this
      injection this with _ h2 _
      exact absurd h2 (by decide)
  · rw [World.cell?_setCell_other]
    · exact h.num
    · intro e
      cases e
      omega
theorem HookMem.setOp (h : HookMem b0 B2 B n nm pa nd pc oa no oc w0 w) (hB : B < b0) {g i : Nat} (hoa : oa = some ⟨g, 0, none⟩) (hi : i < no) (v : Value) :
    (∃ u, w.cell? ⟨g, i * 16, none⟩ = some u) ∧ w.frozen? ⟨g, i * 16, none⟩ = false ∧ HookMem b0 B2 B n nm pa nd pc oa no oc w0 (w.setCell ⟨g, i * 16, none⟩ v) := by
  subst hoa
  obtain ⟨xs, hx⟩ := h.deps
  obtain ⟨us, hu⟩ := h.ops
  obtain ⟨g', cur, e, hg, hh⟩ := row_at hu (by omega)
  cases e
  have h1 := hu.cellAt (i * 16) (by omega)
  have hl := hu.1
  refine ⟨⟨us[i * 16]'(by omega), by rw [h1, List.getElem?_eq_getElem]⟩, hu.frozenAt _, h.below.setCell hg v, ?_, ?_, ⟨xs, ownsRow_setCell_other hx (row_other hx hh (by decide)) v⟩, ⟨_, (hu.stored (i * 16) v).1⟩⟩
  · rw [Below.heap_setCell _ _ _ _ (fun e => ?_)]
    · exact h.box
    · have := h.box
      subst e
      rw [hh] at this
      injection this with this
      injection this with _ h2 _
      exact absurd h2 (by decide)
  · rw [World.cell?_setCell_other]
    · exact h.num
    · intro e
      have := congrArg Addr.block e
      simp only at this
      omega

def HookEnds (n : Int) (e : Ending) : Prop := if 0 ≤ n ∧ n ≤ 18 then e = .returned (.int .i64 n) else ∃ T v, ErrK T v (toldE n) ∧ e = .panicked [{ v := .iface T v, recovered := false }]

set_option maxHeartbeats 8000000 in
theorem hook_does (b0 B : Nat) (n : Int) (nm : ByteArray) (pa : Option Addr) (nd pc : Nat) (oa : Option Addr) (no oc : Nat) (w : World) (hB : B < b0) (hb : b0 ≤ w.heap.size) (hc : w.cell? ⟨B, 0, none⟩ = some (.int .i64 n))
    (h1 : ∃ xs, w.ownsRow b0 9 1 (.slice pa nd pc) nd xs) (h2 : ∃ us, w.ownsRow b0 53 16 (.slice oa no oc) no us) (hd1 : nd < 9223372036854775808) (hd2 : no < 9223372036854775808) :
    Calls Tryz.prog 19 #[.agg #[.string nm, .slice pa nd pc, .slice oa no oc], .pointer (some ⟨B, 0, none⟩)] w fun e w' => HookEnds n e ∧ Below b0 w w' := by
  have hM0 : HookMem b0 w.heap.size B n nm pa nd pc oa no oc w (w.alloc (.cells #[.string nm, .slice pa nd pc, .slice oa no oc] 25)) := by
    refine ⟨(Below.refl b0 w).alloc hb _, ?_, ?_, h1.imp fun _ h => h.alloc _, h2.imp fun _ h => h.alloc _⟩
    · exact (MapKept.heap_alloc w _).1
    · rw [World.cell?_of_block (w := w) (Below.heap_alloc _ _ _ (by show B < _; omega))]
      exact hc
  have hpn : ∀ (T : TypeId) (v : Value) (w : World), (Instr.panic (.iface T v)).run Tryz.prog w = .halt (.panic (.iface T v)) w := fun _ _ _ => rfl
  go_enter Tryz.func19, Tryz.ntmps19
  go_wp2
  go_loopw [4] (fun x w' => HookMem b0 w.heap.size B n nm pa nd pc oa no oc w w' ∧ ∃ i : Nat, i ≤ nd ∧ x = .int .i64 i) (fun x _ => nd - (intOf x).toNat)
  case atStart => exact ⟨hM0, 0, Nat.zero_le _, rfl⟩
  case round =>
    obtain ⟨hM, i, hi, rfl⟩ := hrel
    obtain ⟨c0, c1, c2⟩ := hM.cells
    by_cases hlt : i < nd
    · have hlt' : (i : Int) < (nd : Int) := by omega
      obtain ⟨g, cur, rfl, hg, hh⟩ := row_at hM.deps.choose_spec (by omega)
      obtain ⟨⟨u, hcu⟩, hz, hM2⟩ := hM.setDep hB rfl hlt (.string ⟨#[120]⟩)
      go_wp2
      go_roundw
      case rel => exact ⟨hM2, i + 1, by omega, by push_cast; rfl⟩
      case measure => simp [intOf]; omega
    · have hlt' : ¬ (i : Int) < (nd : Int) := by omega
      go_wp2
      clear c0 c1 c2
      go_loopw [5] (fun x w' => HookMem b0 w.heap.size B n nm pa nd pc oa no oc w w' ∧ ∃ i : Nat, i ≤ no ∧ x = .int .i64 i) (fun x _ => no - (intOf x).toNat)
      case atStart => exact ⟨hM, 0, Nat.zero_le _, rfl⟩
      case round =>
        obtain ⟨hM, i, hi, rfl⟩ := hrel
        obtain ⟨c0, c1, c2⟩ := hM.cells
        by_cases hlt : i < no
        · have hlt' : (i : Int) < (no : Int) := by omega
          obtain ⟨g, cur, rfl, hg, hh⟩ := row_at hM.ops.choose_spec (by omega)
          obtain ⟨⟨u, hcu⟩, hz, hM2⟩ := hM.setOp hB rfl hlt (.int .i64 9)
          go_wp2
          go_roundw
          case rel => exact ⟨hM2, i + 1, by omega, by push_cast; rfl⟩
          case measure => simp [intOf]; omega
        · have hlt' : ¬ (i : Int) < (no : Int) := by omega
          have hcn := hM.num
          by_cases h0 : 0 ≤ n ∧ n ≤ 18
          · have he : HookEnds n (.returned (.int .i64 n)) := by unfold HookEnds; rw [if_pos h0]
            obtain ⟨h0, h18⟩ := h0
            go_wp2
            go_ret
            exact ⟨he, hM.below⟩
          · have hp : ∀ T v, ErrK T v (toldE n) → HookEnds n (.panicked [{ v := .iface T v, recovered := false }]) := fun T v h => by unfold HookEnds; rw [if_neg h0]; exact ⟨T, v, h, rfl⟩
            by_cases h2 : 19 ≤ n ∧ n ≤ 37
            · have hk : ErrK 29 (.int .i64 (n - 19)) (toldE n) := .inl ⟨rfl, n - 19, rfl, by unfold toldE; (repeat' split) <;> omega⟩
              obtain ⟨h2, h3⟩ := h2
              have hw : wrap64 (n - 19) = n - 19 := by unfold wrap64; omega
              have hn : 0 ≤ n := by omega
              have hn2 : ¬ n ≤ 18 := by omega
              clear h0
              go_wp2
              exact ⟨rfl, hp _ _ hk, hM.below⟩
            · have h0' : ¬ 0 ≤ n ∨ (0 ≤ n ∧ ¬ n ≤ 18) := by omega
              have h2' : ¬ 19 ≤ n ∨ (19 ≤ n ∧ ¬ n ≤ 37) := by omega
              by_cases h4 : n = 38
              · have hk : ErrK 9 (.string ⟨#[97, 32, 116, 101, 120, 116]⟩) (toldE n) := .inr (.inl ⟨rfl, by rw [h4]; rfl⟩)
                have he := hp _ _ hk
                clear h0 h2 h0' h2' hp hk
                subst h4
                go_wp2
                exact ⟨rfl, he, hM.below⟩
              · by_cases h5 : n = 39
                · have hk : ∀ v, ErrK 82 v (toldE n) := fun v => .inr (.inr (.inl ⟨rfl, by rw [h5]; rfl⟩))
                  have he := fun v => hp _ _ (hk v)
                  clear h0 h2 h0' h2' hp hk
                  subst h5
                  go_wp2_with (go_at_call 20; refine (errors_New _ _).mono ?_; rintro e w2 ⟨⟨B2, rfl⟩, hb2⟩)
                  exact ⟨rfl, he _, Below.trans hM.below (hb2.mono (Nat.le_trans hb hM.below.size))⟩
                · have hk : ErrK 3 (.int .i64 n) (toldE n) := .inr (.inr (.inr ⟨rfl, by unfold toldE; rw [if_neg h0, if_neg (by omega), if_neg h4, if_neg h5]⟩))
                  have he := hp _ _ hk
                  clear h0 h2 hp hk
                  rcases h0' with h0' | ⟨h0', h0''⟩ <;> rcases h2' with h2' | ⟨h2', h2''⟩
                  all_goals first
                    | (exfalso; omega)
                    | (go_wp2
                       exact ⟨rfl, he, hM.below⟩)
end Go.Proofs.W
