/- A PART OF THE PROOF THAT ONE CALL OF A LAW OF LAYER 46 (which of any patches have a line with any word) returns true, whatever the input; the input reads as it did. No condition beyond the given statement. This part: WFind. -/
import Derived.Test.YtklmbhogclaieaaGreatDoorWSetR
import Derived.Test.YtklmbhogclaieaaGreatDoorWSet
import Derived.Test.YtklmbhogclaieaaGreatDoorWPatch
import Derived.Test.YtklmbhogclaieaaGreatDoorWShelf
import Derived.Lib.IndexMore
import Derived.Lib.IndexLaws
import Derived.Test.YtklmbhogclaieaaGreatDoorWHead
import Derived.Shelf.SlicesQ.Load
import Derived.Test.YtklmbhogclaieaaGreatDoorAwLT
import Derived.Test.YtklmbhogclaieaaGreatDoorWLightP
namespace Go.Proofs.W
open Go Go.Proofs Go.RowKit
set_option maxRecDepth 1000000

/-- does a word stand within a text? -/
def withinB (s word : ByteArray) : Bool := Lib.contains s.data.toList word.data.toList

theorem occ_iff (s word : ByteArray) (i : Nat) : Lib.occAt s.data.toList word.data.toList i = ((s.extract i (i + word.size)).toList == word.toList) := by
  have e : (s.extract i (i + word.size)).toList = (s.data.toList.drop i).take word.size := by
    rw [ByteArray.toList_eq, ByteArray.data_extract, Array.toList_extract, List.extract_eq_take_drop]
    congr 1
    omega
  rw [e, ByteArray.toList_eq]
  unfold Lib.occAt
  have hl : word.data.toList.length = word.size := by simp
  rw [Bool.eq_iff_iff, List.isPrefixOf_iff_prefix, beq_iff_eq]
  constructor
  · intro h1
    obtain ⟨t, ht⟩ := h1
    rw [← ht, ← hl, List.take_left']
    rfl
  · intro h1
    rw [← h1]
    exact List.take_prefix _ _

set_option maxHeartbeats 8000000 in
theorem R46_Within (s word : ByteArray) (w : World) (hs : s.size < 4294967281) (hw : word.size < 4294967281) :
    Calls Tryz.prog 18 #[.string s, .string word] w fun e w' => e = .returned (.bool (withinB s word)) ∧ w' = w := by
  obtain ⟨R, hR⟩ : ∃ R, withinB s word = R := ⟨_, rfl⟩
  rw [hR]
  unfold withinB Lib.contains at hR
  go_enter Tryz.func18, Tryz.ntmps18
  go_wp2
  go_loop [5] (fun x => ∃ i : Nat, i ≤ s.size + 1 ∧ x = .int .i64 i ∧ ∀ j, j < i → j + word.size ≤ s.size ∧ Lib.occAt s.data.toList word.data.toList j = false) (fun x => s.size + 1 - (intOf x).toNat)
  case atStart => exact ⟨0, Nat.zero_le _, rfl, fun j hj => absurd hj (Nat.not_lt_zero _)⟩
  case round =>
    obtain ⟨i, hi, rfl, hno⟩ := hrel
    have hwr : IntKind.i64.wrap ((i : Int) + (word.size : Int)) = (i : Int) + (word.size : Int) := by simp [IntKind.wrap, IntKind.bits, IntKind.signed]; omega
    by_cases hlt : i + word.size ≤ s.size
    · have hlt' : (i : Int) + (word.size : Int) ≤ (s.size : Int) := by omega
      have hnn0 : (0 : Int) ≤ (i : Int) := by omega
      have hoc := occ_iff s word i
      have hij : (i : Int) ≤ (i : Int) + (word.size : Int) := by omega
      have htn : ((i : Int) + (word.size : Int)).toNat = i + word.size := by omega
      cases hq : ((s.extract i (i + word.size)).toList == word.toList) with
      | true =>
        go_wp2
        go_ret
        refine ⟨?_, rfl⟩
        rw [hq] at hoc
        have hx := Lib.index_first (s := s.data.toList) (sub := word.data.toList) (i := i) (by simp; omega) hoc (fun j hj => (hno j hj).2)
        rw [hx] at hR
        rw [← hR, decide_eq_true hnn0]
        rfl
      | false =>
        go_wp2
        go_round
        case rel => exact ⟨i + 1, by omega, by push_cast; rfl, fun j hj => by
          by_cases e : j = i
          · subst e; exact ⟨hlt, hoc.trans hq⟩
          · exact hno j (by omega)⟩
        case measure => simp [intOf]; omega
    · have hlt' : ¬ (i : Int) + (word.size : Int) ≤ (s.size : Int) := by omega
      go_wp2
      go_ret
      refine ⟨?_, rfl⟩
      have hx : Lib.index s.data.toList word.data.toList = -1 := by
        by_cases hw0 : word.data.toList = []
        · have hz : word.size = 0 := by
            have : word.data.toList.length = word.size := by simp
            rw [hw0] at this; simpa using this.symm
          have := (hno 0 (by omega)).2
          rw [hw0] at this
          simp [Lib.occAt] at this
        · exact Lib.index_past hw0 (i := i) (fun j hj => (hno j hj).2) (by simp; omega)
      rw [hx] at hR
      rw [← hR]
      rfl
end Go.Proofs.W
namespace Go.Proofs.W
open Go Go.Proofs Go.RowKit
set_option maxRecDepth 1000000

theorem fword_enters : ∀ args w, (callFunc 62 args).run Tryz.prog w = .ok (.enter 62 args) w := enters_of Tryz.func62 (by kernel_rfl) rfl

set_option maxHeartbeats 4000000 in
theorem fword_index (q : ByteArray → Bool) (c0 : Value) (a : Option Addr) (c : Nat) (xs : List ByteArray) (w : World) (hsay : ∀ (W : World) (x : ByteArray), Below w.heap.size w W → x ∈ xs → Calls Tryz.prog 62 #[.string x, c0] W fun e W' => e = .returned (.bool (q x)) ∧ Below W.heap.size W W') (h : TextsH w a xs) (hlen : xs.length < 9223372036854775808) :
    Calls Tryz.prog 123 #[.slice a xs.length c, .func (.func 62) #[] #[c0]] w fun e w' => IxSays (xs.any q) e ∧ Below w.heap.size w w' := by
  have hent := fword_enters
  go_enter Tryz.func123, Tryz.ntmps123
  go_wp2
  go_loopw [8] (fun x w' => Below w.heap.size w w' ∧ ∃ i : Nat, i ≤ xs.length ∧ x = .int .i64 i ∧ ∀ j d, j < i → xs[j]? = some d → q d = false) (fun x _ => xs.length - (intOf x).toNat)
  case atStart => exact ⟨Below.refl _ w, 0, Nat.zero_le _, rfl, fun j d hj => absurd hj (Nat.not_lt_zero _)⟩
  case round =>
    obtain ⟨hB, i, hi, rfl, hno⟩ := hrel
    by_cases hlt : i < xs.length
    · obtain ⟨b, o, rfl, hN⟩ : ∃ b o, a = some ⟨b, o, none⟩ ∧ TextsAt w b o xs := h.resolve_left (by omega)
      have hd : xs[i]? = some xs[i] := List.getElem?_eq_getElem hlt
      have hmem : xs[i] ∈ xs := List.getElem_mem hlt
      obtain ⟨X, hX⟩ : ∃ X, xs[i] = X := ⟨_, rfl⟩
      rw [hX] at hd hmem
      have c0 := (hN.below hB).cell i _ hd
      have hlt' : (i : Int) < (xs.length : Int) := by omega
      have hnn : ¬ (i : Int) < 0 := by omega
      have hnn0 : (0 : Int) ≤ (i : Int) := by omega
      have hcall := hsay wr X hB hmem
      cases hqi : q X with
      | true =>
        rw [hqi] at hcall
        go_wp2_with (go_at_fn 62; refine hcall.mono ?_; rintro e w' ⟨rfl, hb'⟩)
        go_ret
        refine ⟨⟨_, rfl, ?_⟩, belowTrans hB hb'⟩
        have h1 : xs.any q = true := List.any_eq_true.2 ⟨X, hmem, hqi⟩
        rw [h1]
        exact decide_eq_true hnn0
      | false =>
        rw [hqi] at hcall
        go_wp2_with (go_at_fn 62; refine hcall.mono ?_; rintro e w' ⟨rfl, hb'⟩)
        go_roundw
        case rel => exact ⟨belowTrans hB hb', i + 1, by omega, by push_cast; rfl, fun j d hj hd2 => by
          by_cases e : j = i
          · subst e; rw [hd] at hd2; obtain rfl := Option.some.inj hd2; exact hqi
          · exact hno j d (by omega) hd2⟩
        case measure => simp [intOf]; omega
    · have hlt' : ¬ (i : Int) < (xs.length : Int) := by omega
      go_wp2
      go_ret
      refine ⟨⟨_, rfl, ?_⟩, hB⟩
      have h1 : xs.any q = false := List.any_eq_false.2 fun x hx => by
        obtain ⟨j, hj, rfl⟩ := List.getElem_of_mem hx
        rw [hno j _ (by omega) (List.getElem?_eq_getElem hj)]
        exact Bool.false_ne_true
      rw [h1]
      rfl

set_option maxHeartbeats 4000000 in
theorem fword_contains (q : ByteArray → Bool) (c0 : Value) (a : Option Addr) (c : Nat) (xs : List ByteArray) (w : World) (hsay : ∀ (W : World) (x : ByteArray), Below w.heap.size w W → x ∈ xs → Calls Tryz.prog 62 #[.string x, c0] W fun e W' => e = .returned (.bool (q x)) ∧ Below W.heap.size W W') (h : TextsH w a xs) (hlen : xs.length < 9223372036854775808) :
    Calls Tryz.prog 55 #[.slice a xs.length c, .func (.func 62) #[] #[c0]] w fun e w' => e = .returned (.bool (xs.any q)) ∧ Below w.heap.size w w' := by
  have hcon := fword_index q c0 a c xs w hsay h hlen
  go_enter Tryz.func55, Tryz.ntmps55
  go_wp2_with (go_at_call 123; refine hcon.mono ?_; rintro e w' ⟨⟨i, rfl, hi⟩, hb'⟩)
  go_ret
  exact ⟨by rw [← hi]; rfl, hb'⟩
end Go.Proofs.W
namespace Go.Proofs.W
open Go Go.Proofs Go.RowKit
set_option maxRecDepth 1000000

theorem fop_enters : ∀ args w, (callFunc 61 args).run Tryz.prog w = .ok (.enter 61 args) w := enters_of Tryz.func61 (by kernel_rfl) rfl

set_option maxHeartbeats 8000000 in
theorem fop_index (q : OpV → Bool) (c0 : Value) (a : Option Addr) (c : Nat) (xs : List OpV) (w : World) (hsay : ∀ (W : World) (X : OpV), Below w.heap.size w W → X ∈ xs → IdsH W X.da X.dels → TextsH W X.la X.lines → Calls Tryz.prog 61 #[.agg #[.int .i64 X.kind, .string X.self.p, .int .i64 X.self.n, .string X.parent.p, .int .i64 X.parent.n, .string X.to.p, .int .i64 X.to.n, .string X.name, .string X.toName, .string X.left.p, .int .i64 X.left.n, .string X.right.p, .int .i64 X.right.n, .slice X.da X.dels.length X.dc, .int .i64 X.first, .slice X.la X.lines.length X.lc], c0] W fun e W' => e = .returned (.bool (q X)) ∧ Below W.heap.size W W') (h : OpsH w a xs) (hlen : xs.length < 9223372036854775808) :
    Calls Tryz.prog 130 #[.slice a xs.length c, .func (.func 61) #[] #[c0]] w fun e w' => IxSays (xs.any q) e ∧ Below w.heap.size w w' := by
  have hent := fop_enters
  go_enter Tryz.func130, Tryz.ntmps130
  go_wp2
  go_loopw [8] (fun x w' => Below w.heap.size w w' ∧ ∃ i : Nat, i ≤ xs.length ∧ x = .int .i64 i ∧ ∀ j d, j < i → xs[j]? = some d → q d = false) (fun x _ => xs.length - (intOf x).toNat)
  case atStart => exact ⟨Below.refl _ w, 0, Nat.zero_le _, rfl, fun j d hj => absurd hj (Nat.not_lt_zero _)⟩
  case round =>
    obtain ⟨hB, i, hi, rfl, hno⟩ := hrel
    by_cases hlt : i < xs.length
    · obtain ⟨b, o, rfl, hN⟩ : ∃ b o, a = some ⟨b, o, none⟩ ∧ OpsAt w b o xs := h.resolve_left (by omega)
      have hd : xs[i]? = some xs[i] := List.getElem?_eq_getElem hlt
      have hmem : xs[i] ∈ xs := List.getElem_mem hlt
      obtain ⟨X, hX⟩ : ∃ X, xs[i] = X := ⟨_, rfl⟩
      rw [hX] at hd hmem
      obtain ⟨c0, c1, c2, c3, c4, c5, c6, c7, c8, c9, d0, d1, d2, d3, d4, d5⟩ := (hN.below hB).cell i _ hd
      obtain ⟨hids, htx, hdl, hll⟩ := (hN.below hB).sub i _ hd
      have hlt' : (i : Int) < (xs.length : Int) := by omega
      have hnn : ¬ (i : Int) < 0 := by omega
      have hnn0 : (0 : Int) ≤ (i : Int) := by omega
      have hcall := hsay wr X hB hmem hids htx
      cases hqi : q X with
      | true =>
        rw [hqi] at hcall
        go_wp2_with (go_at_fn 61; refine hcall.mono ?_; rintro e w' ⟨rfl, hb'⟩)
        go_ret
        refine ⟨⟨_, rfl, ?_⟩, belowTrans hB hb'⟩
        have h1 : xs.any q = true := List.any_eq_true.2 ⟨X, hmem, hqi⟩
        rw [h1]
        exact decide_eq_true hnn0
      | false =>
        rw [hqi] at hcall
        go_wp2_with (go_at_fn 61; refine hcall.mono ?_; rintro e w' ⟨rfl, hb'⟩)
        go_roundw
        case rel => exact ⟨belowTrans hB hb', i + 1, by omega, by push_cast; rfl, fun j d hj hd2 => by
          by_cases e : j = i
          · subst e; rw [hd] at hd2; obtain rfl := Option.some.inj hd2; exact hqi
          · exact hno j d (by omega) hd2⟩
        case measure => simp [intOf]; omega
    · have hlt' : ¬ (i : Int) < (xs.length : Int) := by omega
      go_wp2
      go_ret
      refine ⟨⟨_, rfl, ?_⟩, hB⟩
      have h1 : xs.any q = false := List.any_eq_false.2 fun x hx => by
        obtain ⟨j, hj, rfl⟩ := List.getElem_of_mem hx
        rw [hno j _ (by omega) (List.getElem?_eq_getElem hj)]
        exact Bool.false_ne_true
      rw [h1]
      rfl

set_option maxHeartbeats 4000000 in
theorem fop_contains (q : OpV → Bool) (c0 : Value) (a : Option Addr) (c : Nat) (xs : List OpV) (w : World) (hsay : ∀ (W : World) (X : OpV), Below w.heap.size w W → X ∈ xs → IdsH W X.da X.dels → TextsH W X.la X.lines → Calls Tryz.prog 61 #[.agg #[.int .i64 X.kind, .string X.self.p, .int .i64 X.self.n, .string X.parent.p, .int .i64 X.parent.n, .string X.to.p, .int .i64 X.to.n, .string X.name, .string X.toName, .string X.left.p, .int .i64 X.left.n, .string X.right.p, .int .i64 X.right.n, .slice X.da X.dels.length X.dc, .int .i64 X.first, .slice X.la X.lines.length X.lc], c0] W fun e W' => e = .returned (.bool (q X)) ∧ Below W.heap.size W W') (h : OpsH w a xs) (hlen : xs.length < 9223372036854775808) :
    Calls Tryz.prog 64 #[.slice a xs.length c, .func (.func 61) #[] #[c0]] w fun e w' => e = .returned (.bool (xs.any q)) ∧ Below w.heap.size w w' := by
  have hcon := fop_index q c0 a c xs w hsay h hlen
  go_enter Tryz.func64, Tryz.ntmps64
  go_wp2_with (go_at_call 130; refine hcon.mono ?_; rintro e w' ⟨⟨i, rfl, hi⟩, hb'⟩)
  go_ret
  exact ⟨by rw [← hi]; rfl, hb'⟩
end Go.Proofs.W
namespace Go.Proofs.W
open Go Go.Proofs Go.RowKit
open Go.Proofs.Wc (HasM)
set_option maxRecDepth 1000000

set_option maxHeartbeats 4000000 in
theorem find11 (s word : ByteArray) (B : Nat) (w : World) (hc : w.cell? ⟨B, 0, none⟩ = some (.string word)) (hs : s.size < 4294967281) (hm : HasM w) :
    Calls Tryz.prog 62 #[.string s, .pointer (some ⟨B, 0, none⟩)] w fun e w' => e = .returned (.bool (withinB s word)) ∧ w' = w := by
  obtain ⟨m, hm1, hm2⟩ := hm
  have hcon := Tryz.strings_Contains s word m w hs hm1
  go_enter Tryz.func62, Tryz.ntmps62
  go_wp2_with (go_at_call 63; refine hcon.mono ?_; rintro e w' ⟨rfl, rfl⟩)
  go_ret
  exact ⟨rfl, rfl⟩

def hasW (word : ByteArray) (d : OpV) : Bool := d.lines.any fun s => withinB s word

set_option maxHeartbeats 4000000 in
theorem find1 (X : OpV) (word : ByteArray) (B : Nat) (w : World) (hc : w.cell? ⟨B, 0, none⟩ = some (.string word)) (htx : TextsH w X.la X.lines) (hll : X.lines.length < 9223372036854775808) (hsz : ∀ s ∈ X.lines, s.size ≤ 300) (hm : HasM w) :
    Calls Tryz.prog 61 #[.agg #[.int .i64 X.kind, .string X.self.p, .int .i64 X.self.n, .string X.parent.p, .int .i64 X.parent.n, .string X.to.p, .int .i64 X.to.n, .string X.name, .string X.toName, .string X.left.p, .int .i64 X.left.n, .string X.right.p, .int .i64 X.right.n, .slice X.da X.dels.length X.dc, .int .i64 X.first, .slice X.la X.lines.length X.lc], .pointer (some ⟨B, 0, none⟩)] w
      fun e w' => e = .returned (.bool (hasW word X)) ∧ Below w.heap.size w w' := by
  have hmf : ∀ (fn : Fn) (first cap : Array Value) (w : World), (Instr.makeFunc fn first cap).run Tryz.prog w = .ok (.func fn first cap) w := fun _ _ _ _ => rfl
  have hBl : B < w.heap.size := World.block_lt_of_cell? w _ hc
  go_enter Tryz.func61, Tryz.ntmps61
  go_wp2_with fail
  refine (fword_contains (fun s => withinB s word) (.pointer (some ⟨B, 0, none⟩)) X.la X.lc X.lines _ (fun W x hb hx => ?_) (htx.below (belowAlloc _ _)) hll).mono ?_
  · have hb2 := belowTrans (belowAlloc w _) hb
    refine (find11 x word B W ((World.cell?_of_block (hb2.block B hBl)).trans hc) (by have := hsz x hx; omega) (hm.below hb2)).mono fun e w' ⟨h1, h2⟩ => ⟨h1, by rw [h2]; exact Below.refl _ _⟩
  · rintro e w' ⟨rfl, hb'⟩
    go_wp2
    go_ret
    exact ⟨rfl, belowTrans (belowAlloc w _) hb'⟩
end Go.Proofs.W
namespace Go.Proofs.W
open Go Go.Proofs Go.RowKit
open Go.Proofs.Wc (HasM)
set_option maxRecDepth 1000000

def hasP (word : ByteArray) (p : PatchV) : Bool := p.ops.any (hasW word)
def found1 (word : ByteArray) (p : PatchV) : List ByteArray := if hasP word p then [p.name] else []
def foundB (word : ByteArray) (ps : List PatchV) : List ByteArray := ps.flatMap (found1 word)
theorem foundB_take (word : ByteArray) (ps : List PatchV) (i : Nat) (h : i < ps.length) : foundB word (ps.take (i + 1)) = foundB word (ps.take i) ++ found1 word ps[i] := by
  unfold foundB
  rw [List.take_succ_eq_append_getElem h, List.flatMap_append]
  simp
theorem foundB_length (word : ByteArray) : ∀ ps : List PatchV, (foundB word ps).length ≤ ps.length
  | [] => by simp [foundB]
  | x :: r => by
    have := foundB_length word r
    unfold foundB at this ⊢
    rw [List.flatMap_cons, List.length_append]
    have h1 : (found1 word x).length ≤ 1 := by unfold found1; split <;> simp
    simp only [List.length_cons]
    omega

theorem lines_small {X : PatchV} (h : PatchLight X) {o : OpV} (ho : o ∈ X.ops) : ∀ s ∈ o.lines, s.size ≤ 300 := fun s hs => by
  obtain ⟨j, hj, rfl⟩ := List.getElem_of_mem ho
  obtain ⟨k, hk, rfl⟩ := List.getElem_of_mem hs
  exact ((h.2.2.2.2.2 j _ (List.getElem?_eq_getElem hj)).2).2 k _ (List.getElem?_eq_getElem hk)

set_option maxHeartbeats 8000000 in
theorem log_Find (a : Option Addr) (c : Nat) (ps : List PatchV) (word : ByteArray) (w : World) (h : PatchesH w a ps) (hli : PatchesLight ps) (hm : HasM w) :
    Calls Tryz.prog 19 #[.slice a ps.length c, .string word] w fun e w' => (∃ v', e = .returned v' ∧ TextNew w.heap.size w' v' (setB (foundB word ps))) ∧ Below w.heap.size w w' := by
  obtain ⟨hl20, hpl⟩ := hli
  have hmf : ∀ (fn : Fn) (first cap : Array Value) (w : World), (Instr.makeFunc fn first cap).run Tryz.prog w = .ok (.func fn first cap) w := fun _ _ _ _ => rfl
  go_enter Tryz.func19, Tryz.ntmps19
  go_wp2
  have hb0 := belowAlloc w (.cells #[.string word] 9)
  have hc0 : (w.alloc (.cells #[.string word] 9)).cell? ⟨w.heap.size, 0, none⟩ = some (.string word) := by rw [cell_newBlock]; rfl
  have hs0 : (w.alloc (.cells #[.string word] 9)).heap.size = w.heap.size + 1 := by simp
  obtain ⟨W1, hW1⟩ : ∃ W1, w.alloc (.cells #[.string word] 9) = W1 := ⟨_, rfl⟩
  rw [hW1] at hb0 hc0 hs0 ⊢
  go_loopw [6, 12] (fun sv iv w' => Below W1.heap.size W1 w' ∧ ∃ i : Nat, i ≤ ps.length ∧ iv = .int .i64 i ∧ OwnT W1.heap.size w' sv (foundB word (ps.take i))) (fun _ iv _ => ps.length - (intOf iv).toNat)
  case atStart => exact ⟨Below.refl _ _, 0, Nat.zero_le _, rfl, OwnT.nil _ _⟩
  case round =>
    obtain ⟨hB, i, hi, rfl, hown⟩ := hrel
    have hBw := belowTrans hb0 hB
    by_cases hlt : i < ps.length
    · obtain ⟨b, o, rfl, hN⟩ : ∃ b o, a = some ⟨b, o, none⟩ ∧ PatchesAt w b o ps := h.resolve_left (by omega)
      have hd : ps[i]? = some ps[i] := List.getElem?_eq_getElem hlt
      obtain ⟨c0, c1, c2⟩ := (hN.below hBw).cell i _ hd
      obtain ⟨s1, s2, s3, s4⟩ := (hN.below hBw).sub i _ hd
      have hlt' : (i : Int) < (ps.length : Int) := by omega
      have hnn : ¬ (i : Int) < 0 := by omega
      have hnn0 : (0 : Int) ≤ (i : Int) := by omega
      have hfx := foundB_take word ps i hlt
      have hfl := foundB_length word (ps.take i)
      have hpX := hpl i _ hd
      generalize ps[i] = X at c0 c1 c2 s1 s2 s3 s4 hd hfx hpX
      have hcw : wr.cell? ⟨w.heap.size, 0, none⟩ = some (.string word) := (World.cell?_of_block (hB.block w.heap.size (by omega))).trans hc0
      have htl : (ps.take i).length ≤ ps.length := by rw [List.length_take]; omega
      have hsz := hB.size
      generalize foundB word (ps.take i) = Q at hown hfx hfl
      unfold found1 at hfx
      have hcon : ∀ x, Calls Tryz.prog 64 #[.slice X.oa X.ops.length X.oc, .func (.func 61) #[] #[.pointer (some ⟨w.heap.size, 0, none⟩)]] (wr.alloc x) fun e w' => e = .returned (.bool (hasP word X)) ∧ Below (wr.alloc x).heap.size (wr.alloc x) w' := fun x => by
        refine fop_contains (hasW word) (.pointer (some ⟨w.heap.size, 0, none⟩)) X.oa X.oc X.ops _ (fun W o hb ho hi1 hi2 => ?_) (s2.below (belowAlloc _ _)) s4
        have hb2 := belowTrans (belowAlloc wr x) hb
        refine find1 o word w.heap.size W ((World.cell?_of_block (hb2.block w.heap.size (by omega))).trans hcw) hi2 ?_ (lines_small hpX ho) (hm.below (belowTrans hBw hb2))
        obtain ⟨j, hj, rfl⟩ := List.getElem_of_mem ho
        have := ((hpX.2.2.2.2.2 j _ (List.getElem?_eq_getElem hj)).2).1
        omega
      cases hq : hasP word X with
      | false =>
        have hres : foundB word (ps.take (i + 1)) = Q := by rw [hfx, hq]; simp
        rw [hq] at hcon
        go_wp2_with (go_at_call 64; refine (hcon _).mono ?_; rintro e w2 ⟨rfl, hb2⟩)
        have hb3 := belowTrans (belowAlloc wr _) hb2
        go_roundw
        case rel => exact ⟨belowTrans hB hb3, i + 1, by omega, by push_cast; rfl, by rw [hres]; exact hown.kept hb3⟩
        case measure => simp [intOf]; omega
      | true =>
        have hres : foundB word (ps.take (i + 1)) = Q ++ [X.name] := by rw [hfx, hq]; simp
        rw [hq] at hcon
        go_wp2_with (first
          | (go_at_call 64; refine (hcon _).mono ?_; rintro e w2 ⟨rfl, hb2⟩; have hb3 := belowTrans (belowAlloc wr _) hb2; have hcn : w2.cell? ⟨wr.heap.size, 0, none⟩ = some (.string X.name) := (World.cell?_of_block (hb2.block wr.heap.size (by simp))).trans (cell_newBlock wr _ _ 0))
          | (at_builtin; refine wpList_append_texts _ rfl (.tmp 20) (.tmp 23) rfl W1.heap.size _ Q rfl ((hown.kept hb3).kept (belowAlloc _ _)) _ [X.name] rfl (srcOne _ _ _) ?len ?base ?_))
        case len => simp; omega
        case base => have := hb3.size; simp; omega
        intro v1 w3 hown1 hg1
        have hb4 := belowGrown (belowTrans (belowTrans hB hb3) (belowAlloc _ _)) (Nat.le_refl _) (by have := hb3.size; simp; omega) ((hown.kept hb3).kept (belowAlloc _ _)) hg1
        go_wp2
        go_roundw
        case rel => exact ⟨hb4, i + 1, by omega, by push_cast; rfl, by rw [hres, hs0]; exact hown1⟩
        case measure => simp [intOf]; omega
    · have hlt' : ¬ (i : Int) < (ps.length : Int) := by omega
      obtain rfl : i = ps.length := by omega
      rw [List.take_length] at hown
      have hfl := foundB_length word ps
      have hset := name_Set _ _ wr hown.sl (by omega)
      go_wp2_with (go_at_call 54; refine hset.mono ?_; rintro e w' ⟨⟨v', rfl, hv'⟩, hb'⟩)
      go_ret
      exact ⟨⟨_, rfl, TextNew.mono hv' hBw.size⟩, belowTrans hBw hb'⟩
end Go.Proofs.W
