/- A PART OF THE PROOF THAT SAVETEXTS HOLDS FOR EVERY INPUT OF BULK AT MOST 1048576. No condition beyond the given statement. This part: WHead. -/
import Derived.Test.YtciahohaonhdgaaGreatDoorProg
import Derived.Tactics
import Derived.Tactics2
import Derived.StillTactics
import Derived.Laws.AppendOwn
import Derived.Laws.AppendOwnNone
import Derived.Laws.CopyRow
import Derived.Laws.Rows
import Derived.Laws.Tables
import Derived.Laws.NewBlocks
import Derived.Laws.Unary
import Derived.Laws.Strings
import Derived.Laws.Strings2
import Derived.Laws.Wrap64
import Derived.Laws.RangeString
import Derived.Laws.Concat
import Derived.Laws.Cells
import Derived.Laws.Pointers
import Derived.Laws.StructEq
import Derived.Laws.StandIn
import Derived.Laws.ByValue
import Derived.Laws.Externs
import Derived.Laws.OwnMore
import Derived.Laws.Build
import Derived.Laws.ResultCell
import Derived.Laws.Entries
import Derived.Laws.Append
import Derived.Laws.World
import Derived.Laws.Strings3
import Derived.Laws.Sem
import Derived.Laws.Slices
import Derived.Laws.MakeOwn
import Derived.Laws.Small
import Derived.Scope
import Derived.FnLit
import Derived.LoopTactic
import Derived.LoopN
import Derived.Lib.SliceRun
import Derived.Deep.RegionHeld3
import Derived.Deep.QuietTactic
import Derived.BigQuiet
import Derived.WalkKit
import Derived.WideShapes
import Derived.Shelf.Abstract
import Derived.OneCell
import Derived.Lib.AppendZerosOnto
import Derived.Lib.Overlaps
namespace Go.Proofs.W
open Go Go.Proofs Go.RowKit Go.WideShapes
set_option maxRecDepth 1000000
theorem belowTrans {w w1 w2 : World} (h1 : Below w.heap.size w w1) (h2 : Below w1.heap.size w1 w2) : Below w.heap.size w w2 :=
 ⟨h2.os.trans h1.os, h2.tape.trans h1.tape, h2.output.trans h1.output, Nat.le_trans h1.size h2.size, fun b hb => (h2.block b (Nat.lt_of_lt_of_le hb h1.size)).trans (h1.block b hb)⟩
theorem belowAlloc (w : World) (x : Obj) : Below w.heap.size w (w.alloc x) := ⟨rfl, rfl, rfl, by simp, fun b hb => by
 show (w.heap.push x)[b]? = _
 rw [Array.getElem?_push_lt hb, Array.getElem?_eq_getElem hb]⟩
theorem belowDrew (w : World) (k : Nat) : Below w.heap.size w (w.drewN k) := ⟨rfl, rfl, rfl, Nat.le_refl _, fun _ _ => rfl⟩
theorem belowDrew1 (w : World) : Below w.heap.size w w.drew := ⟨rfl, rfl, rfl, Nat.le_refl _, fun _ _ => rfl⟩
theorem cell_newBlock (w : World) (cs : Array Value) (t : TypeId) (i : Nat) : (w.alloc (.cells cs t)).cell? ⟨w.heap.size, i, none⟩ = cs[i]? := by
 have h : (w.alloc (.cells cs t)).heap[w.heap.size]? = some (.cells cs t (0, 0)) := by
  show (w.heap.push _)[w.heap.size]? = _
  simp
 unfold World.cell?
 simp only [h]
 rfl
theorem toList_eq_iff (a b : ByteArray) : (a.toList == b.toList) = decide (a = b) := by
 rw [ByteArray.toList_eq, ByteArray.toList_eq]
 by_cases h : a = b
 ·subst h; simp
 ·have : ¬ a.data.toList = b.data.toList := fun e => h (Go.WideShapes.bytes_inj e)
  rw [decide_eq_false h]
  simpa using this
structure TextsAt (w : World) (b o : Nat) (xs : List ByteArray) : Prop where
 lt : b < w.heap.size
 cell : ∀ (j : Nat) (x : ByteArray), xs[j]? = some x → w.cell? ⟨b, o + j, none⟩ = some (.string x)
theorem TextsAt.keep {w w' : World} {b o : Nat} {xs : List ByteArray} (h : TextsAt w b o xs) (hs : b < w'.heap.size) (hb : w'.heap[b]? = w.heap[b]?) : TextsAt w' b o xs :=
 ⟨hs, fun j d hd => by rw [World.cell?_of_block hb]; exact h.cell j d hd⟩
theorem TextsAt.below {w w' : World} {b o : Nat} {xs : List ByteArray} (h : TextsAt w b o xs) (hb : Below w.heap.size w w') : TextsAt w' b o xs :=
 h.keep (Nat.lt_of_lt_of_le h.lt hb.size) (hb.block b h.lt)
theorem textsAt_new (w : World) (xs : List ByteArray) (t : TypeId) : TextsAt (w.alloc (.cells (xs.map Value.string).toArray t)) w.heap.size 0 xs :=
 ⟨by simp, fun j x hx => by rw [cell_newBlock]; simp [hx]⟩
def TextsH (w : World) (a : Option Addr) (xs : List ByteArray) : Prop := xs.length = 0 ∨ ∃ b o, a = some ⟨b, o, none⟩ ∧ TextsAt w b o xs
theorem TextsH.below {w w' : World} {a : Option Addr} {xs : List ByteArray} (h : TextsH w a xs) (hb : Below w.heap.size w w') : TextsH w' a xs := by
 rcases h with h | ⟨b, o, h1, h2⟩
 ·exact .inl h
 ·exact .inr ⟨b, o, h1, h2.below hb⟩
end Go.Proofs.W
namespace Go.Proofs.W
open Go Go.Proofs Go.RowKit
set_option maxRecDepth 1000000
theorem wpList_append_src {P : Program} (w : World) {ops : Array Oper} {rest : List Oper} {o : Oper} {a : Act} {Q : Exit → Act → World → Prop} (hgd : o.guard = none) (s x : Operand) (t : TypeId)
  (ho : o.op = .call { callee := .builtin .append, args := #[s, x], argTypes := #[t, t] })
  (base : Nat) (e : TypeId) (i : TypeInfo) (z : Value) (size bytes : Nat) (ht : P.underlying t = some (.slice e)) (hi : P.info? e = some i) (hz : i.zero = some z)
  (hsize : i.size = size) (hby : i.bytes = bytes) (hzs : z.cells.size = size) (hsz : 0 < size)
  (v : Value) (n : Nat) (xs : List Value) (hs : a.eval s = v) (hown : w.ownsRow base e size v n xs)
  (vx : Value) (m : Nat) (news : List Value) (hx : a.eval x = vx)
  (hsrc : (vx = .slice none 0 0 ∧ m = 0 ∧ news = []) ∨ ∃ ad c, vx = .slice (some ad) m c ∧ news.length = m * size ∧ ∀ j u, news[j]? = some u → w.cell? (ad.add j) = some u) (h1 : ∀ u ∈ news, u.oneCell' = true)
  (h63 : n + m ≤ maxLen) (hbytes : (n + m) * bytes ≤ 140737488355328) (hbase : base ≤ w.heap.size)
  (h : ∀ v' w', w'.ownsRow base e size v' (n + m) (xs ++ news) → w.grownBy w' v.ownBlock → (v' = .slice none 0 0 ↔ v = .slice none 0 0 ∧ m = 0) → wpList P ops Q rest (a.put o.dst v') w') : wpList P ops Q (o :: rest) a w := by
 rcases hsrc with ⟨rfl, rfl, rfl⟩ | ⟨ad, c, rfl, hl, hc⟩
 ·refine wpList_append_own_none hgd s x t ho base e i size ht hi v n xs hs hown hx ?_
  exact h v w (by simpa using hown) (World.grownBy.refl w _) ⟨fun e => ⟨e, rfl⟩, fun e => e.1⟩
 ·exact wpList_append_own w hgd s x t ho base e i z size bytes ht hi hz hsize hby hzs hsz v n xs hs hown ad m c news hx hl hc h1 h63 hbytes hbase h
theorem info9 : ∃ i, Tryz.prog.info? 9 = some i ∧ i.zero = some (.string ⟨#[]⟩) ∧ i.size = 1 ∧ i.bytes = 16 := info_parts (show (Tryz.prog.info? 9).map (fun i => (i.zero, i.size, i.bytes)) = some (some (.string ⟨#[]⟩), 1, 16) by kernel_rfl)
theorem under_texts : Tryz.prog.underlying 54 = some (.slice 9) := Tryz.underlying54
def IxSays (p : Bool) (e : Ending) : Prop := ∃ i : Int, e = .returned (.int .i64 i) ∧ decide (i ≥ 0) = p
def OwnT (base : Nat) (w : World) (v : Value) (xs : List ByteArray) : Prop := w.ownsRow base 9 1 v xs.length (xs.map Value.string)
def SrcT (w : World) (vx : Value) (ys : List ByteArray) : Prop := (vx = .slice none 0 0 ∧ ys = []) ∨ ∃ ad c, vx = .slice (some ad) ys.length c ∧ ∀ j x, ys[j]? = some x → w.cell? (ad.add j) = some (.string x)
theorem ownT_lit0 (w : World) (base n : Nat) (hn : n = w.heap.size) (hb : base ≤ w.heap.size) : OwnT base (w.alloc (.cells #[] 9)) (.slice (some ⟨n, 0, none⟩) 0 0) [] := by
 subst hn
 exact World.ownsRow_lit w #[] 0 hb (Nat.zero_le _) rfl
theorem wpList_append_texts (w : World) {ops : Array Oper} {rest : List Oper} {o : Oper} {a : Act} {Q : Exit → Act → World → Prop} (hgd : o.guard = none) (s x : Operand)
  (ho : o.op = .call { callee := .builtin .append, args := #[s, x], argTypes := #[54, 54] })
  (base : Nat) (v : Value) (xs : List ByteArray) (hs : a.eval s = v) (hown : OwnT base w v xs) (vx : Value) (ys : List ByteArray) (hx : a.eval x = vx) (hsrc : SrcT w vx ys)
  (hlen : xs.length + ys.length ≤ 8796093022208) (hbase : base ≤ w.heap.size)
  (h : ∀ v' w', OwnT base w' v' (xs ++ ys) → w.grownBy w' v.ownBlock → wpList Tryz.prog ops Q rest (a.put o.dst v') w') : wpList Tryz.prog ops Q (o :: rest) a w := by
 obtain ⟨i0, hi0, hz0, hz1, hz2⟩ := info9
 refine wpList_append_src w hgd s x _ ho base 9 i0 (.string ⟨#[]⟩) 1 16 under_texts hi0 hz0 hz1 hz2 rfl (by decide) v xs.length (xs.map Value.string) hs hown vx ys.length (ys.map Value.string) hx ?_ ?_ ?_ ?_ hbase ?_
 ·rcases hsrc with ⟨rfl, rfl⟩ | ⟨ad, c, rfl, hc⟩
  ·exact .inl ⟨rfl, rfl, rfl⟩
  ·refine .inr ⟨ad, c, rfl, by simp, fun j u hj => ?_⟩
   rw [List.getElem?_map] at hj
   obtain ⟨y, hy, rfl⟩ := Option.map_eq_some_iff.1 hj
   exact hc j y hy
 ·intro u hu
  obtain ⟨y, _, rfl⟩ := List.mem_map.1 hu
  rfl
 ·unfold maxLen; omega
 ·omega
 ·intro v' w' h1 h2 _
  refine h v' w' ?_ h2
  unfold OwnT
  rw [List.length_append, List.map_append]
  exact h1
def TextNew (H : Nat) (w : World) (v : Value) (xs : List ByteArray) : Prop := (xs = [] ∧ v = .slice none 0 0) ∨ ∃ b c, v = .slice (some ⟨b, 0, none⟩) xs.length c ∧ H ≤ b ∧ TextsAt w b 0 xs ∧ xs.length ≤ c
theorem TextNew.H {h : Nat} {w : World} {v : Value} {xs : List ByteArray} (hn : TextNew h w v xs) : ∃ a c, v = .slice a xs.length c ∧ TextsH w a xs := by
 rcases hn with ⟨rfl, rfl⟩ | ⟨b, c, rfl, _, ht⟩
 ·exact ⟨_, _, rfl, .inl rfl⟩
 ·exact ⟨_, _, rfl, .inr ⟨b, 0, rfl, ht.1⟩⟩
end Go.Proofs.W
namespace Go.Proofs.W
open Go Go.Proofs Go.RowKit
set_option maxRecDepth 1000000
structure Idv where
 p : ByteArray
 n : Int
instance : DecidableEq Idv := fun a b => if h : a.p = b.p ∧ a.n = b.n then isTrue (by cases a; cases b; obtain ⟨h1, h2⟩ := h; simp only at h1 h2; subst h1 h2; rfl) else isFalse (fun e => h (by subst e; exact ⟨rfl, rfl⟩))
instance : Inhabited Idv := ⟨⟨ByteArray.empty, 0⟩⟩
structure OpV where
 kind : Int
 self : Idv
 parent : Idv
 to : Idv
 name : ByteArray
 toName : ByteArray
 left : Idv
 right : Idv
 dels : List Idv
 da : Option Addr
 dc : Nat
 first : Int
 lines : List ByteArray
 la : Option Addr
 lc : Nat
structure PatchV where
 name : ByteArray
 deps : List ByteArray
 pa : Option Addr
 pc : Nat
 ops : List OpV
 oa : Option Addr
 oc : Nat
instance : Inhabited OpV := ⟨⟨0, default, default, default, ByteArray.empty, ByteArray.empty, default, default, [], none, 0, 0, [], none, 0⟩⟩
instance : Inhabited PatchV := ⟨⟨ByteArray.empty, [], none, 0, [], none, 0⟩⟩
structure IdsAt (w : World) (b o : Nat) (xs : List Idv) : Prop where
 lt : b < w.heap.size
 cell : ∀ (j : Nat) (x : Idv), xs[j]? = some x → w.cell? ⟨b, o + j * 2, none⟩ = some (.string x.p) ∧ w.cell? ⟨b, o + j * 2 + 1, none⟩ = some (.int .i64 x.n)
def IdsH (w : World) (a : Option Addr) (xs : List Idv) : Prop := xs.length = 0 ∨ ∃ b o, a = some ⟨b, o, none⟩ ∧ IdsAt w b o xs
structure OpsAt (w : World) (b o : Nat) (xs : List OpV) : Prop where
 lt : b < w.heap.size
 cell : ∀ (j : Nat) (d : OpV), xs[j]? = some d → w.cell? ⟨b, o + j * 16, none⟩ = some (.int .i64 d.kind) ∧ w.cell? ⟨b, o + j * 16 + 1, none⟩ = some (.string d.self.p) ∧ w.cell? ⟨b, o + j * 16 + 2, none⟩ = some (.int .i64 d.self.n) ∧
  w.cell? ⟨b, o + j * 16 + 3, none⟩ = some (.string d.parent.p) ∧ w.cell? ⟨b, o + j * 16 + 4, none⟩ = some (.int .i64 d.parent.n) ∧ w.cell? ⟨b, o + j * 16 + 5, none⟩ = some (.string d.to.p) ∧ w.cell? ⟨b, o + j * 16 + 6, none⟩ = some (.int .i64 d.to.n) ∧
  w.cell? ⟨b, o + j * 16 + 7, none⟩ = some (.string d.name) ∧ w.cell? ⟨b, o + j * 16 + 8, none⟩ = some (.string d.toName) ∧ w.cell? ⟨b, o + j * 16 + 9, none⟩ = some (.string d.left.p) ∧ w.cell? ⟨b, o + j * 16 + 10, none⟩ = some (.int .i64 d.left.n) ∧
  w.cell? ⟨b, o + j * 16 + 11, none⟩ = some (.string d.right.p) ∧ w.cell? ⟨b, o + j * 16 + 12, none⟩ = some (.int .i64 d.right.n) ∧ w.cell? ⟨b, o + j * 16 + 13, none⟩ = some (.slice d.da d.dels.length d.dc) ∧
  w.cell? ⟨b, o + j * 16 + 14, none⟩ = some (.int .i64 d.first) ∧ w.cell? ⟨b, o + j * 16 + 15, none⟩ = some (.slice d.la d.lines.length d.lc)
 sub : ∀ (j : Nat) (d : OpV), xs[j]? = some d → IdsH w d.da d.dels ∧ TextsH w d.la d.lines ∧ d.dels.length < 9223372036854775808 ∧ d.lines.length < 9223372036854775808
def OpsH (w : World) (a : Option Addr) (xs : List OpV) : Prop := xs.length = 0 ∨ ∃ b o, a = some ⟨b, o, none⟩ ∧ OpsAt w b o xs
structure PatchesAt (w : World) (b o : Nat) (xs : List PatchV) : Prop where
 lt : b < w.heap.size
 cell : ∀ (j : Nat) (d : PatchV), xs[j]? = some d → w.cell? ⟨b, o + j * 3, none⟩ = some (.string d.name) ∧ w.cell? ⟨b, o + j * 3 + 1, none⟩ = some (.slice d.pa d.deps.length d.pc) ∧ w.cell? ⟨b, o + j * 3 + 2, none⟩ = some (.slice d.oa d.ops.length d.oc)
 sub : ∀ (j : Nat) (d : PatchV), xs[j]? = some d → TextsH w d.pa d.deps ∧ OpsH w d.oa d.ops ∧ d.deps.length < 9223372036854775808 ∧ d.ops.length < 9223372036854775808
end Go.Proofs.W
namespace Go.Proofs.W
open Go Go.Proofs Go.RowKit
set_option maxRecDepth 1000000
theorem ownsRow_below {w w' : World} {b : Nat} {e : TypeId} {sz : Nat} {v : Value} {n : Nat} {xs : List Value} (h : w.ownsRow b e sz v n xs) (hb : Below w.heap.size w w') : w'.ownsRow b e sz v n xs := by
 refine ⟨h.1, ?_⟩
 rcases h.2 with h1 | ⟨g, cap, cur, hv, hg, hh, r⟩
 ·exact .inl h1
 ·exact .inr ⟨g, cap, cur, hv, hg, (hb.block g (Array.getElem?_eq_some_iff.1 hh).1).trans hh, r⟩
theorem ownsRow_base {w : World} {b b' : Nat} {e : TypeId} {sz : Nat} {v : Value} {n : Nat} {xs : List Value} (h : w.ownsRow b e sz v n xs) (hb : b' ≤ b) : w.ownsRow b' e sz v n xs := by
 refine ⟨h.1, ?_⟩
 rcases h.2 with h1 | ⟨g, cap, cur, hv, hg, r⟩
 ·exact .inl h1
 ·exact .inr ⟨g, cap, cur, hv, Nat.le_trans hb hg, r⟩
theorem setCell_block {w : World} {B i : Nat} {cur : Array Value} {e : TypeId} {r : Nat × Nat} (v : Value) (h : w.heap[B]? = some (.cells cur e r)) : (w.setCell ⟨B, i, none⟩ v).heap[B]? = some (.cells (cur.setIfInBounds i v) e r) := by
 simp [World.setCell, Array.getElem?_modify, h]
theorem setSize (w : World) (a : Addr) (v : Value) : (w.setCell a v).heap.size = w.heap.size := by simp [World.setCell]
theorem cell_new2 {w : World} (cs : Array Value) (t : TypeId) {b i : Nat} (hb : b = w.heap.size) : (w.alloc (.cells cs t)).cell? ⟨b, i, none⟩ = cs[i]? := by
 subst hb
 exact cell_newBlock w cs t i
theorem allocSize (w : World) (x : Obj) : (w.alloc x).heap.size = w.heap.size + 1 := by simp
theorem row_at {w : World} {b : Nat} {e : TypeId} {sz : Nat} {a : Option Addr} {n c : Nat} {xs : List Value} (h : w.ownsRow b e sz (.slice a n c) n xs) (hn : 0 < n) : ∃ g cur, a = some ⟨g, 0, none⟩ ∧ b ≤ g ∧ w.heap[g]? = some (.cells cur e (0, 0)) := by
 rcases h.2 with ⟨_, h0⟩ | ⟨g, cap, cur, hv, hg, hh, _⟩
 ·omega
 ·cases hv
  exact ⟨g, cur, rfl, hg, hh⟩
theorem row_other {w : World} {b : Nat} {e e2 : TypeId} {sz : Nat} {v : Value} {n : Nat} {xs : List Value} (h : w.ownsRow b e sz v n xs) {g : Nat} {cur : Array Value} {r : Nat × Nat} (hg : w.heap[g]? = some (.cells cur e2 r)) (hne : e ≠ e2) : v.ownBlock ≠ some g := by
 rcases h.2 with ⟨rfl, _⟩ | ⟨g', cap, cur', rfl, _, hh, _⟩
 ·simp [Value.ownBlock]
 ·intro e'
  have : g' = g := by simpa [Value.ownBlock] using e'
  subst this
  rw [hg] at hh
  injection hh with hh
  injection hh with _ h2 _
  exact hne h2.symm
theorem kept_other {w w' : World} {b b2 : Nat} {e e2 : TypeId} {sz sz2 : Nat} {v v2 : Value} {n n2 : Nat} {xs xs2 : List Value} (h : w.ownsRow b e sz v n xs) (hr : w.ownsRow b2 e2 sz2 v2 n2 xs2) (hne : e ≠ e2) (hg : w.grownBy w' v2.ownBlock) : w'.ownsRow b e sz v n xs := by
 refine h.kept hg ?_
 by_cases he : v.ownBlock = none
 ·exact .inl he
 ·refine .inr fun e' => ?_
  rcases hr.2 with ⟨h0, _⟩ | ⟨g2, cap2, cur2, h0, _, hh2, _⟩
  ·rw [h0] at e'; exact he e'
  ·exact row_other h hh2 hne (by rw [e', h0]; rfl)
theorem textsH_own {w : World} {b : Nat} {a : Option Addr} {c : Nat} {xs : List ByteArray} (h : w.ownsRow b 9 1 (.slice a xs.length c) xs.length (xs.map Value.string)) : TextsH w a xs := by
 rcases h.2 with ⟨_, h0⟩ | ⟨g, cap, cur, e, _, hh, _⟩
 ·exact .inl h0
 ·cases e
  refine .inr ⟨g, 0, rfl, (Array.getElem?_eq_some_iff.1 hh).1, fun j x hj => ?_⟩
  have hjl := (List.getElem?_eq_some_iff.1 hj).1
  rw [Nat.zero_add, h.cellAt j (by omega)]
  simp [hj]
set_option maxHeartbeats 4000000 in
theorem cloneTexts (a : Option Addr) (c : Nat) (xs : List ByteArray) (w : World) (h : TextsH w a xs) (hlen : xs.length ≤ 1099511627776) :
  Calls Tryz.prog 83 #[.slice a xs.length c] w fun e w' => (∃ v', e = .returned v' ∧ w'.ownsRow w.heap.size 9 1 v' xs.length (xs.map Value.string)) ∧ Below w.heap.size w w' := by
 have qn : ∀ (w : World) (a : Option Addr) (n c n' c' : Nat), (binOp .eql 54 (.slice a n c) (.slice none n' c')).run Tryz.prog w = .ok (.bool a.isNone) w := fun w a n c n' c' => Lib.run_eql_slice_nil w _ _ a n c n' c' Tryz.underlying54
 cases a with
 | none =>
  have h0 : xs.length = 0 := h.elim id (fun ⟨_, _, h, _⟩ => by cases h)
  go_enter Tryz.func83, Tryz.ntmps83
  go_wp2
  go_ret
  refine ⟨⟨_, rfl, ?_⟩, Below.refl _ _⟩
  have : xs = [] := List.eq_nil_of_length_eq_zero h0
  subst this
  exact World.ownsRow_nil _ _ _ _
 | some ad =>
  have hsrc : ∀ x, SrcT (w.alloc x) (Value.slice (some ad) xs.length c) xs := fun x => by
   refine .inr ⟨ad, c, rfl, fun j u hu => ?_⟩
   rcases h with h0 | ⟨b, o, h1, h2⟩
   ·have : xs = [] := List.eq_nil_of_length_eq_zero h0
    subst this
    simp at hu
   ·cases h1
    rw [Addr.add_lit]
    exact (h2.below (belowAlloc _ _)).cell j u hu
  go_enter Tryz.func83, Tryz.ntmps83
  go_wp2_with (at_builtin; refine wpList_append_texts _ rfl (.tmp 5) (.tmp 6) rfl w.heap.size _ [] rfl (ownT_lit0 _ _ _ ?hn ?hb) _ xs rfl (hsrc _) ?len ?base ?_)
  case hn => rfl
  case hb => exact Nat.le_refl _
  case len => simp; omega
  case base => rw [allocSize]; omega
  intro v' w' hown hg
  go_wp2
  go_ret
  refine ⟨⟨_, rfl, hown⟩, ?_⟩
  have hb := belowAlloc w (.cells #[] 9)
  exact ⟨hg.os.trans hb.os, hg.tape.trans hb.tape, hg.output.trans hb.output, Nat.le_trans hb.size hg.size, fun k hk => (hg.block k (by simp; omega) (by simp [Value.ownBlock]; omega)).trans (hb.block k hk)⟩
theorem ownShape {w : World} {b : Nat} {e : TypeId} {sz : Nat} {v : Value} {n : Nat} {xs : List Value} (h : w.ownsRow b e sz v n xs) : ∃ a c, v = .slice a n c := by
 rcases h.2 with ⟨rfl, rfl⟩ | ⟨g, cap, cur, rfl, _⟩
 ·exact ⟨_, _, rfl⟩
 ·exact ⟨_, _, rfl⟩
theorem flatMap_at {α : Type} (f : α → List Value) (L : Nat) (hL : ∀ x, (f x).length = L) : ∀ (xs : List α) (j r : Nat) (x : α), xs[j]? = some x → r < L → (xs.flatMap f)[j * L + r]? = (f x)[r]?
 | y :: ys, 0, r, x, h, hr => by
  obtain rfl := Option.some.inj h
  rw [List.flatMap_cons, Nat.zero_mul, Nat.zero_add, List.getElem?_append_left (by rw [hL]; exact hr)]
 | y :: ys, j + 1, r, x, h, hr => by
  have h' : ys[j]? = some x := by simpa using h
  rw [List.flatMap_cons, List.getElem?_append_right (by rw [hL, Nat.add_mul]; omega), hL, show (j + 1) * L + r - L = j * L + r by rw [Nat.add_mul]; omega]
  exact flatMap_at f L hL ys j r x h' hr
end Go.Proofs.W
namespace Go.Proofs.W
open Go Go.Proofs Go.RowKit
set_option maxRecDepth 1000000
theorem run_copy_rowK {P : Program} (k : Nat) (w : World) (dT sT ty elem : TypeId) (g o dLen dCap : Nat) (a : Addr) (sLen sCap : Nat) (cur : Array Value) (t : TypeId) (cs : List Value)
  (hu : P.underlying dT = some (.slice elem)) (hs : (P.info? elem).map (·.size) = some k)
  (hg : w.heap[g]? = some (.cells cur t (0, 0))) (hn : cs.length = Nat.min sLen dLen * k)
  (hsrc : ∀ j v, cs[j]? = some v → w.cell? (a.add j) = some v) (hfit : o + cs.length ≤ cur.size) (h1 : ∀ v ∈ cs, v.oneCell' = true) :
  (Builtin.copy_ #[dT, sT] ty #[.slice (some ⟨g, o, none⟩) dLen dCap, .slice (some a) sLen sCap]).run P w =
   .ok (goInt (Nat.min sLen dLen)) (w.setRow g (cur.toList.take o ++ cs ++ cur.toList.drop (o + cs.length)).toArray) := by
 have hl := run_loadCells_list (P := P) w a cs hsrc
 have hst := run_storeCells_at P g o t cs 0 cur w hg (by simpa using hfit) h1
 cases hq : P.info? elem with
 | none => simp [hq] at hs
 | some i =>
  have hi : i.size = k := by simpa [hq] using hs
  simp [Builtin.copy_, run_underlying hu, Builtin.lenOf, Builtin.firstCells, sizeOf, typeInfo, hq, hi, ← hn, hl, hst]
theorem flatMap_len {α : Type} (f : α → List Value) (L : Nat) (hL : ∀ x, (f x).length = L) : ∀ xs : List α, (xs.flatMap f).length = xs.length * L
 | [] => by simp
 | x :: xs => by rw [List.flatMap_cons, List.length_append, hL, flatMap_len f L hL xs, List.length_cons, Nat.add_mul]; omega
theorem flatMap_take {α : Type} (f : α → List Value) (L : Nat) (hL : ∀ x, (f x).length = L) : ∀ (xs : List α) (i : Nat), (xs.flatMap f).take (i * L) = (xs.take i).flatMap f
 | [], i => by simp
 | x :: xs, 0 => by simp
 | x :: xs, i + 1 => by
  rw [List.flatMap_cons, List.take_succ_cons, List.flatMap_cons, show (i + 1) * L = (f x).length + i * L by rw [hL, Nat.add_mul]; omega, List.take_length_add_append, flatMap_take f L hL xs i]
theorem flatMap_drop {α : Type} (f : α → List Value) (L : Nat) (hL : ∀ x, (f x).length = L) : ∀ (xs : List α) (i : Nat), (xs.flatMap f).drop (i * L) = (xs.drop i).flatMap f
 | [], i => by simp
 | x :: xs, 0 => by simp
 | x :: xs, i + 1 => by
  rw [List.flatMap_cons, List.drop_succ_cons, show (i + 1) * L = (f x).length + i * L by rw [hL, Nat.add_mul]; omega, List.drop_length_add_append, flatMap_drop f L hL xs i]
end Go.Proofs.W
namespace Go.Proofs.W
open Go Go.Proofs Go.RowKit Go.Op
set_option maxRecDepth 1000000
structure FileV where
 path : ByteArray
 dir : Bool
 lines : List ByteArray
 la : Option Addr
 lc : Nat
instance : Inhabited FileV := ⟨⟨ByteArray.empty, false, [], none, 0⟩⟩
def FileV.cells (f : FileV) : List Value := [.string f.path, .bool f.dir, .slice f.la f.lines.length f.lc]
def FileV.val (f : FileV) : Value := .agg #[.string f.path, .bool f.dir, .slice f.la f.lines.length f.lc]
def FileV.key (f : FileV) : ByteArray × Bool × List ByteArray := (f.path, f.dir, f.lines)
structure FilesAt (w : World) (b o : Nat) (xs : List FileV) : Prop where
 lt : b < w.heap.size
 cell : ∀ (j : Nat) (d : FileV), xs[j]? = some d → w.cell? ⟨b, o + j * 3, none⟩ = some (.string d.path) ∧ w.cell? ⟨b, o + j * 3 + 1, none⟩ = some (.bool d.dir) ∧ w.cell? ⟨b, o + j * 3 + 2, none⟩ = some (.slice d.la d.lines.length d.lc)
 sub : ∀ (j : Nat) (d : FileV), xs[j]? = some d → TextsH w d.la d.lines ∧ d.lines.length < 9223372036854775808
def FilesH (w : World) (a : Option Addr) (xs : List FileV) : Prop := xs.length = 0 ∨ ∃ b o, a = some ⟨b, o, none⟩ ∧ FilesAt w b o xs
theorem FilesAt.below {w w' : World} {b o : Nat} {xs : List FileV} (h : FilesAt w b o xs) (hb : Below w.heap.size w w') : FilesAt w' b o xs :=
 ⟨Nat.lt_of_lt_of_le h.lt hb.size, fun j d hd => by
  have hc : ∀ i, w'.cell? ⟨b, i, none⟩ = w.cell? ⟨b, i, none⟩ := fun i => World.cell?_of_block (hb.block b h.lt)
  simp only [hc]
  exact h.cell j d hd, fun j d hd => ⟨(h.sub j d hd).1.below hb, (h.sub j d hd).2⟩⟩
theorem FilesH.below {w w' : World} {a : Option Addr} {xs : List FileV} (h : FilesH w a xs) (hb : Below w.heap.size w w') : FilesH w' a xs := by
 rcases h with h | ⟨b, o, h1, h2⟩
 ·exact .inl h
 ·exact .inr ⟨b, o, h1, h2.below hb⟩
end Go.Proofs.W
namespace Go.Proofs.W
open Go Go.Proofs Go.RowKit Go.Op
set_option maxRecDepth 1000000
structure TrackV where
 path : ByteArray
 patch : ByteArray
 n : Int
def TrackV.cells (t : TrackV) : List Value := [.string t.path, .string t.patch, .int .i64 t.n]
structure TracksAt (w : World) (b o : Nat) (xs : List TrackV) : Prop where
 lt : b < w.heap.size
 cell : ∀ (j : Nat) (d : TrackV), xs[j]? = some d → w.cell? ⟨b, o + j * 3, none⟩ = some (.string d.path) ∧ w.cell? ⟨b, o + j * 3 + 1, none⟩ = some (.string d.patch) ∧ w.cell? ⟨b, o + j * 3 + 2, none⟩ = some (.int .i64 d.n)
def TracksH (w : World) (a : Option Addr) (xs : List TrackV) : Prop := xs.length = 0 ∨ ∃ b o, a = some ⟨b, o, none⟩ ∧ TracksAt w b o xs
theorem TracksAt.below {w w' : World} {b o : Nat} {xs : List TrackV} (h : TracksAt w b o xs) (hb : Below w.heap.size w w') : TracksAt w' b o xs :=
 ⟨Nat.lt_of_lt_of_le h.lt hb.size, fun j d hd => by
  have hc : ∀ i, w'.cell? ⟨b, i, none⟩ = w.cell? ⟨b, i, none⟩ := fun i => World.cell?_of_block (hb.block b h.lt)
  simp only [hc]
  exact h.cell j d hd⟩
theorem TracksH.below {w w' : World} {a : Option Addr} {xs : List TrackV} (h : TracksH w a xs) (hb : Below w.heap.size w w') : TracksH w' a xs := by
 rcases h with h | ⟨b, o, h1, h2⟩
 ·exact .inl h
 ·exact .inr ⟨b, o, h1, h2.below hb⟩
end Go.Proofs.W
namespace Go.Proofs.W
open Go Go.Proofs Go.RowKit Go.Op
set_option maxRecDepth 1000000
theorem fileCells_len (f : FileV) : f.cells.length = 3 := rfl
theorem fileCells_one (f : FileV) : ∀ v ∈ f.cells, v.oneCell' = true := by
 intro v hv
 simp only [FileV.cells, List.mem_cons, List.not_mem_nil, or_false] at hv
 rcases hv with rfl | rfl | rfl <;> rfl
theorem filesCells_one (xs : List FileV) : ∀ v ∈ xs.flatMap FileV.cells, v.oneCell' = true := by
 intro v hv
 obtain ⟨f, _, hf⟩ := List.mem_flatMap.1 hv
 exact fileCells_one f v hf
theorem info_file : ∃ i, Tryz.prog.info? 56 = some i ∧ i.zero = some (.agg #[.string ⟨#[]⟩, .bool false, .slice none 0 0]) ∧ i.size = 3 ∧ i.bytes = 48 := info_parts (show (Tryz.prog.info? 56).map (fun i => (i.zero, i.size, i.bytes)) = some (some (.agg #[.string ⟨#[]⟩, .bool false, .slice none 0 0]), 3, 48) by kernel_rfl)
theorem filesCells_get {xs : List FileV} {w : World} {b o : Nat} (h : FilesAt w b o xs) : ∀ (j : Nat) u, (xs.flatMap FileV.cells)[j]? = some u → w.cell? ((⟨b, o, none⟩ : Addr).add j) = some u := by
 intro j u hu
 have hl : j < xs.length * 3 := by
  have := (List.getElem?_eq_some_iff.1 hu).1
  rwa [flatMap_len FileV.cells 3 fileCells_len] at this
 have hq : j / 3 < xs.length := by omega
 have hf : xs[j / 3]? = some xs[j / 3] := List.getElem?_eq_getElem hq
 have hr : j % 3 < 3 := Nat.mod_lt _ (by decide)
 have hj : j = j / 3 * 3 + j % 3 := by omega
 rw [hj] at hu
 rw [flatMap_at FileV.cells 3 fileCells_len xs _ _ _ hf hr] at hu
 obtain ⟨e0, e1, e2⟩ := h.cell _ _ hf
 rw [Addr.add_lit]
 generalize j / 3 = q at *
 generalize j % 3 = r at *
 subst hj
 match r, hr, hu with
 | 0, _, hu => rw [← Option.some.inj (show some (Value.string _) = some u from hu)]; exact e0
 | 1, _, hu => rw [← Option.some.inj (show some (Value.bool _) = some u from hu), ← Nat.add_assoc]; exact e1
 | 2, _, hu => rw [← Option.some.inj (show some (Value.slice _ _ _) = some u from hu), ← Nat.add_assoc]; exact e2
theorem trackCells_len (f : TrackV) : f.cells.length = 3 := rfl
theorem trackCells_one (f : TrackV) : ∀ v ∈ f.cells, v.oneCell' = true := by
 intro v hv
 simp only [TrackV.cells, List.mem_cons, List.not_mem_nil, or_false] at hv
 rcases hv with rfl | rfl | rfl <;> rfl
theorem tracksCells_one (xs : List TrackV) : ∀ v ∈ xs.flatMap TrackV.cells, v.oneCell' = true := by
 intro v hv
 obtain ⟨f, _, hf⟩ := List.mem_flatMap.1 hv
 exact trackCells_one f v hf
theorem info_track : ∃ i, Tryz.prog.info? 40 = some i ∧ i.zero = some (.agg #[.string ⟨#[]⟩, .string ⟨#[]⟩, .int .i64 0]) ∧ i.size = 3 ∧ i.bytes = 40 := info_parts (show (Tryz.prog.info? 40).map (fun i => (i.zero, i.size, i.bytes)) = some (some (.agg #[.string ⟨#[]⟩, .string ⟨#[]⟩, .int .i64 0]), 3, 40) by kernel_rfl)
theorem tracksCells_get {xs : List TrackV} {w : World} {b o : Nat} (h : TracksAt w b o xs) : ∀ (j : Nat) u, (xs.flatMap TrackV.cells)[j]? = some u → w.cell? ((⟨b, o, none⟩ : Addr).add j) = some u := by
 intro j u hu
 have hl : j < xs.length * 3 := by
  have := (List.getElem?_eq_some_iff.1 hu).1
  rwa [flatMap_len TrackV.cells 3 trackCells_len] at this
 have hq : j / 3 < xs.length := by omega
 have hf : xs[j / 3]? = some xs[j / 3] := List.getElem?_eq_getElem hq
 have hr : j % 3 < 3 := Nat.mod_lt _ (by decide)
 have hj : j = j / 3 * 3 + j % 3 := by omega
 rw [hj] at hu
 rw [flatMap_at TrackV.cells 3 trackCells_len xs _ _ _ hf hr] at hu
 obtain ⟨e0, e1, e2⟩ := h.cell _ _ hf
 rw [Addr.add_lit]
 generalize j / 3 = q at *
 generalize j % 3 = r at *
 subst hj
 match r, hr, hu with
 | 0, _, hu => rw [← Option.some.inj (show some (Value.string _) = some u from hu)]; exact e0
 | 1, _, hu => rw [← Option.some.inj (show some (Value.string _) = some u from hu), ← Nat.add_assoc]; exact e1
 | 2, _, hu => rw [← Option.some.inj (show some (Value.int _ _) = some u from hu), ← Nat.add_assoc]; exact e2
end Go.Proofs.W
