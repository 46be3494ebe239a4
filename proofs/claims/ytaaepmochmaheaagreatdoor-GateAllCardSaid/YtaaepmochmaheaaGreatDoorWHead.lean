/- A PART OF THE PROOF THAT SHOWS THAT EACH OF rafterlaw44.GateAsk AND rafterlaw44.GateAll RETURNS TRUE FOR EVERY INPUT. No condition beyond the given statement. This part: WHead. -/
import Derived.Test.YtaaepmochmaheaaGreatDoorProg
import Derived.Tactics
import Derived.Tactics2
import Derived.StillTactics
import Derived.Laws.AppendOwn
import Derived.Laws.AppendOwnNone
import Derived.Laws.CopyRow
import Derived.Laws.Rows
import Derived.Laws.Tables
import Derived.Laws.NewBlocks
import Derived.Laws.Unary
import Derived.Laws.Strings
import Derived.Laws.Strings2
import Derived.Laws.Wrap64
import Derived.Laws.RangeString
import Derived.Laws.Concat
import Derived.Laws.Cells
import Derived.Laws.Pointers
import Derived.Laws.StructEq
import Derived.Laws.StandIn
import Derived.Laws.ByValue
import Derived.Laws.Externs
import Derived.Laws.OwnMore
import Derived.Laws.Build
import Derived.Laws.ResultCell
import Derived.Laws.Entries
import Derived.Laws.Append
import Derived.Laws.World
import Derived.Laws.Strings3
import Derived.Laws.Sem
import Derived.Laws.Slices
import Derived.Laws.MakeOwn
import Derived.Laws.Small
import Derived.Scope
import Derived.FnLit
import Derived.LoopTactic
import Derived.LoopN
import Derived.Lib.SliceRun
import Derived.Deep.RegionHeld3
import Derived.Deep.QuietTactic
import Derived.BigQuiet
import Derived.WalkKit
import Derived.WideShapes
import Derived.Shelf.Abstract
namespace Go.Proofs.W
open Go Go.Proofs Go.RowKit Go.WideShapes
set_option maxRecDepth 1000000

theorem belowTrans {w w1 w2 : World} (h1 : Below w.heap.size w w1) (h2 : Below w1.heap.size w1 w2) : Below w.heap.size w w2 :=
  ⟨h2.os.trans h1.os, h2.tape.trans h1.tape, h2.output.trans h1.output, Nat.le_trans h1.size h2.size, fun b hb => (h2.block b (Nat.lt_of_lt_of_le hb h1.size)).trans (h1.block b hb)⟩
theorem belowAlloc (w : World) (x : Obj) : Below w.heap.size w (w.alloc x) := ⟨rfl, rfl, rfl, by simp, fun b hb => by
  show (w.heap.push x)[b]? = _
  rw [Array.getElem?_push_lt hb, Array.getElem?_eq_getElem hb]⟩
theorem belowDrew (w : World) (k : Nat) : Below w.heap.size w (w.drewN k) := ⟨rfl, rfl, rfl, Nat.le_refl _, fun _ _ => rfl⟩
theorem belowDrew1 (w : World) : Below w.heap.size w w.drew := ⟨rfl, rfl, rfl, Nat.le_refl _, fun _ _ => rfl⟩
/-- a frame that is older -/
theorem belowOld {n : Nat} {w w' : World} (hn : n ≤ w.heap.size) (h : Below w.heap.size w w') : Below n w w' := ⟨h.os, h.tape, h.output, h.size, fun b hb => h.block b (Nat.lt_of_lt_of_le hb hn)⟩
/-- all blocks below n as they were, in two steps -/
theorem belowStep {n : Nat} {w w1 w2 : World} (h1 : Below n w w1) (h2 : Below n w1 w2) : Below n w w2 :=
  ⟨h2.os.trans h1.os, h2.tape.trans h1.tape, h2.output.trans h1.output, Nat.le_trans h1.size h2.size, fun b hb => (h2.block b hb).trans (h1.block b hb)⟩

theorem cell_newBlock (w : World) (cs : Array Value) (t : TypeId) (i : Nat) : (w.alloc (.cells cs t)).cell? ⟨w.heap.size, i, none⟩ = cs[i]? := by
  have h : (w.alloc (.cells cs t)).heap[w.heap.size]? = some (.cells cs t (0, 0)) := by
    show (w.heap.push _)[w.heap.size]? = _
    simp
  unfold World.cell?
  simp only [h]
  rfl

theorem toList_eq_iff (a b : ByteArray) : (a.toList == b.toList) = decide (a = b) := by
  rw [ByteArray.toList_eq, ByteArray.toList_eq]
  by_cases h : a = b
  · subst h; simp
  · have : ¬ a.data.toList = b.data.toList := fun e => h (Go.WideShapes.bytes_inj e)
    rw [decide_eq_false h]
    simpa using this
theorem isEmpty_iff (a : ByteArray) : a.toList.isEmpty = decide (a = ByteArray.empty) := by
  have h := toList_eq_iff a ByteArray.empty
  rw [← h, ByteArray.toList_eq, ByteArray.toList_eq]
  cases a.data.toList <;> rfl

/-- texts at a place -/
structure TextsAt (w : World) (b o : Nat) (xs : List ByteArray) : Prop where
  lt : b < w.heap.size
  cell : ∀ (j : Nat) (x : ByteArray), xs[j]? = some x → w.cell? ⟨b, o + j, none⟩ = some (.string x)
theorem TextsAt.keep {w w' : World} {b o : Nat} {xs : List ByteArray} (h : TextsAt w b o xs) (hs : b < w'.heap.size) (hb : w'.heap[b]? = w.heap[b]?) : TextsAt w' b o xs :=
  ⟨hs, fun j d hd => by rw [World.cell?_of_block hb]; exact h.cell j d hd⟩
theorem TextsAt.below {w w' : World} {b o : Nat} {xs : List ByteArray} (h : TextsAt w b o xs) (hb : Below w.heap.size w w') : TextsAt w' b o xs :=
  h.keep (Nat.lt_of_lt_of_le h.lt hb.size) (hb.block b h.lt)
theorem TextsAt.belowN {n : Nat} {w w' : World} {b o : Nat} {xs : List ByteArray} (h : TextsAt w b o xs) (hn : b < n) (hb : Below n w w') : TextsAt w' b o xs :=
  h.keep (Nat.lt_of_lt_of_le h.lt hb.size) (hb.block b hn)
theorem textsAt_new (w : World) (xs : List ByteArray) (t : TypeId) : TextsAt (w.alloc (.cells (xs.map Value.string).toArray t)) w.heap.size 0 xs :=
  ⟨by simp, fun j x hx => by rw [cell_newBlock]; simp [hx]⟩

/-- .. where a slice's header points -/
def TextsH (w : World) (a : Option Addr) (xs : List ByteArray) : Prop := xs.length = 0 ∨ ∃ b o, a = some ⟨b, o, none⟩ ∧ TextsAt w b o xs
theorem TextsH.below {w w' : World} {a : Option Addr} {xs : List ByteArray} (h : TextsH w a xs) (hb : Below w.heap.size w w') : TextsH w' a xs := by
  rcases h with h | ⟨b, o, h1, h2⟩
  · exact .inl h
  · exact .inr ⟨b, o, h1, h2.below hb⟩

/-- a row of one's own: texts in a block from 'base' on, or none at all -/
theorem ownTexts {w : World} {base m : Nat} {v : Value} {xs : List ByteArray} {t : TypeId} (hx : xs.length = m) (hne : xs ≠ []) (h : w.ownsRow base t 1 v m (xs.map Value.string)) : ∃ g c, v = .slice (some ⟨g, 0, none⟩) xs.length c ∧ base ≤ g ∧ TextsAt w g 0 xs ∧ xs.length ≤ c := by
  obtain ⟨_, ⟨_, h0⟩ | ⟨g, cap, cur, rfl, hg, hh, hc, _, hs, ht⟩⟩ := h
  · subst hx
    exact absurd (List.eq_nil_of_length_eq_zero h0) hne
  · subst hx
    refine ⟨g, cap, rfl, hg, ⟨(Array.getElem?_eq_some_iff.1 hh).1, fun j x hj => ?_⟩, hc⟩
    have hjl : j < xs.length := (List.getElem?_eq_some_iff.1 hj).1
    have h1 : cur.toList[j]? = some (.string x) := by
      have h2 : (cur.toList.take (xs.length * 1))[j]? = some (.string x) := by rw [ht]; simp [hj]
      rw [List.getElem?_take_of_lt (by omega)] at h2
      exact h2
    have h3 : cur[j]? = some (.string x) := by rw [← Array.getElem?_toList]; exact h1
    simp [World.cell?, hh, h3]
end Go.Proofs.W
namespace Go.Proofs.W
open Go Go.Proofs Go.RowKit
set_option maxRecDepth 1000000

/-- append onto a row of one's own, whatever slice it is that is appended -/
theorem wpList_append_src {P : Program} (w : World) {ops : Array Oper} {rest : List Oper} {o : Oper} {a : Act} {Q : Exit → Act → World → Prop} (hgd : o.guard = none) (s x : Operand) (t : TypeId)
    (ho : o.op = .call { callee := .builtin .append, args := #[s, x], argTypes := #[t, t] })
    (base : Nat) (e : TypeId) (i : TypeInfo) (z : Value) (size bytes : Nat) (ht : P.underlying t = some (.slice e)) (hi : P.info? e = some i) (hz : i.zero = some z)
    (hsize : i.size = size) (hby : i.bytes = bytes) (hzs : z.cells.size = size) (hsz : 0 < size)
    (v : Value) (n : Nat) (xs : List Value) (hs : a.eval s = v) (hown : w.ownsRow base e size v n xs)
    (vx : Value) (m : Nat) (news : List Value) (hx : a.eval x = vx)
    (hsrc : (vx = .slice none 0 0 ∧ m = 0 ∧ news = []) ∨ ∃ ad c, vx = .slice (some ad) m c ∧ news.length = m * size ∧ ∀ j u, news[j]? = some u → w.cell? (ad.add j) = some u) (h1 : ∀ u ∈ news, u.oneCell' = true)
    (h63 : n + m ≤ maxLen) (hbytes : (n + m) * bytes ≤ 140737488355328) (hbase : base ≤ w.heap.size)
    (h : ∀ v' w', w'.ownsRow base e size v' (n + m) (xs ++ news) → w.grownBy w' v.ownBlock → (v' = .slice none 0 0 ↔ v = .slice none 0 0 ∧ m = 0) → wpList P ops Q rest (a.put o.dst v') w') : wpList P ops Q (o :: rest) a w := by
  rcases hsrc with ⟨rfl, rfl, rfl⟩ | ⟨ad, c, rfl, hl, hc⟩
  · refine wpList_append_own_none hgd s x t ho base e i size ht hi v n xs hs hown hx ?_
    exact h v w (by simpa using hown) (World.grownBy.refl w _) ⟨fun e => ⟨e, rfl⟩, fun e => e.1⟩
  · exact wpList_append_own w hgd s x t ho base e i z size bytes ht hi hz hsize hby hzs hsz v n xs hs hown ad m c news hx hl hc h1 h63 hbytes hbase h

theorem info9 : ∃ i, Tryz.prog.info? 9 = some i ∧ i.zero = some (.string ⟨#[]⟩) ∧ i.size = 1 ∧ i.bytes = 16 := info_parts (show (Tryz.prog.info? 9).map (fun i => (i.zero, i.size, i.bytes)) = some (some (.string ⟨#[]⟩), 1, 16) by kernel_rfl)
theorem under_texts : Tryz.prog.underlying 22 = some (.slice 9) := Tryz.underlying22

/-- a place that was looked for: is there one? -/
def IxSays (p : Bool) (e : Ending) : Prop := ∃ i : Int, e = .returned (.int .i64 i) ∧ decide (i ≥ 0) = p

/-- a row of texts of one's own -/
def OwnT (base : Nat) (w : World) (v : Value) (xs : List ByteArray) : Prop := w.ownsRow base 9 1 v xs.length (xs.map Value.string)
/-- texts that are to be appended -/
def SrcT (w : World) (vx : Value) (ys : List ByteArray) : Prop := (vx = .slice none 0 0 ∧ ys = []) ∨ ∃ ad c, vx = .slice (some ad) ys.length c ∧ ∀ j x, ys[j]? = some x → w.cell? (ad.add j) = some (.string x)

theorem OwnT.nil (base : Nat) (w : World) : OwnT base w (.slice none 0 0) [] := World.ownsRow_nil w base 9 1
theorem OwnT.kept {base : Nat} {w w' : World} {v : Value} {xs : List ByteArray} (h : OwnT base w v xs) (hb : Below w.heap.size w w') : OwnT base w' v xs :=
  World.ownsRow.kept h (row := none) ⟨hb.os, hb.tape, hb.output, hb.size, fun k hk _ => hb.block k hk⟩ (by
    rcases h.2 with ⟨rfl, _⟩ | ⟨g, cap, cur, rfl, _⟩
    · exact .inl rfl
    · exact .inr (by simp [Value.ownBlock]))
theorem OwnT.shape {base : Nat} {w : World} {v : Value} {xs : List ByteArray} (h : OwnT base w v xs) : ∃ a c, v = .slice a xs.length c ∧ ((xs = [] ∧ a = none ∧ c = 0) ∨ ∃ g, a = some ⟨g, 0, none⟩ ∧ base ≤ g ∧ g < w.heap.size ∧ TextsAt w g 0 xs ∧ xs.length ≤ c) := by
  have h' := h
  obtain ⟨_, ⟨rfl, h0⟩ | ⟨g, cap, cur, rfl, hg, hh, hc, _, hs, ht⟩⟩ := h'
  · have : xs = [] := List.eq_nil_of_length_eq_zero h0
    subst this
    exact ⟨none, 0, rfl, .inl ⟨rfl, rfl, rfl⟩⟩
  · have hlt := (Array.getElem?_eq_some_iff.1 hh).1
    refine ⟨_, cap, rfl, .inr ⟨g, rfl, hg, hlt, ⟨hlt, fun j x hj => ?_⟩, hc⟩⟩
    have hjl : j < xs.length := (List.getElem?_eq_some_iff.1 hj).1
    have h1 : cur.toList[j]? = some (.string x) := by
      have h2 : (cur.toList.take (xs.length * 1))[j]? = some (.string x) := by rw [ht]; simp [hj]
      rw [List.getElem?_take_of_lt (by omega)] at h2
      exact h2
    have h3 : cur[j]? = some (.string x) := by rw [← Array.getElem?_toList]; exact h1
    simp [World.cell?, hh, h3]
theorem OwnT.H {base : Nat} {w : World} {v : Value} {xs : List ByteArray} (h : OwnT base w v xs) : ∃ a c, v = .slice a xs.length c ∧ TextsH w a xs := by
  obtain ⟨a, c, rfl, ⟨rfl, _, _⟩ | ⟨g, rfl, _, _, ht, _⟩⟩ := h.shape
  · exact ⟨_, _, rfl, .inl rfl⟩
  · exact ⟨_, _, rfl, .inr ⟨g, 0, rfl, ht⟩⟩

theorem OwnT.mono {base base' : Nat} {w : World} {v : Value} {xs : List ByteArray} (h : OwnT base w v xs) (hb : base' ≤ base) : OwnT base' w v xs := by
  refine ⟨h.1, ?_⟩
  rcases h.2 with hn | ⟨g, cap, cur, h1, h2, h3⟩
  · exact .inl hn
  · exact .inr ⟨g, cap, cur, h1, Nat.le_trans hb h2, h3⟩
theorem ownT_lit0 (w : World) (base n : Nat) (hn : n = w.heap.size) (hb : base ≤ w.heap.size) : OwnT base (w.alloc (.cells #[] 9)) (.slice (some ⟨n, 0, none⟩) 0 0) [] := by
  subst hn
  exact World.ownsRow_lit w #[] 0 hb (Nat.zero_le _) rfl

/-- append(own, texts...) -/
theorem wpList_append_texts (w : World) {ops : Array Oper} {rest : List Oper} {o : Oper} {a : Act} {Q : Exit → Act → World → Prop} (hgd : o.guard = none) (s x : Operand)
    (ho : o.op = .call { callee := .builtin .append, args := #[s, x], argTypes := #[22, 22] })
    (base : Nat) (v : Value) (xs : List ByteArray) (hs : a.eval s = v) (hown : OwnT base w v xs) (vx : Value) (ys : List ByteArray) (hx : a.eval x = vx) (hsrc : SrcT w vx ys)
    (hlen : xs.length + ys.length ≤ 8796093022208) (hbase : base ≤ w.heap.size)
    (h : ∀ v' w', OwnT base w' v' (xs ++ ys) → w.grownBy w' v.ownBlock → wpList Tryz.prog ops Q rest (a.put o.dst v') w') : wpList Tryz.prog ops Q (o :: rest) a w := by
  obtain ⟨i0, hi0, hz0, hz1, hz2⟩ := info9
  refine wpList_append_src w hgd s x _ ho base 9 i0 (.string ⟨#[]⟩) 1 16 under_texts hi0 hz0 hz1 hz2 rfl (by decide) v xs.length (xs.map Value.string) hs hown vx ys.length (ys.map Value.string) hx ?_ ?_ ?_ ?_ hbase ?_
  · rcases hsrc with ⟨rfl, rfl⟩ | ⟨ad, c, rfl, hc⟩
    · exact .inl ⟨rfl, rfl, rfl⟩
    · refine .inr ⟨ad, c, rfl, by simp, fun j u hj => ?_⟩
      rw [List.getElem?_map] at hj
      obtain ⟨y, hy, rfl⟩ := Option.map_eq_some_iff.1 hj
      exact hc j y hy
  · intro u hu
    obtain ⟨y, _, rfl⟩ := List.mem_map.1 hu
    rfl
  · unfold maxLen; omega
  · omega
  · intro v' w' h1 h2 _
    refine h v' w' ?_ h2
    unfold OwnT
    rw [List.length_append, List.map_append]
    exact h1

/-- behind an append all that is not its row is as it was -/
theorem belowGrown {n : Nat} {w0 w w' : World} {v : Value} {xs : List ByteArray} {base : Nat} (hB : Below n w0 w) (hn : n ≤ base) (hnw : n ≤ w.heap.size) (hown : OwnT base w v xs) (hg : w.grownBy w' v.ownBlock) : Below n w0 w' :=
  hB.grown hg hnw fun k hk => Nat.le_trans hn (World.ownsRow.lt hown k hk).1

theorem srcOne (w : World) (s : ByteArray) (t : TypeId) : SrcT (w.alloc (.cells #[.string s] t)) (.slice (some ⟨w.heap.size, 0, none⟩) 1 1) [s] :=
  .inr ⟨_, _, rfl, fun j x hj => by
    have hj0 : j = 0 := by have := (List.getElem?_eq_some_iff.1 hj).1; simp at this; exact this
    subst hj0
    have : s = x := by simpa using hj
    subst this
    rw [Addr.add_lit, cell_newBlock]
    rfl⟩
/-- a slice of texts, as a value -/
def TextSl (w : World) (v : Value) (xs : List ByteArray) : Prop := (xs = [] ∧ v = .slice none 0 0) ∨ ∃ b o c, v = .slice (some ⟨b, o, none⟩) xs.length c ∧ TextsAt w b o xs
/-- .. in a block of its own -/
def TextNew (H : Nat) (w : World) (v : Value) (xs : List ByteArray) : Prop := (xs = [] ∧ v = .slice none 0 0) ∨ ∃ b c, v = .slice (some ⟨b, 0, none⟩) xs.length c ∧ H ≤ b ∧ TextsAt w b 0 xs ∧ xs.length ≤ c
theorem TextNew.mono {h h' : Nat} {w : World} {v : Value} {xs : List ByteArray} (hn : TextNew h w v xs) (hh : h' ≤ h) : TextNew h' w v xs := by
  rcases hn with hn | ⟨b, c, h1, h2, h3⟩
  · exact .inl hn
  · exact .inr ⟨b, c, h1, Nat.le_trans hh h2, h3⟩
theorem TextNew.H {h : Nat} {w : World} {v : Value} {xs : List ByteArray} (hn : TextNew h w v xs) : ∃ a c, v = .slice a xs.length c ∧ TextsH w a xs := by
  rcases hn with ⟨rfl, rfl⟩ | ⟨b, c, rfl, _, ht⟩
  · exact ⟨_, _, rfl, .inl rfl⟩
  · exact ⟨_, _, rfl, .inr ⟨b, 0, rfl, ht.1⟩⟩
theorem OwnT.sl {base : Nat} {w : World} {v : Value} {xs : List ByteArray} (h : OwnT base w v xs) : TextSl w v xs := by
  obtain ⟨a, c, rfl, ⟨rfl, rfl, rfl⟩ | ⟨g, rfl, _, _, ht, _⟩⟩ := h.shape
  · exact .inl ⟨rfl, rfl⟩
  · exact .inr ⟨g, 0, c, rfl, ht⟩

/-- a part of texts that lie somewhere, to be appended -/
theorem srcPart {w : World} {g o c n m : Nat} {xs ys : List ByteArray} (ht : TextsAt w g o xs) (hn : ys.length = n) (h : ∀ j x, ys[j]? = some x → xs[m + j]? = some x) : SrcT w (.slice (some ⟨g, o + m, none⟩) n c) ys := by
  subst hn
  exact .inr ⟨_, _, rfl, fun j x hj => by
    rw [Addr.add_lit]
    have := ht.cell _ _ (h j x hj)
    rw [← Nat.add_assoc] at this
    exact this⟩
end Go.Proofs.W
namespace Go.Proofs.W
open Go Go.Proofs Go.RowKit
set_option maxRecDepth 1000000

/-- what the look at lines' sizes says -/
def LinesLight (xs : List ByteArray) : Prop := xs.length ≤ 60 ∧ ∀ (j : Nat) d, xs[j]? = some d → d.size ≤ 300
def LinesLightSays (xs : List ByteArray) (e : Ending) : Prop := ∃ t, e = .returned (.bool t) ∧ (t = true → LinesLight xs)

set_option maxHeartbeats 4000000 in
theorem L03_Light (a : Option Addr) (c : Nat) (xs : List ByteArray) (w : World) (h : TextsH w a xs) (hlen : xs.length < 9223372036854775808) :
    Calls Tryz.prog 23 #[.slice a xs.length c] w fun e w' => LinesLightSays xs e ∧ w' = w := by
  go_enter Tryz.func23, Tryz.ntmps23
  go_wp2
  go_loop [3] (fun x => ∃ i : Nat, i ≤ xs.length ∧ x = .int .i64 i ∧ ∀ j d, j < i → xs[j]? = some d → d.size ≤ 300) (fun x => xs.length - (intOf x).toNat)
  case atStart => exact ⟨0, Nat.zero_le _, rfl, fun j d hj => absurd hj (Nat.not_lt_zero _)⟩
  case round =>
    obtain ⟨i, hi, rfl, hno⟩ := hrel
    by_cases hlt : i < xs.length
    · obtain h0 | ⟨b, o, rfl, hN⟩ := h
      · omega
      have hd : xs[i]? = some xs[i] := List.getElem?_eq_getElem hlt
      have c0 := hN.cell i _ hd
      have hlt' : (i : Int) < (xs.length : Int) := by omega
      have hnn : ¬ (i : Int) < 0 := by omega
      have hnn0 : (0 : Int) ≤ (i : Int) := by omega
      go_wp2
      all_goals first
        | (go_ret; exact ⟨⟨false, rfl, fun h => absurd h (by simp)⟩, rfl⟩)
        | (go_round
           case rel => exact ⟨i + 1, by omega, by push_cast; rfl, fun j d hj hd2 => by
             by_cases e : j = i
             · subst e
               rw [hd] at hd2
               obtain rfl := Option.some.inj hd2
               omega
             · exact hno j d (by omega) hd2⟩
           case measure => simp [intOf]; omega)
    · have hlt' : ¬ (i : Int) < (xs.length : Int) := by omega
      go_wp2
      go_ret
      refine ⟨⟨_, rfl, fun ht => ⟨?_, fun j d hj => hno j d (by have := (List.getElem?_eq_some_iff.1 hj).1; omega) hj⟩⟩, rfl⟩
      simp at ht
      omega
end Go.Proofs.W
namespace Go.Proofs.W
open Go Go.Proofs Go.RowKit
set_option maxRecDepth 1000000

set_option maxHeartbeats 4000000 in
theorem R01_Same (a a2 : Option Addr) (c c2 : Nat) (xs ys : List ByteArray) (w : World) (h : TextsH w a xs) (h2 : TextsH w a2 ys) (hlen : xs.length < 9223372036854775808) :
    Calls Tryz.prog 21 #[.slice a xs.length c, .slice a2 ys.length c2] w fun e w' => e = .returned (.bool (decide (xs = ys))) ∧ Below w.heap.size w w' := by
  by_cases hl : xs.length = ys.length
  · have hH : Hid (xs.length = ys.length) := hl
    rw [hl] at hlen ⊢
    clear hl
    go_enter Tryz.func21, Tryz.ntmps21
    go_wp2
    go_loopw [5] (fun x w' => Below w.heap.size w w' ∧ ∃ i : Nat, i ≤ ys.length ∧ x = .int .i64 i ∧ ∀ j, j < i → xs[j]? = ys[j]?) (fun x _ => ys.length - (intOf x).toNat)
    case atStart => exact ⟨Below.refl _ w, 0, Nat.zero_le _, rfl, fun j hj => absurd hj (Nat.not_lt_zero _)⟩
    case round =>
      obtain ⟨hB, i, hi, rfl, hno⟩ := hrel
      by_cases hlt : i < ys.length
      · obtain ⟨b2, o2, rfl, hN2⟩ : ∃ b o, a2 = some ⟨b, o, none⟩ ∧ TextsAt w b o ys := h2.resolve_left (by omega)
        obtain ⟨b, o, rfl, hN⟩ : ∃ b o, a = some ⟨b, o, none⟩ ∧ TextsAt w b o xs := h.resolve_left (by have : xs.length = ys.length := hH; omega)
        obtain ⟨x, hd⟩ : ∃ x, xs[i]? = some x := ⟨_, List.getElem?_eq_getElem (by have : xs.length = ys.length := hH; omega)⟩
        obtain ⟨y, hd2⟩ : ∃ y, ys[i]? = some y := ⟨_, List.getElem?_eq_getElem hlt⟩
        have c0 := (hN.below hB).cell i _ hd
        have c1 := (hN2.below hB).cell i _ hd2
        have hlt' : (i : Int) < (ys.length : Int) := by omega
        have hnn : ¬ (i : Int) < 0 := by omega
        have hnn0 : (0 : Int) ≤ (i : Int) := by omega
        have hBq : ∀ k, Below w.heap.size w (wr.drewN k) := fun k => belowTrans hB (belowDrew _ _)
        cases hq : (x.toList == y.toList)
        all_goals
          go_wp2_with fail
          go_quiet (fail)
          go_wp2
        all_goals first
          | (go_ret
             refine ⟨?_, hBq _⟩
             have hne : decide (xs = ys) = false := decide_eq_false fun e => by
               subst e
               rw [hd] at hd2
               obtain rfl := Option.some.inj hd2
               simp at hq
             rw [hne]
             rfl)
          | (go_roundw
             case rel => exact ⟨hBq _, i + 1, by omega, by push_cast; rfl, fun j hj => by
               by_cases e : j = i
               · subst e
                 rw [hd, hd2]
                 rw [toList_eq_iff] at hq
                 exact congrArg some (of_decide_eq_true hq)
               · exact hno j (by omega)⟩
             case measure => simp [intOf]; omega)
      · have hlt' : ¬ (i : Int) < (ys.length : Int) := by omega
        go_wp2
        go_ret
        refine ⟨?_, hB⟩
        have he : decide (xs = ys) = true := decide_eq_true <| List.ext_getElem? fun j => by
          have hx : xs.length = ys.length := hH
          by_cases hj : j < i
          · exact hno j hj
          · rw [List.getElem?_eq_none (by omega), List.getElem?_eq_none (by omega)]
        rw [he]
        rfl
  · have hl1 : ¬ (xs.length : Int) = (ys.length : Int) := by omega
    have hl2 : ((xs.length : Int) != (ys.length : Int)) = true := by simp; omega
    go_enter Tryz.func21, Tryz.ntmps21
    go_wp2
    go_ret
    refine ⟨?_, Below.refl _ _⟩
    have hne : decide (xs = ys) = false := decide_eq_false fun e => hl (congrArg List.length e)
    rw [hne]
    rfl
end Go.Proofs.W
