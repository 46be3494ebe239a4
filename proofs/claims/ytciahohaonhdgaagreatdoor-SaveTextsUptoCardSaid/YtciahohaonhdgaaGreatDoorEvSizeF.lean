/- A PART OF THE PROOF THAT SAVETEXTS HOLDS FOR EVERY INPUT OF BULK AT MOST 1048576. No condition beyond the given statement. This part: EvSizeF. -/
import Derived.Test.YtciahohaonhdgaaGreatDoorEvCore
import Derived.Test.YtciahohaonhdgaaGreatDoorEvCtx
import Derived.Laws.IdiomRangeMap
namespace Go.Ev
open Go
def sumStr : List AV → Option Nat
 | [] => some 0
 | .agg [.str s] :: r => (sumStr r).map (s.length + ·)
 | _ => none
def nodupN : List Nat → Bool
 | [] => true
 | b :: r => !r.contains b && nodupN r
def phiSize : List AV → Option AV
 | [.mdat _ _ us bs ck] => (sumStr us).bind fun n => (chk (Nat.blt n 4611686018427387904 && bs.all (fun b => Nat.blt b ck) && nodupN bs)).bind fun _ => some (.int .i64 n)
 | _ => none
end Go.Ev
namespace Go.Ev
open Go
section
variable {P : Program}
theorem run_next_at (w : World) (ty : TypeId) (r bm since c0 : Nat) (seen : Array Nat) (es : Array MapEntry) (clock : Nat) (hr : w.heap[r]? = some (.mapIter (some bm) since seen c0)) (hb : w.heap[bm]? = some (.map es clock))
  (hold : ∀ x ∈ es.toList, x.born < since) (hsc : since ≤ c0) :
  ((leftOf es seen).size = 0 ∧ (Instr.next (.pointer (some ⟨r, 0, none⟩)) false ty).run P w = .ok (.tuple #[.bool false]) w) ∨
  ∃ e ∈ (leftOf es seen).toList, ∃ w1 : World, w1.heap = w.heap.setIfInBounds r (.mapIter (some bm) since (seen.push e.born) clock) ∧ w1.os = w.os ∧ w1.tape = w.tape ∧ w1.output = w.output ∧
   (Instr.next (.pointer (some ⟨r, 0, none⟩)) false ty).run P w = .ok (.tuple #[.bool true, e.key, e.val]) w1 := by
 simp only [Instr.next, getObj, Sem.run_bind, Sem.run, hr, hb, Result.andThen, next_test_false seen es since c0 hold hsc, Bool.false_eq_true, if_false]
 unfold leftOf
 have hmem : ∀ x ∈ (Array.filter (fun e => !seen.contains e.born) es).toList, x.born < since := fun x hx => hold x (by simp at hx ⊢; exact hx.1)
 generalize Array.filter (fun e => !seen.contains e.born) es = L at hmem ⊢
 have e1 : L.filter (fun x => decide (x.born < since)) = L := Array.filter_eq_self.2 (fun x hx => by simpa using hmem x (by simpa using hx))
 have e2 : L.filter (fun x => decide (x.born ≥ since)) = #[] := by
  rw [Array.filter_eq_empty_iff]
  intro x hx
  have := hmem x (by simpa using hx)
  simp
  omega
 simp only [e1, e2, Array.append_empty]
 by_cases h0 : L.size = 0
 ·left
  have : L = #[] := Array.eq_empty_of_size_eq_zero h0
  subst this
  refine ⟨rfl, ?_⟩
  simp [choose, Sem.run, Question.forced]
 ·right
  have hne : L.isEmpty = false := by simp [Array.isEmpty, h0]
  simp only [hne, Bool.false_eq_true, if_false, Array.empty_append, Array.size_map]
  have hch : ∃ (j : Nat) (w1 : World), j < L.size ∧ w1.heap = w.heap ∧ w1.os = w.os ∧ w1.tape = w.tape ∧ w1.output = w.output ∧ (choose (Question.mapNext L.size)).run P w = .ok j w1 := by
   by_cases hf : L.size ≤ 1
   ·exact ⟨0, w, by omega, rfl, rfl, rfl, rfl, by simp [choose, Sem.run, Question.forced, hf]⟩
   ·exact ⟨_, w.drew, Nat.mod_lt _ (by omega), rfl, rfl, rfl, rfl, by
     simp only [choose, Sem.run, Question.forced, decide_eq_true_eq, hf, if_false, Question.cut]
     rfl⟩
  obtain ⟨j, w1, hj, h1, h2, h3, h4, hrun⟩ := hch
  refine ⟨L[j], by simp, { w1 with heap := w1.heap.setIfInBounds r (.mapIter (some bm) since (seen.push L[j].born) clock) }, by rw [h1], h2, h3, h4, ?_⟩
  have hset : ∀ (o' : Obj), (setObj r o').run P w1 = .ok () { w1 with heap := w1.heap.setIfInBounds r o' } := fun o' => by
   simp only [setObj, Sem.run]
   rw [h1, hr]
  simp only [hrun, Array.getElem?_map, Array.getElem?_eq_getElem hj, Option.map_some, Sem.run_bind, hset, Result.andThen]
  rfl
theorem run_entry_at (w : World) (r bm since : Nat) (seen : Array Nat) (es : Array MapEntry) (clock : Nat) (e : MapEntry) (hr : w.heap[r]? = some (.mapIter (some bm) since (seen.push e.born) clock)) (hb : w.heap[bm]? = some (.map es clock))
  (he : e ∈ es.toList) (hn : (es.toList.map (·.born)).Nodup) :
  (Instr.entry (.pointer (some ⟨r, 0, none⟩))).run P w = .ok (.tuple #[e.key, e.val]) w := by
 have hf : es.find? (·.born == e.born) = some e := by rw [← Array.find?_toList]; exact find_born e es.toList hn he
 simp only [Instr.entry, getObj, Sem.run_bind, Sem.run, hr, hb, Result.andThen, Array.back?_push, bne_self_eq_false, Bool.false_eq_true, if_false, hf]
 rfl
def txtLenL : List Value → Int
 | [.string s] => s.size
 | _ => 0
def txtLen : Value → Int
 | .agg a => txtLenL a.toList
 | _ => 0
theorem txtLenL_nn (l : List Value) : 0 ≤ txtLenL l := by
 unfold txtLenL; split <;> omega
theorem txtLen_nn (v : Value) : 0 ≤ txtLen v := by
 cases v <;> first | exact txtLenL_nn _ | exact Int.le_refl _
def gSum : List MapEntry → Array Nat → Int
 | [], _ => 0
 | e :: l, seen => (if seen.contains e.born then txtLen e.val else 0) + gSum l seen
theorem gSum_push (seen : Array Nat) (e : MapEntry) (hs : seen.contains e.born = false) : ∀ (l : List MapEntry), (l.map (·.born)).Nodup → e ∈ l → gSum l (seen.push e.born) = gSum l seen + txtLen e.val
 | x :: l, hn, he => by
  have hn' : x.born ∉ l.map (·.born) ∧ (l.map (·.born)).Nodup := List.nodup_cons.1 hn
  have other : ∀ (l : List MapEntry) (b : Nat), b ∉ l.map (·.born) → gSum l (seen.push b) = gSum l seen := fun l b => by
   induction l with
   | nil => intro _; rfl
   | cons y l ih =>
    intro hb
    have h1 : y.born ≠ b := fun e => hb (by simp [e])
    have h2 : (y.born == b) = false := by simpa using h1
    simp only [gSum, contains_push, h2, Bool.or_false, ih (fun h => hb (by simp at h ⊢; exact .inr h))]
  rcases List.mem_cons.1 he with rfl | h
  ·simp only [gSum, contains_push, hs, beq_self_eq_true, Bool.or_true, if_true, Bool.false_eq_true, if_false]
   rw [other l e.born hn'.1]
   omega
  ·have hx : (x.born == e.born) = false := by
    cases hc : x.born == e.born with
    | false => rfl
    | true => exact absurd (by rw [beq_iff_eq.1 hc]; exact List.mem_map.2 ⟨e, h, rfl⟩) hn'.1
   simp only [gSum, contains_push, hx, Bool.or_false]
   rw [gSum_push seen e hs l hn'.2 h]
   omega
theorem gSum_none : ∀ (l : List MapEntry), gSum l #[] = 0
 | [] => rfl
 | e :: l => by simp [gSum, gSum_none l]
theorem gSum_all (es : Array MapEntry) (seen : Array Nat) (h : (leftOf es seen).size = 0) : gSum es.toList seen = (es.toList.map fun e => txtLen e.val).sum := by
 have hall := all_seen es seen h
 generalize es.toList = l at hall
 induction l with
 | nil => rfl
 | cons e l ih =>
  simp only [gSum, List.map_cons, List.sum_cons]
  rw [if_pos (hall e (by simp)), ih (fun x hx => hall x (by simp [hx]))]
theorem gSum_le (seen : Array Nat) : ∀ (l : List MapEntry), 0 ≤ gSum l seen ∧ gSum l seen ≤ (l.map fun e => txtLen e.val).sum
 | [] => ⟨Int.le_refl _, Int.le_refl _⟩
 | e :: l => by
  obtain ⟨h1, h2⟩ := gSum_le seen l
  have := txtLen_nn e.val
  simp only [gSum, List.map_cons, List.sum_cons]
  split <;> omega
end
end Go.Ev
