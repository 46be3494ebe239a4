/- A PART OF THE PROOF THAT ONE CALL OF A LAW OF LAYER 46 (which of any patches have a line with any word) returns true, whatever the input; the input reads as it did. No condition beyond the given statement. This part: SetLaw. -/
import Derived.Lib.SlicesCompact
import Derived.Sort.Walk0
import Derived.Laws.Strings
namespace Go.Proofs.W
open Go

/-! ### A set of texts: laid in one by one, or sorted and struck: the same -/
abbrev L8 := List UInt8

def insS (x : L8) : List L8 → List L8
  | [] => [x]
  | y :: r => if y < x then y :: insS x r else if y = x then y :: r else x :: y :: r
def setS (l : List L8) : List L8 := l.foldl (fun o x => insS x o) []

theorem lt_tri (a b : L8) : a < b ∨ a = b ∨ b < a := by
  by_cases h : a < b
  · exact .inl h
  · by_cases h2 : b < a
    · exact .inr (.inr h2)
    · exact .inr (.inl (List.le_antisymm (List.not_lt.1 h2) (List.not_lt.1 h)))

theorem mem_insS (x z : L8) : ∀ l, z ∈ insS x l ↔ z = x ∨ z ∈ l
  | [] => by simp [insS]
  | y :: r => by
    unfold insS
    have ih := mem_insS x z r
    split
    · simp only [List.mem_cons, ih]
      constructor
      · rintro (h | h | h) <;> simp [h]
      · rintro (h | h | h) <;> simp [h]
    · split
      · rename_i h; subst h; simp
      · simp

def Rise (l : List L8) : Prop := l.Pairwise (· < ·)

theorem rise_insS (x : L8) : ∀ l, Rise l → Rise (insS x l)
  | [], _ => by simp [insS, Rise]
  | y :: r, h => by
    unfold insS
    have h1 : ∀ z ∈ r, y < z := (List.pairwise_cons.1 h).1
    have h2 : Rise r := (List.pairwise_cons.1 h).2
    split
    · rename_i hlt
      refine List.pairwise_cons.2 ⟨fun z hz => ?_, rise_insS x r h2⟩
      rcases (mem_insS x z r).1 hz with rfl | hz
      · exact hlt
      · exact h1 z hz
    · rename_i hn
      split
      · exact h
      · rename_i hne
        have hxy : x < y := by
          rcases lt_tri x y with h | h | h
          · exact h
          · exact absurd h.symm hne
          · exact absurd h hn
        refine List.pairwise_cons.2 ⟨fun z hz => ?_, h⟩
        rcases List.mem_cons.1 hz with rfl | hz
        · exact hxy
        · exact List.lt_trans hxy (h1 z hz)

theorem foldl_ins (l : List L8) : ∀ o, Rise o → Rise (l.foldl (fun o x => insS x o) o) ∧ ∀ z, z ∈ l.foldl (fun o x => insS x o) o ↔ z ∈ o ∨ z ∈ l := by
  induction l with
  | nil => intro o h; exact ⟨h, fun z => by simp⟩
  | cons x r ih =>
    intro o h
    obtain ⟨h1, h2⟩ := ih (insS x o) (rise_insS x o h)
    refine ⟨h1, fun z => ?_⟩
    simp only [List.foldl_cons]
    rw [h2, mem_insS]
    simp only [List.mem_cons]
    constructor
    · rintro ((h | h) | h) <;> simp [h]
    · rintro (h | h | h) <;> simp [h]

theorem rise_setS (l : List L8) : Rise (setS l) := (foldl_ins l [] List.Pairwise.nil).1
theorem mem_setS (l : List L8) (z : L8) : z ∈ setS l ↔ z ∈ l := by rw [setS, (foldl_ins l [] List.Pairwise.nil).2]; simp

theorem rise_ext : ∀ {a b : List L8}, Rise a → Rise b → (∀ z, z ∈ a ↔ z ∈ b) → a = b
  | [], [], _, _, _ => rfl
  | [], y :: r, _, _, h => absurd ((h y).2 (List.mem_cons_self ..)) (by simp)
  | x :: r, [], _, _, h => absurd ((h x).1 (List.mem_cons_self ..)) (by simp)
  | x :: r, y :: s, ha, hb, h => by
    have ha1 := (List.pairwise_cons.1 ha).1
    have hb1 := (List.pairwise_cons.1 hb).1
    have hxy : x = y := by
      rcases List.mem_cons.1 ((h x).1 (List.mem_cons_self ..)) with e | hx
      · exact e
      · rcases List.mem_cons.1 ((h y).2 (List.mem_cons_self ..)) with e | hy
        · exact e.symm
        · exact absurd (List.lt_trans (ha1 y hy) (hb1 x hx)) (List.lt_irrefl _)
    subst hxy
    congr 1
    refine rise_ext (List.pairwise_cons.1 ha).2 (List.pairwise_cons.1 hb).2 fun z => ?_
    constructor
    · intro hz
      rcases List.mem_cons.1 ((h z).1 (List.mem_cons_of_mem _ hz)) with e | h'
      · subst e; exact absurd (ha1 _ hz) (List.lt_irrefl _)
      · exact h'
    · intro hz
      rcases List.mem_cons.1 ((h z).2 (List.mem_cons_of_mem _ hz)) with e | h'
      · subst e; exact absurd (hb1 _ hz) (List.lt_irrefl _)
      · exact h'

/-- struck: of neighbours that are the same one stays -/
def strike : List L8 → List L8
  | [] => []
  | [x] => [x]
  | x :: y :: r => if x = y then strike (y :: r) else x :: strike (y :: r)

theorem mem_strike (z : L8) : ∀ l, z ∈ strike l ↔ z ∈ l
  | [] => by simp [strike]
  | [x] => by simp [strike]
  | x :: y :: r => by
    have ih := mem_strike z (y :: r)
    unfold strike
    split
    · rename_i e; subst e; rw [ih]; simp
    · rw [List.mem_cons, ih, List.mem_cons (a := z) (b := x)]
theorem rise_strike : ∀ l : List L8, l.Pairwise (· ≤ ·) → Rise (strike l)
  | [], _ => List.Pairwise.nil
  | [x], _ => by simp [strike, Rise]
  | x :: y :: r, h => by
    have h1 := (List.pairwise_cons.1 h).1
    have h2 := (List.pairwise_cons.1 h).2
    unfold strike
    split
    · exact rise_strike _ h2
    · rename_i hne
      refine List.pairwise_cons.2 ⟨fun z hz => ?_, rise_strike _ h2⟩
      rw [mem_strike] at hz
      have hxy : x < y := by
        rcases lt_tri x y with h | h | h
        · exact h
        · exact absurd h hne
        · exact absurd (h1 y (List.mem_cons_self ..)) (List.not_le.2 h)
      rcases List.mem_cons.1 hz with rfl | hz
      · exact hxy
      · have := (List.pairwise_cons.1 h2).1 z hz
        rcases lt_tri y z with h | h | h
        · exact List.lt_trans hxy h
        · subst h; exact hxy
        · exact absurd this (List.not_le.2 h)

/-- what comes behind a first element -/
def strikeFrom : L8 → List L8 → List L8
  | _, [] => []
  | x, y :: r => if y = x then strikeFrom y r else y :: strikeFrom y r
theorem strike_from (x : L8) : ∀ l, strike (x :: l) = x :: strikeFrom x l
  | [] => rfl
  | y :: r => by
    rw [strike, strikeFrom]
    have := strike_from y r
    by_cases h : x = y
    · subst h; rw [if_pos rfl, if_pos rfl, this]
    · rw [if_neg h, if_neg (fun e => h e.symm), this]

theorem compactUpTo_strike (zs : List L8) : ∀ m, m ≤ zs.length → Lib.compactUpTo zs.toArray m = strike (zs.take m) := by
  -- by snoc: striking a list with one more behind it
  have snoc : ∀ (l : List L8) (z : L8), strike (l ++ [z]) = strike l ++ (if l.getLast? = some z then [] else [z]) := by
    intro l z
    induction l with
    | nil => simp [strike]
    | cons x r ih =>
      cases r with
      | nil =>
        simp only [List.cons_append, List.nil_append, strike, List.getLast?_singleton]
        by_cases h : x = z
        · subst h; simp
        · simp [h]
      | cons y s =>
        simp only [List.cons_append] at ih ⊢
        rw [strike, strike, ih]
        have e : (x :: y :: s).getLast? = (y :: s).getLast? := by simp [List.getLast?_cons]
        rw [e]
        by_cases h : x = y
        · rw [if_pos h, if_pos h]
        · rw [if_neg h, if_neg h]; rfl
  intro m
  induction m with
  | zero => intro _; rfl
  | succ m ih =>
    intro h
    rw [Lib.compactUpTo_succ, ih (by omega), List.take_succ_eq_append_getElem (by omega), snoc]
    congr 1
    have hm : m < zs.length := by omega
    have e1 : zs.toArray[m]! = zs[m] := by simp [hm]
    by_cases h0 : m = 0
    · subst h0
      simp [Lib.keeps, e1]
    · have e2 : zs.toArray[m - 1]! = zs[m - 1] := by
        have : m - 1 < zs.length := by omega
        simp [this]
      have e3 : (zs.take m).getLast? = some zs[m - 1] := by
        rw [List.getLast?_take, if_neg h0, List.getElem?_eq_getElem (by omega)]
        rfl
      rw [e3, e1]
      unfold Lib.keeps
      rw [e1, e2]
      by_cases hq : zs[m] = zs[m - 1]
      · simp [h0, hq]
      · simp [h0, hq, Ne.symm hq]

/-- SORTED AND STRUCK, OR LAID IN ONE BY ONE: the same. -/
theorem compact_sort (zs : List L8) : Lib.compact (zs.mergeSort fun x y => decide (x ≤ y)) = setS zs := by
  have h := compactUpTo_strike (zs.mergeSort fun x y => decide (x ≤ y)) _ (Nat.le_refl _)
  unfold Lib.compact
  rw [h, List.take_length]
  refine rise_ext (rise_strike _ ?_) (rise_setS zs) fun z => ?_
  · have := List.pairwise_mergeSort (le := fun x y : L8 => decide (x ≤ y)) (fun a b c h1 h2 => by simp at *; exact List.le_trans h1 h2) (fun a b => by simp; exact List.le_total a b) zs
    exact this.imp fun h => by simpa using h
  · rw [mem_strike, mem_setS, (List.mergeSort_perm zs _).mem_iff]

/-- where it is laid in -/
theorem insS_at (x : L8) : ∀ (l : List L8) (k : Nat), k ≤ l.length → (∀ j (h : j < l.length), j < k → l[j] < x) → (∀ h : k < l.length, ¬ l[k] < x) →
    insS x l = if l[k]? = some x then l else l.take k ++ x :: l.drop k
  | [], k, hk, _, _ => by
    have : k = 0 := by simpa using hk
    subst this; simp [insS]
  | y :: r, 0, _, _, h => by
    have hn := h (by simp)
    simp only [List.getElem_cons_zero] at hn
    rw [insS, if_neg hn]
    by_cases e : y = x
    · simp [e]
    · simp [e]
  | y :: r, k + 1, hk, h1, h2 => by
    have hy := h1 0 (by simp) (by omega)
    simp only [List.getElem_cons_zero] at hy
    rw [insS, if_pos hy, insS_at x r k (by simpa using hk) (fun j hj hjk => h1 (j + 1) (Nat.succ_lt_succ hj) (Nat.succ_lt_succ hjk)) (fun h => h2 (Nat.succ_lt_succ h))]
    by_cases e : r[k]? = some x
    · simp [e]
    · simp [e]
end Go.Proofs.W
namespace Go.Proofs.W
open Go Go.Proofs

def l8 (s : ByteArray) : L8 := s.data.toList
def ofL8 (l : L8) : ByteArray := ⟨l.toArray⟩
theorem ofL8_l8 (s : ByteArray) : ofL8 (l8 s) = s := by cases s; simp [ofL8, l8]
theorem l8_ofL8 (l : L8) : l8 (ofL8 l) = l := by simp [ofL8, l8]
def setB (xs : List ByteArray) : List ByteArray := (setS (xs.map l8)).map ofL8
theorem setB_l8 (xs : List ByteArray) : (setB xs).map l8 = setS (xs.map l8) := by
  unfold setB
  rw [List.map_map]
  have : (l8 ∘ ofL8) = id := funext fun l => l8_ofL8 l
  rw [this, List.map_id]
theorem insS_length (x : L8) : ∀ l, (insS x l).length ≤ l.length + 1
  | [] => by simp [insS]
  | y :: r => by
    have := insS_length x r
    unfold insS
    split
    · simp; omega
    · split <;> simp
theorem foldl_ins_length (l : List L8) : ∀ o : List L8, (l.foldl (fun o x => insS x o) o).length ≤ o.length + l.length := by
  induction l with
  | nil => intro o; simp
  | cons x r ih => intro o; have := ih (insS x o); have := insS_length x o; simp only [List.foldl_cons, List.length_cons]; omega
theorem setB_length (xs : List ByteArray) : (setB xs).length ≤ xs.length := by
  have := foldl_ins_length (xs.map l8) []
  unfold setB setS
  simpa using this

def insB (x : ByteArray) (l : List ByteArray) : List ByteArray := (insS (l8 x) (l.map l8)).map ofL8
theorem setB_take (xs : List ByteArray) (k : Nat) (h : k < xs.length) : setB (xs.take (k + 1)) = insB xs[k] (setB (xs.take k)) := by
  unfold insB
  rw [setB_l8]
  unfold setB setS
  rw [List.take_succ_eq_append_getElem h, List.map_append, List.foldl_append]
  rfl
theorem map_ofL8_l8 (l : List ByteArray) : (l.map l8).map ofL8 = l := by
  rw [List.map_map]
  have : (ofL8 ∘ l8) = id := funext fun s => ofL8_l8 s
  rw [this, List.map_id]
theorem l8_inj {a b : ByteArray} (h : l8 a = l8 b) : a = b := by rw [← ofL8_l8 a, ← ofL8_l8 b, h]
theorem insB_at (x : ByteArray) (l : List ByteArray) (k : Nat) (hk : k ≤ l.length) (h1 : ∀ j (h : j < l.length), j < k → Op.bytesLess l[j].toList x.toList = true) (h2 : ∀ h : k < l.length, Op.bytesLess l[k].toList x.toList = false) :
    insB x l = if l[k]? = some x then l else l.take k ++ x :: l.drop k := by
  unfold insB
  rw [insS_at (l8 x) (l.map l8) k (by simpa using hk) (fun j hj hjk => ?_) (fun h => ?_)]
  · have e : (l.map l8)[k]? = some (l8 x) ↔ l[k]? = some x := by
      rw [List.getElem?_map]
      constructor
      · intro h
        obtain ⟨y, hy, he⟩ := Option.map_eq_some_iff.1 h
        rw [hy, l8_inj he]
      · intro h; rw [h]; rfl
    by_cases h : l[k]? = some x
    · rw [if_pos h, if_pos (e.2 h), map_ofL8_l8]
    · rw [if_neg h, if_neg (fun h' => h (e.1 h')), List.map_append, List.map_cons, ← List.map_take, ← List.map_drop, map_ofL8_l8, map_ofL8_l8, ofL8_l8]
  · have hj' : j < l.length := by simpa using hj
    have := h1 j hj' hjk
    rw [Go.Proofs.bytesLess_eq, ByteArray.toList_eq, ByteArray.toList_eq] at this
    simpa [l8] using of_decide_eq_true this
  · have hj' : k < l.length := by simpa using h
    have := h2 hj'
    rw [Go.Proofs.bytesLess_eq, ByteArray.toList_eq, ByteArray.toList_eq] at this
    simpa [l8] using of_decide_eq_false this

end Go.Proofs.W
