/- A PART OF THE PROOF THAT ONE CALL OF A LAW OF LAYER 46 (which of any patches have a line with any word) returns true, whatever the input; the input reads as it did. No condition beyond the given statement. This part: EvDraw. -/
import Derived.Test.YtklmbhogclaieaaGreatDoorEvSwap
namespace Go.Ev
open Go

/-! ### What is asked of a region whose order is open, without running it -/
def regionOkAt (ops : Array Oper) (befs : List Nat) : Bool :=
  Nat.beq befs.length ops.size && (number 0 ops.toList).all fun (o, i) =>
    o.after.toList.all (fun e => !(Region.binds .any e) || Nat.blt e.on i) &&
    Nat.beq (befs.getD i 0) (o.after.toList.foldl (fun s e => bif Region.binds .any e then s ||| 2 ^ e.on ||| befs.getD e.on 0 else s) 0) &&
    (number 0 ops.toList).all fun (o', j) => Nat.ble i j || (befs.getD i 0).testBit j || Oper.apart ops o' o

def regionOk (ops : Array Oper) : Bool := regionOkAt ops (Region.before ops).toList

def codeDraws : Code → Bool
  | .region _ ops true => regionOk ops
  | .seq a b => codeDraws a && codeDraws b
  | .cond _ a b => codeDraws a && codeDraws b
  | .block _ c => codeDraws c
  | .loop c => codeDraws c
  | _ => true

theorem mem_number : ∀ {l : List Oper} {k : Nat} {o : Oper} {i : Nat}, (o, i) ∈ number k l ↔ k ≤ i ∧ l[i - k]? = some o
  | [], k, o, i => by simp [number]
  | x :: r, k, o, i => by
    simp only [number, List.mem_cons, Prod.mk.injEq, mem_number (l := r) (k := k + 1)]
    constructor
    · rintro (⟨rfl, rfl⟩ | ⟨h1, h2⟩)
      · simp
      · refine ⟨by omega, ?_⟩
        have : i - k = (i - (k + 1)) + 1 := by omega
        rw [this, List.getElem?_cons_succ]; exact h2
    · rintro ⟨h1, h2⟩
      by_cases e : i = k
      · subst e
        simp at h2
        exact .inl ⟨h2.symm, rfl⟩
      · refine .inr ⟨by omega, ?_⟩
        have : i - k = (i - (k + 1)) + 1 := by omega
        rw [this, List.getElem?_cons_succ] at h2; exact h2

theorem mem_num {ops : Array Oper} {o : Oper} {i : Nat} : (o, i) ∈ number 0 ops.toList ↔ ops[i]? = some o := by
  rw [mem_number]; simp

theorem number_lt : ∀ {l : List Oper} {k : Nat}, (number k l).Pairwise fun p q => p.2 < q.2
  | [], k => .nil
  | x :: r, k => by
    refine List.Pairwise.cons (fun p hp => ?_) number_lt
    obtain ⟨o, i⟩ := p
    have := (mem_number.1 hp).1
    simp only
    omega

theorem testBit_fold {befs : List Nat} {j : Nat} : ∀ {l : List Edge} {s : Nat}, (l.foldl (fun s e => bif Region.binds .any e then s ||| 2 ^ e.on ||| befs.getD e.on 0 else s) s).testBit j = true →
    s.testBit j = true ∨ ∃ e ∈ l, Region.binds .any e = true ∧ (e.on = j ∨ (befs.getD e.on 0).testBit j = true)
  | [], s, h => .inl h
  | e :: r, s, h => by
    rw [List.foldl_cons] at h
    rcases testBit_fold h with h | ⟨e', he', h⟩
    · cases hb : Region.binds .any e with
      | false => rw [hb] at h; exact .inl h
      | true =>
        rw [hb] at h
        simp only [cond_true, Nat.testBit_or, Bool.or_eq_true, Nat.testBit_two_pow, decide_eq_true_eq] at h
        rcases h with (h | h) | h
        · exact .inl h
        · exact .inr ⟨e, by simp, hb, .inl h⟩
        · exact .inr ⟨e, by simp, hb, .inr h⟩
    · exact .inr ⟨e', by simp [he'], h⟩

structure RegOk (ops : Array Oper) (befs : List Nat) : Prop where
  len : befs.length = ops.size
  back : ∀ i o, ops[i]? = some o → ∀ e ∈ o.after.toList, Region.binds .any e = true → e.on < i
  f1 : ∀ i o, ops[i]? = some o → ∀ j, (befs.getD i 0).testBit j = true → ∃ e ∈ o.after.toList, Region.binds .any e = true ∧ (e.on = j ∨ (befs.getD e.on 0).testBit j = true)
  apart : ∀ i j o o', ops[i]? = some o → ops[j]? = some o' → j < i → (befs.getD i 0).testBit j = false → o'.apart ops o = true

theorem RegOk.of {ops : Array Oper} {befs : List Nat} (h : regionOkAt ops befs = true) : RegOk ops befs := by
  unfold regionOkAt at h
  simp only [Bool.and_eq_true, List.all_eq_true] at h
  obtain ⟨h0, h⟩ := h
  have at_ : ∀ i o, ops[i]? = some o → _ := fun i o ho => h (o, i) (mem_num.2 ho)
  refine ⟨(beq_iff _ _).1 h0, fun i o ho e he hb => ?_, fun i o ho j hj => ?_, fun i j o o' ho ho' hji hb => ?_⟩
  · have := (at_ i o ho).1.1 e he
    simp only [hb, Bool.not_true, Bool.false_or, Nat.blt_eq] at this
    exact this
  · have := (beq_iff _ _).1 (at_ i o ho).1.2
    rw [this] at hj
    rcases testBit_fold hj with h | h
    · simp at h
    · exact h
  · have := (at_ i o ho).2 (o', j) (mem_num.2 ho')
    simp only [Bool.or_eq_true, Nat.ble_eq] at this
    rcases this with (h | h) | h
    · omega
    · rw [hb] at h; cases h
    · exact h

theorem RegOk.f2 {ops : Array Oper} {befs : List Nat} (h : RegOk ops befs) : ∀ i j, (befs.getD i 0).testBit j = true → j < i := by
  intro i
  induction i using Nat.strongRecOn with
  | _ i ih =>
    intro j hj
    cases ho : ops[i]? with
    | none =>
      have : befs.length ≤ i := by rw [h.len]; exact Array.getElem?_eq_none_iff.1 ho
      rw [List.getD_eq_getElem?_getD, List.getElem?_eq_none this] at hj
      simp at hj
    | some o =>
      obtain ⟨e, he, hb, h1⟩ := h.f1 i o ho j hj
      have h2 := h.back i o ho e he hb
      rcases h1 with rfl | h1
      · exact h2
      · have := ih e.on h2 j h1
        omega

theorem weakAt_spec {C : Ctx} {j : Nat} : ∀ {ops : List Oper} {bs bef : List Nat} {k i : Nat} {o : Oper}, weakAt.go C bef j ops bs k = true → ops.length = bs.length → ops[i]? = some o →
    (quiet C o.op = true ∨ isLoad o.op = true ∨ blind o.op = true) ∨ k + i = j ∨ (k + i < j ∧ (bef.getD j 0).testBit (k + i) = true) ∨ (¬ k + i < j ∧ ∃ b, bs[i]? = some b ∧ b.testBit j = true)
  | [], _, _, _, i, o, _, _, ho => by simp at ho
  | x :: r, [], _, _, i, o, _, hl, _ => by simp at hl
  | x :: r, b :: bs, bef, k, i, o, h, hl, ho => by
    simp only [weakAt.go, Bool.and_eq_true, Bool.or_eq_true] at h
    cases i with
    | zero =>
      simp only [List.getElem?_cons_zero, Option.some.injEq] at ho
      subst ho
      rcases h.1 with (((h1 | h1) | h1) | h1) | h1
      · exact .inl (.inl h1)
      · exact .inl (.inr (.inl h1))
      · exact .inl (.inr (.inr h1))
      · exact .inr (.inl (by simpa using h1))
      · by_cases hlt : k < j
        · rw [show Nat.blt k j = true by simpa using hlt] at h1; exact .inr (.inr (.inl ⟨by simpa using hlt, by simpa using h1⟩))
        · rw [show Nat.blt k j = false by cases hq : Nat.blt k j with | false => rfl | true => exact absurd (by simpa using hq) hlt] at h1; exact .inr (.inr (.inr ⟨by simpa using hlt, b, rfl, by simpa using h1⟩))
    | succ i =>
      have := weakAt_spec (ops := r) (bs := bs) (bef := bef) (k := k + 1) (i := i) (o := o) h.2 (by simpa using hl) (by simpa using ho)
      have e : k + 1 + i = k + (i + 1) := by omega
      rw [e] at this
      simpa using this

theorem weakAt_cmp {C : Ctx} {ops : Array Oper} {bef : List Nat} (hl : bef.length = ops.size) {i j : Nat} {o : Oper} {p : Op} (h : weakAt C ops.toList bef p j = true) (ho : ops[i]? = some o) (hij : i ≠ j) (h1 : (bef.getD i 0).testBit j = false) (h2 : (bef.getD j 0).testBit i = false) :
    quiet C o.op = true ∨ isLoad o.op = true ∨ blind o.op = true := by
  unfold weakAt at h
  simp only [Bool.and_eq_true] at h
  have := weakAt_spec (i := i) (o := o) h.2 (by simp [hl]) (by simpa using ho)
  simp only [Nat.zero_add] at this
  rcases this with h | h | ⟨_, h⟩ | ⟨_, b, hb, h⟩
  · exact h
  · exact absurd h hij
  · rw [h2] at h; cases h
  · rw [List.getD_eq_getElem?_getD, hb] at h1
    simp only [Option.getD_some] at h1
    rw [h] at h1; cases h1

section
variable {C : Ctx} {call : CallF} {ops : Array Oper} {bef : List Nat} {base : Nat}

/-- ONE OPERATION IS TAKEN AHEAD. -/
theorem to_front {x : Oper} {i n : Nat} {l2 : List (Oper × Nat)} {fr' : Fr × Lg} : ∀ (l1 : List (Oper × Nat)) {fr : Fr × Lg}, fr.2.reads.length = n →
    (∀ p ∈ l1, ∀ {fr f1 f2 : Fr × Lg}, fr.2.reads.length = n → evOne C call base ops bef p.1 p.2 fr = some f1 → evOne C call base ops bef x i f1 = some f2 → ∃ f1', evOne C call base ops bef x i fr = some f1' ∧ evOne C call base ops bef p.1 p.2 f1' = some f2) →
    evDrawn C call base ops bef (l1 ++ (x, i) :: l2) fr = some fr' → ∃ f1, evOne C call base ops bef x i fr = some f1 ∧ evDrawn C call base ops bef (l1 ++ l2) f1 = some fr'
  | [], fr, _, _, h => by
    simp only [List.nil_append, evDrawn, Option.bind_eq_some_iff] at h ⊢
    exact h
  | (y, j) :: r, fr, hn, hs, h => by
    simp only [List.cons_append, evDrawn, Option.bind_eq_some_iff] at h
    obtain ⟨f1, h1, h2⟩ := h
    obtain ⟨f2, h3, h4⟩ := to_front r ((evOne_reads h1).trans hn) (fun p hp => hs p (by simp [hp])) h2
    obtain ⟨f1', h5, h6⟩ := hs (y, j) (by simp) hn h1 h3
    refine ⟨f1', h5, ?_⟩
    simp only [List.cons_append, evDrawn, Option.bind_eq_some_iff]
    exact ⟨f2, h6, h4⟩

/-- what is left to do -/
def left (ops : Array Oper) (listed : Array Bool) : List (Oper × Nat) := (number 0 ops.toList).filter fun p => !listed.getD p.2 true

theorem mem_left {listed : Array Bool} {o : Oper} {i : Nat} : (o, i) ∈ left ops listed ↔ ops[i]? = some o ∧ listed.getD i true = false := by
  unfold left
  rw [List.mem_filter, mem_num]
  simp

theorem left_set {listed : Array Bool} {o : Oper} {i : Nat} (hsz : listed.size = ops.size) (h : (o, i) ∈ left ops listed) : ∃ l1 l2, left ops listed = l1 ++ (o, i) :: l2 ∧ left ops (listed.setIfInBounds i true) = l1 ++ l2 ∧ ∀ p ∈ l1, p.2 < i := by
  obtain ⟨l1, l2, e⟩ := List.append_of_mem h
  have hp : (left ops listed).Pairwise fun p q => p.2 < q.2 := number_lt.filter _
  rw [e, List.pairwise_append] at hp
  obtain ⟨p1, p2, p3⟩ := hp
  rw [List.pairwise_cons] at p2
  have hi : i < listed.size := by
    have := (mem_left.1 h).1
    rw [hsz]
    exact (Array.getElem?_eq_some_iff.1 this).1
  refine ⟨l1, l2, e, ?_, fun p hp => p3 p hp (o, i) (by simp)⟩
  have key : left ops (listed.setIfInBounds i true) = (left ops listed).filter fun p => !(p.2 == i) := by
    unfold left
    rw [List.filter_filter]
    congr 1
    funext p
    obtain ⟨o', j⟩ := p
    simp only [Array.getD_eq_getD_getElem?, Array.getElem?_setIfInBounds]
    by_cases hj : i = j
    · subst hj; simp [hi]
    · rw [if_neg hj]
      have : (j == i) = false := by simpa using Ne.symm hj
      simp [this]
  rw [key, e, List.filter_append, List.filter_cons]
  simp only [BEq.rfl, Bool.not_true, Bool.false_eq_true, if_false]
  congr 1
  · refine List.filter_eq_self.2 fun p hp => ?_
    have := p3 p hp (o, i) (by simp)
    have : p.2 ≠ i := by simp only at this; omega
    simpa using this
  · refine List.filter_eq_self.2 fun p hp => ?_
    have := p2.1 p hp
    have : p.2 ≠ i := by simp only at this; omega
    simpa using this

end
end Go.Ev
