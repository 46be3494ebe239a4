/- A PART OF THE PROOF THAT SAVETEXTS HOLDS FOR EVERY INPUT OF BULK AT MOST 1048576. No condition beyond the given statement. This part: EvDraw. -/
import Derived.Test.YtciahohaonhdgaaGreatDoorEvSwap
namespace Go.Ev
open Go
def regionOkAt (ops : Array Oper) (befs : List Nat) : Bool :=
 Nat.beq befs.length ops.size && (number 0 ops.toList).all fun (o, i) =>
  o.after.toList.all (fun e => !(Region.binds .any e) || Nat.blt e.on i) &&
  Nat.beq (befs.getD i 0) (o.after.toList.foldl (fun s e => bif Region.binds .any e then s ||| 2 ^ e.on ||| befs.getD e.on 0 else s) 0) &&
  (number 0 ops.toList).all fun (o', j) => Nat.ble i j || (befs.getD i 0).testBit j || Oper.apart ops o' o
def regionOk (ops : Array Oper) : Bool := regionOkAt ops (Region.before ops).toList
def codeDraws : Code → Bool
 | .region _ ops true => regionOk ops
 | .seq a b => codeDraws a && codeDraws b
 | .cond _ a b => codeDraws a && codeDraws b
 | .block _ c => codeDraws c
 | .loop c => codeDraws c
 | _ => true
theorem mem_number : ∀ {l : List Oper} {k : Nat} {o : Oper} {i : Nat}, (o, i) ∈ number k l ↔ k ≤ i ∧ l[i - k]? = some o
 | [], k, o, i => by simp [number]
 | x :: r, k, o, i => by
  simp only [number, List.mem_cons, Prod.mk.injEq, mem_number (l := r) (k := k + 1)]
  constructor
  ·rintro (⟨rfl, rfl⟩ | ⟨h1, h2⟩)
   ·simp
   ·refine ⟨by omega, ?_⟩
    have : i - k = (i - (k + 1)) + 1 := by omega
    rw [this, List.getElem?_cons_succ]; exact h2
  ·rintro ⟨h1, h2⟩
   by_cases e : i = k
   ·subst e
    simp at h2
    exact .inl ⟨h2.symm, rfl⟩
   ·refine .inr ⟨by omega, ?_⟩
    have : i - k = (i - (k + 1)) + 1 := by omega
    rw [this, List.getElem?_cons_succ] at h2; exact h2
theorem mem_num {ops : Array Oper} {o : Oper} {i : Nat} : (o, i) ∈ number 0 ops.toList ↔ ops[i]? = some o := by
 rw [mem_number]; simp
theorem number_lt : ∀ {l : List Oper} {k : Nat}, (number k l).Pairwise fun p q => p.2 < q.2
 | [], k => .nil
 | x :: r, k => by
  refine List.Pairwise.cons (fun p hp => ?_) number_lt
  obtain ⟨o, i⟩ := p
  have := (mem_number.1 hp).1
  simp only
  omega
theorem testBit_fold {befs : List Nat} {j : Nat} : ∀ {l : List Edge} {s : Nat}, (l.foldl (fun s e => bif Region.binds .any e then s ||| 2 ^ e.on ||| befs.getD e.on 0 else s) s).testBit j = true →
  s.testBit j = true ∨ ∃ e ∈ l, Region.binds .any e = true ∧ (e.on = j ∨ (befs.getD e.on 0).testBit j = true)
 | [], s, h => .inl h
 | e :: r, s, h => by
  rw [List.foldl_cons] at h
  rcases testBit_fold h with h | ⟨e', he', h⟩
  ·cases hb : Region.binds .any e with
   | false => rw [hb] at h; exact .inl h
   | true =>
    rw [hb] at h
    simp only [cond_true, Nat.testBit_or, Bool.or_eq_true, Nat.testBit_two_pow, decide_eq_true_eq] at h
    rcases h with (h | h) | h
    ·exact .inl h
    ·exact .inr ⟨e, by simp, hb, .inl h⟩
    ·exact .inr ⟨e, by simp, hb, .inr h⟩
  ·exact .inr ⟨e', by simp [he'], h⟩
structure RegOk (ops : Array Oper) (befs : List Nat) : Prop where
 len : befs.length = ops.size
 back : ∀ i o, ops[i]? = some o → ∀ e ∈ o.after.toList, Region.binds .any e = true → e.on < i
 f1 : ∀ i o, ops[i]? = some o → ∀ j, (befs.getD i 0).testBit j = true → ∃ e ∈ o.after.toList, Region.binds .any e = true ∧ (e.on = j ∨ (befs.getD e.on 0).testBit j = true)
 apart : ∀ i j o o', ops[i]? = some o → ops[j]? = some o' → j < i → (befs.getD i 0).testBit j = false → o'.apart ops o = true
theorem RegOk.of {ops : Array Oper} {befs : List Nat} (h : regionOkAt ops befs = true) : RegOk ops befs := by
 unfold regionOkAt at h
 simp only [Bool.and_eq_true, List.all_eq_true] at h
 obtain ⟨h0, h⟩ := h
 have at_ : ∀ i o, ops[i]? = some o → _ := fun i o ho => h (o, i) (mem_num.2 ho)
 refine ⟨(beq_iff _ _).1 h0, fun i o ho e he hb => ?_, fun i o ho j hj => ?_, fun i j o o' ho ho' hji hb => ?_⟩
 ·have := (at_ i o ho).1.1 e he
  simp only [hb, Bool.not_true, Bool.false_or, Nat.blt_eq] at this
  exact this
 ·have := (beq_iff _ _).1 (at_ i o ho).1.2
  rw [this] at hj
  rcases testBit_fold hj with h | h
  ·simp at h
  ·exact h
 ·have := (at_ i o ho).2 (o', j) (mem_num.2 ho')
  simp only [Bool.or_eq_true, Nat.ble_eq] at this
  rcases this with (h | h) | h
  ·omega
  ·rw [hb] at h; cases h
  ·exact h
theorem RegOk.f2 {ops : Array Oper} {befs : List Nat} (h : RegOk ops befs) : ∀ i j, (befs.getD i 0).testBit j = true → j < i := by
 intro i
 induction i using Nat.strongRecOn with
 | _ i ih =>
  intro j hj
  cases ho : ops[i]? with
  | none =>
   have : befs.length ≤ i := by rw [h.len]; exact Array.getElem?_eq_none_iff.1 ho
   rw [List.getD_eq_getElem?_getD, List.getElem?_eq_none this] at hj
   simp at hj
  | some o =>
   obtain ⟨e, he, hb, h1⟩ := h.f1 i o ho j hj
   have h2 := h.back i o ho e he hb
   rcases h1 with rfl | h1
   ·exact h2
   ·have := ih e.on h2 j h1
    omega
theorem weakAt_spec {C : Ctx} {j : Nat} : ∀ {ops : List Oper} {bs bef : List Nat} {k i : Nat} {o : Oper}, weakAt.go C bef j ops bs k = true → ops.length = bs.length → ops[i]? = some o →
  (quiet C o.op = true ∨ isLoad o.op = true ∨ blind o.op = true) ∨ k + i = j ∨ (k + i < j ∧ (bef.getD j 0).testBit (k + i) = true) ∨ (¬ k + i < j ∧ ∃ b, bs[i]? = some b ∧ b.testBit j = true)
 | [], _, _, _, i, o, _, _, ho => by simp at ho
 | x :: r, [], _, _, i, o, _, hl, _ => by simp at hl
 | x :: r, b :: bs, bef, k, i, o, h, hl, ho => by
  simp only [weakAt.go, Bool.and_eq_true, Bool.or_eq_true] at h
  cases i with
  | zero =>
   simp only [List.getElem?_cons_zero, Option.some.injEq] at ho
   subst ho
   rcases h.1 with (((h1 | h1) | h1) | h1) | h1
   ·exact .inl (.inl h1)
   ·exact .inl (.inr (.inl h1))
   ·exact .inl (.inr (.inr h1))
   ·exact .inr (.inl (by simpa using h1))
   ·by_cases hlt : k < j
    ·rw [show Nat.blt k j = true by simpa using hlt] at h1; exact .inr (.inr (.inl ⟨by simpa using hlt, by simpa using h1⟩))
    ·rw [show Nat.blt k j = false by cases hq : Nat.blt k j with | false => rfl | true => exact absurd (by simpa using hq) hlt] at h1; exact .inr (.inr (.inr ⟨by simpa using hlt, b, rfl, by simpa using h1⟩))
  | succ i =>
   have := weakAt_spec (ops := r) (bs := bs) (bef := bef) (k := k + 1) (i := i) (o := o) h.2 (by simpa using hl) (by simpa using ho)
   have e : k + 1 + i = k + (i + 1) := by omega
   rw [e] at this
   simpa using this
theorem weakAt_cmp {C : Ctx} {ops : Array Oper} {bef : List Nat} (hl : bef.length = ops.size) {i j : Nat} {o : Oper} {p : Op} (h : weakAt C ops.toList bef p j = true) (ho : ops[i]? = some o) (hij : i ≠ j) (h1 : (bef.getD i 0).testBit j = false) (h2 : (bef.getD j 0).testBit i = false) :
  quiet C o.op = true ∨ isLoad o.op = true ∨ blind o.op = true := by
 unfold weakAt at h
 simp only [Bool.and_eq_true] at h
 have := weakAt_spec (i := i) (o := o) h.2 (by simp [hl]) (by simpa using ho)
 simp only [Nat.zero_add] at this
 rcases this with h | h | ⟨_, h⟩ | ⟨_, b, hb, h⟩
 ·exact h
 ·exact absurd h hij
 ·rw [h2] at h; cases h
 ·rw [List.getD_eq_getElem?_getD, hb] at h1
  simp only [Option.getD_some] at h1
  rw [h] at h1; cases h1
section
variable {C : Ctx} {call : CallF} {ops : Array Oper} {bef : List Nat} {base : Nat}
theorem to_front {x : Oper} {i n : Nat} {l2 : List (Oper × Nat)} {fr' : Fr × Lg} : ∀ (l1 : List (Oper × Nat)) {fr : Fr × Lg}, fr.2.reads.length = n →
  (∀ p ∈ l1, ∀ {fr f1 f2 : Fr × Lg}, fr.2.reads.length = n → evOne C call base ops bef p.1 p.2 fr = some f1 → evOne C call base ops bef x i f1 = some f2 → ∃ f1', evOne C call base ops bef x i fr = some f1' ∧ evOne C call base ops bef p.1 p.2 f1' = some f2) →
  evDrawn C call base ops bef (l1 ++ (x, i) :: l2) fr = some fr' → ∃ f1, evOne C call base ops bef x i fr = some f1 ∧ evDrawn C call base ops bef (l1 ++ l2) f1 = some fr'
 | [], fr, _, _, h => by
  simp only [List.nil_append, evDrawn, Option.bind_eq_some_iff] at h ⊢
  exact h
 | (y, j) :: r, fr, hn, hs, h => by
  simp only [List.cons_append, evDrawn, Option.bind_eq_some_iff] at h
  obtain ⟨f1, h1, h2⟩ := h
  obtain ⟨f2, h3, h4⟩ := to_front r ((evOne_reads h1).trans hn) (fun p hp => hs p (by simp [hp])) h2
  obtain ⟨f1', h5, h6⟩ := hs (y, j) (by simp) hn h1 h3
  refine ⟨f1', h5, ?_⟩
  simp only [List.cons_append, evDrawn, Option.bind_eq_some_iff]
  exact ⟨f2, h6, h4⟩
def left (ops : Array Oper) (listed : Array Bool) : List (Oper × Nat) := (number 0 ops.toList).filter fun p => !listed.getD p.2 true
theorem mem_left {listed : Array Bool} {o : Oper} {i : Nat} : (o, i) ∈ left ops listed ↔ ops[i]? = some o ∧ listed.getD i true = false := by
 unfold left
 rw [List.mem_filter, mem_num]
 simp
theorem left_set {listed : Array Bool} {o : Oper} {i : Nat} (hsz : listed.size = ops.size) (h : (o, i) ∈ left ops listed) : ∃ l1 l2, left ops listed = l1 ++ (o, i) :: l2 ∧ left ops (listed.setIfInBounds i true) = l1 ++ l2 ∧ ∀ p ∈ l1, p.2 < i := by
 obtain ⟨l1, l2, e⟩ := List.append_of_mem h
 have hp : (left ops listed).Pairwise fun p q => p.2 < q.2 := number_lt.filter _
 rw [e, List.pairwise_append] at hp
 obtain ⟨p1, p2, p3⟩ := hp
 rw [List.pairwise_cons] at p2
 have hi : i < listed.size := by
  have := (mem_left.1 h).1
  rw [hsz]
  exact (Array.getElem?_eq_some_iff.1 this).1
 refine ⟨l1, l2, e, ?_, fun p hp => p3 p hp (o, i) (by simp)⟩
 have key : left ops (listed.setIfInBounds i true) = (left ops listed).filter fun p => !(p.2 == i) := by
  unfold left
  rw [List.filter_filter]
  congr 1
  funext p
  obtain ⟨o', j⟩ := p
  simp only [Array.getD_eq_getD_getElem?, Array.getElem?_setIfInBounds]
  by_cases hj : i = j
  ·subst hj; simp [hi]
  ·rw [if_neg hj]
   have : (j == i) = false := by simpa using Ne.symm hj
   simp [this]
 rw [key, e, List.filter_append, List.filter_cons]
 simp only [BEq.rfl, Bool.not_true, Bool.false_eq_true, if_false]
 congr 1
 ·refine List.filter_eq_self.2 fun p hp => ?_
  have := p3 p hp (o, i) (by simp)
  have : p.2 ≠ i := by simp only at this; omega
  simpa using this
 ·refine List.filter_eq_self.2 fun p hp => ?_
  have := p2.1 p hp
  have : p.2 ≠ i := by simp only at this; omega
  simpa using this
end
end Go.Ev
namespace Go.Ev
open Go
theorem Sit.less {C w O B M H H'} (h : Sit C w O B M H) (hs : ∀ b blk, hget H' b = some blk → hget H b = some blk) : Sit C w O B M H' :=
 ⟨fun b blk hb => h.own b blk (hs b blk hb), fun b b' blk blk' cb base base' hb hb' => h.inj b b' blk blk' cb base base' (hs _ _ hb) (hs _ _ hb'), h.glob, h.sep, h.bl⟩
theorem share_le {base j n : Nat} (h : j < n) : base + j * share + share ≤ base + n * share := by
 have h3 : (j + 1) * share ≤ n * share := Nat.mul_le_mul_right _ h
 rw [Nat.add_mul, Nat.one_mul] at h3
 omega
theorem share_lt {base i j : Nat} (h : j < i) : base + j * share + share ≤ base + i * share := share_le h
def Mine (base i : Nat) (l : List Heap) : Prop := ∀ k (h : k < l.length), ∀ p ∈ l[k], base + (i + k) * share ≤ p.1 ∧ p.1 < base + (i + k) * share + share
theorem Mine.tail {base i : Nat} {D : Heap} {l : List Heap} (h : Mine base i (D :: l)) : Mine base (i + 1) l := fun k hk p hp => by
 have := h (k + 1) (by simpa using hk) p (by simpa using hp)
 rw [show i + (k + 1) = i + 1 + k by omega] at this
 exact this
theorem Mine.one {base i k k' : Nat} {l : List Heap} (h : Mine base i l) (hk : k < l.length) (hk' : k' < l.length) {b : Nat} {x y : Blk} (h1 : hget l[k] b = some x) (h2 : hget l[k'] b = some y) : k = k' := by
 have a1 := h k hk _ (hget_mem h1)
 have a2 := h k' hk' _ (hget_mem h2)
 simp only at a1 a2
 rcases Nat.lt_trichotomy k k' with h | h | h
 ·have := share_lt (base := base) (show i + k < i + k' by omega); omega
 ·exact h
 ·have := share_lt (base := base) (show i + k' < i + k by omega); omega
theorem hget_vis {base bef : Nat} : ∀ {l : List Heap} {i : Nat}, Mine base i l → ∀ {b : Nat} {x : Blk}, hget (vis bef l i) b = some x ↔ ∃ k, ∃ h : k < l.length, bef.testBit (i + k) = true ∧ hget l[k] b = some x
 | [], i, _, b, x => by simp [vis, hget]
 | D :: r, i, hm, b, x => by
  have ih := hget_vis (bef := bef) hm.tail (b := b) (x := x)
  have hm' := hm
  constructor
  ·intro h
   have later : hget (vis bef r (i + 1)) b = some x → ∃ k, ∃ h : k < (D :: r).length, bef.testBit (i + k) = true ∧ hget (D :: r)[k] b = some x := fun h => by
    obtain ⟨k, hk, h1, h2⟩ := ih.1 h
    exact ⟨k + 1, by simpa using hk, by rw [show i + (k + 1) = i + 1 + k by omega]; exact h1, by simpa using h2⟩
   unfold vis at h
   cases hb : bef.testBit i with
   | false => rw [hb] at h; exact later h
   | true =>
    rw [hb] at h
    simp only [cond_true, hget_append] at h
    cases hd : hget D b with
    | some y => rw [hd] at h; exact ⟨0, by simp, by simpa using hb, by simpa using hd.trans h⟩
    | none => rw [hd] at h; exact later h
  ·rintro ⟨k, hk, h1, h2⟩
   unfold vis
   cases k with
   | zero =>
    have h1 : bef.testBit i = true := by simpa using h1
    have h2 : hget D b = some x := by simpa using h2
    rw [h1]
    simp only [cond_true, hget_append, h2]
   | succ k =>
    have h3 : hget (vis bef r (i + 1)) b = some x := ih.2 ⟨k, by simpa using hk, by rw [show i + 1 + k = i + (k + 1) by omega]; exact h1, by simpa using h2⟩
    cases hb : bef.testBit i with
    | false => exact h3
    | true =>
     simp only [cond_true, hget_append]
     cases hd : hget D b with
     | none => exact h3
     | some y =>
      have := hm'.one (k := 0) (k' := k + 1) (by simp) hk (by simpa using hd) h2
      cases this
theorem hget_flat {base : Nat} : ∀ {l : List Heap} {i : Nat}, Mine base i l → ∀ {b : Nat} {x : Blk}, hget l.flatten b = some x ↔ ∃ k, ∃ h : k < l.length, hget l[k] b = some x
 | [], i, _, b, x => by simp [hget]
 | D :: r, i, hm, b, x => by
  have ih := hget_flat hm.tail (b := b) (x := x)
  have hm' := hm
  rw [List.flatten_cons, hget_append]
  constructor
  ·intro h
   cases hd : hget D b with
   | some y => rw [hd] at h; exact ⟨0, by simp, by simpa using hd.trans h⟩
   | none =>
    rw [hd] at h
    obtain ⟨k, hk, h2⟩ := ih.1 h
    exact ⟨k + 1, by simpa using hk, by simpa using h2⟩
  ·rintro ⟨k, hk, h2⟩
   cases k with
   | zero =>
    have h2 : hget D b = some x := by simpa using h2
    rw [h2]
   | succ k =>
    cases hd : hget D b with
    | none => exact ih.2 ⟨k, by simpa using hk, by simpa using h2⟩
    | some y =>
     have := hm'.one (k := 0) (k' := k + 1) (by simp) hk (by simpa using hd) h2
     cases this
theorem wipe_length (bef : Nat) : ∀ (l : List Heap) (i : Nat), (wipe bef l i).length = l.length
 | [], _ => rfl
 | _ :: r, i => by simp [wipe, wipe_length bef r (i + 1)]
theorem wipe_get (bef : Nat) : ∀ (l : List Heap) (i k : Nat) (h : k < (wipe bef l i).length), (wipe bef l i)[k] = bif bef.testBit (i + k) then [] else l[k]'(by rw [wipe_length] at h; exact h)
 | D :: r, i, 0, _ => by simp [wipe]
 | D :: r, i, k + 1, h => by
  simp only [wipe, List.getElem_cons_succ]
  rw [wipe_get bef r (i + 1) k]
  rw [show i + 1 + k = i + (k + 1) by omega]
structure Fit (base : Nat) (l : List Heap) (H : Heap) : Prop where
 mine : Mine base 0 l
 apart : ∀ k (h : k < l.length), ∀ p ∈ l[k], hget H p.1 = none
theorem Fit.flat {base : Nat} {l : List Heap} {H : Heap} (f : Fit base l H) {b : Nat} {x : Blk} : hget (l.flatten ++ H) b = some x ↔ (∃ k, ∃ h : k < l.length, hget l[k] b = some x) ∨ hget H b = some x := by
 rw [hget_append]
 have hf := fun y => hget_flat f.mine (b := b) (x := y)
 constructor
 ·intro h
  cases hd : hget l.flatten b with
  | some y => rw [hd] at h; exact .inl ((hf x).1 (hd.trans h))
  | none => rw [hd] at h; exact .inr h
 ·rintro (h | h)
  ·rw [(hf x).2 h]
  ·cases hd : hget l.flatten b with
   | none => exact h
   | some y =>
    obtain ⟨k, hk, h2⟩ := (hf y).1 hd
    have := f.apart k hk _ (hget_mem h2)
    simp only at this
    rw [h] at this; cases this
theorem Fit.seen {base bef : Nat} {l : List Heap} {H : Heap} (f : Fit base l H) {b : Nat} {x : Blk} : hget (vis bef l 0 ++ H) b = some x ↔ (∃ k, ∃ h : k < l.length, bef.testBit k = true ∧ hget l[k] b = some x) ∨ hget H b = some x := by
 rw [hget_append]
 have hf := fun y => hget_vis (bef := bef) f.mine (b := b) (x := y)
 simp only [Nat.zero_add] at hf
 constructor
 ·intro h
  cases hd : hget (vis bef l 0) b with
  | some y => rw [hd] at h; exact .inl ((hf x).1 (hd.trans h))
  | none => rw [hd] at h; exact .inr h
 ·rintro (h | h)
  ·rw [(hf x).2 h]
  ·cases hd : hget (vis bef l 0) b with
   | none => exact h
   | some y =>
    obtain ⟨k, hk, _, h2⟩ := (hf y).1 hd
    have := f.apart k hk _ (hget_mem h2)
    simp only at this
    rw [h] at this; cases this
theorem Fit.old {base : Nat} {l : List Heap} {H : Heap} (f : Fit base l H) {b : Nat} (hb : b < base) : hget (l.flatten ++ H) b = hget H b := by
 rw [hget_append]
 cases hd : hget l.flatten b with
 | none => rfl
 | some y =>
  obtain ⟨k, hk, h2⟩ := (hget_flat f.mine).1 hd
  have := f.mine k hk _ (hget_mem h2)
  simp only at this
  omega
theorem hget_of_mem : ∀ {H : Heap} {p : Nat × Blk}, p ∈ H → ∃ x, hget H p.1 = some x
 | (k, y) :: r, p, h => by
  rw [hget_cons]
  by_cases e : k = p.1
  ·rw [if_pos e]; exact ⟨_, rfl⟩
  ·rw [if_neg e]
   rcases List.mem_cons.1 h with rfl | h
   ·exact absurd rfl e
   ·exact hget_of_mem h
section
variable {P : Program} {C : Ctx} {B : Nat → Prop} {ops : Array Oper} {bef : List Nat} {base : Nat}
structure DR (C : Ctx) (B : Nat → Prop) (ops : Array Oper) (base : Nat) (w0 : World) (O0 : Nat → Prop) (M0 : MapB) (st0 : St) (listed : Array Bool) (w : World) (O : Nat → Prop) (M : MapB) (fl : Fr × Lg) (a : Act) : Prop where
 sit : Sit C w O B M (fl.2.made.flatten ++ fl.1.st.heap)
 alt : ∀ x, O x → x < w.heap.size
 free : ∀ b, fl.1.st.nxt ≤ b → M b = none
 slots : TR C w O B M fl.1.tmps a
 nodef : a.defers = []
 own : ∀ j, j < ops.size → listed.getD j true = false → ∀ b, base + j * share ≤ b → b < base + j * share + share → M b = none
 hi : base + ops.size * share ≤ fl.1.st.nxt
 step : Step C B true w0 O0 M0 st0 w O M (full fl.1.st fl.2)
 lo : st0.nxt = base
 mlen : fl.2.made.length = ops.size
 rlen : fl.2.reads.length = ops.size
 fit : Fit base fl.2.made fl.1.st.heap
theorem DR.ar {w0 : World} {O0 : Nat → Prop} {M0 : MapB} {st0 : St} {listed : Array Bool} {w : World} {O : Nat → Prop} {M : MapB} {fl : Fr × Lg} {a : Act} (h : DR C B ops base w0 O0 M0 st0 listed w O M fl a) : AR C B w O M (fullFr fl) a :=
 ⟨h.sit, h.alt, h.free, h.slots, h.nodef⟩
theorem listed_set {listed : Array Bool} {i j : Nat} (h : (listed.setIfInBounds i true).getD j true = false) : listed.getD j true = false ∧ j ≠ i := by
 simp only [Array.getD_eq_getD_getElem?, Array.getElem?_setIfInBounds] at h ⊢
 by_cases e : i = j
 ·subst e
  by_cases hlt : i < listed.size <;> simp [hlt] at h
 ·rw [if_neg e] at h
  exact ⟨h, Ne.symm e⟩
theorem act_weak {call : CallF} {o : Oper} {j : Nat} {ts : List AV} {st : St} {lg : Lg} (hgk : guardOk ops o ts = true) (hw : isWanted ops o ts = true) (hq : quiet C o.op = false) (hs : weakAt C ops.toList bef o.op j = true) : act C call base ops bef o j ts st lg = weakAct C call bef o j ts st lg := by
 unfold act; rw [hgk, hw, hq, hs]; rfl
theorem act_gen {call : CallF} {o : Oper} {j : Nat} {ts : List AV} {st : St} {lg : Lg} (hgk : guardOk ops o ts = true) (hw : isWanted ops o ts = true) (hq : quiet C o.op = false) (hs : weakAt C ops.toList bef o.op j = false) : act C call base ops bef o j ts st lg = genAct C call base bef o j ts st lg := by
 unfold act; rw [hgk, hw, hq, hs]; rfl
theorem evOne_sound (hT : TyOk P C) (hp : PrimsOk P C) {call : CallF} (hcall : CallOk P C call) {w0 : World} {O0 : Nat → Prop} {M0 : MapB} {st0 : St} {listed : Array Bool} {w : World} {O : Nat → Prop} {M : MapB} {fl fl1 : Fr × Lg} {a : Act} {Q : Exit → Act → World → Prop} {K : Act → World → Prop}
  (hd : DR C B ops base w0 O0 M0 st0 listed w O M fl a) {o : Oper} {i : Nat} (ho : ops[i]? = some o) (hli : listed.getD i true = false) (h : evOne C call base ops bef o i fl = some fl1)
  (hK : ∀ w' O' M' a', DR C B ops base w0 O0 M0 st0 (listed.setIfInBounds i true) w' O' M' fl1 a' → K a' w') : wpOp P ops Q i K a w := by
 have hlt : i < ops.size := (Array.getElem?_eq_some_iff.1 ho).1
 obtain ⟨fr, lg⟩ := fl
 have hrl := evOne_reads h
 have stay : ∀ {v : AV} {cv : Value}, VR C w O B M v cv → DR C B ops base w0 O0 M0 st0 (listed.setIfInBounds i true) w O M ({ tmps := putT fr.tmps o.dst v, st := fr.st }, lg) (a.put o.dst cv) := fun hv =>
  ⟨hd.sit, hd.alt, hd.free, hd.slots.put hv o.dst, put_nodef hd.nodef o.dst _, fun j hj hl => hd.own j hj (listed_set hl).1, hd.hi, hd.step, hd.lo, hd.mlen, hd.rlen, hd.fit⟩
 have hfit : Fit base lg.made fr.st.heap := hd.fit
 have hmlen : lg.made.length = ops.size := hd.mlen
 have hsitF : Sit C w O B M (lg.made.flatten ++ fr.st.heap) := hd.sit
 have hsee : ∀ b blk, hget (vis (bef.getD i 0) lg.made 0 ++ fr.st.heap) b = some blk → hget (lg.made.flatten ++ fr.st.heap) b = some blk := fun b blk hb => by
  rcases hfit.seen.1 hb with ⟨k, hk, _, h2⟩ | h2
  ·exact hfit.flat.2 (.inl ⟨k, hk, h2⟩)
  ·exact hfit.flat.2 (.inr h2)
 unfold wpOp
 rw [ho]
 simp only
 unfold evOne at h
 simp only [Option.map_eq_some_iff] at h
 obtain ⟨⟨v, st1, lg1⟩, h, rfl⟩ := h
 have hact := h
 unfold act at h
 cases hgk : guardOk ops o fr.tmps with
 | false => rw [hgk] at h; cases h
 | true =>
 rw [hgk] at h
 simp only [cond_true] at h
 rw [← isWanted_sound hd.slots hgk]
 cases hw : isWanted ops o fr.tmps with
 | false =>
  rw [hw] at h
  simp only [cond_false, Option.some.injEq, Prod.mk.injEq] at h
  obtain ⟨rfl, rfl, rfl⟩ := h
  simp only [Bool.false_eq_true, if_false]
  exact hK _ _ _ _ (stay undef_rel)
 | true =>
  rw [hw] at h
  simp only [cond_true] at h
  simp only [if_true]
  refine .inl ?_
  cases hq : quiet C o.op with
  | true =>
   rw [hq] at h
   simp only [cond_true, Option.map_eq_some_iff, Prod.mk.injEq] at h
   obtain ⟨⟨v', s'⟩, h, rfl, rfl, rfl⟩ := h
   have hnil : Sit C w O B M [] := hsitF.less fun b blk h => by simp [hget] at h
   obtain ⟨_, cv, h1, h2⟩ := quiet_sound (P := P) hT hnil hd.slots hq h
   exact wp_of_runs h1 (hK _ _ _ _ (stay h2))
  | false =>
   rw [hq] at h
   simp only [cond_false] at h
   cases hs : weakAt C ops.toList bef o.op i with
   | true =>
    rw [hs] at h
    simp only [cond_true] at h
    obtain ⟨hev, hro, rfl⟩ := weak_iff.1 ((act_weak hgk hw hq hs).symm.trans hact)
    have hsV : Sit C w O B M (vis (bef.getD i 0) lg.made 0 ++ fr.st.heap) := hsitF.less hsee
    refine evOp_sound hT hp hcall (serial := true) (st := { fr.st with heap := vis (bef.getD i 0) lg.made 0 ++ fr.st.heap }) hsV hd.slots hd.alt (fun _ => hd.free) (fun b hb _ => hd.free b hb) hev fun cv w1 O1 M1 hv k => ?_
    have hi : base + ops.size * share ≤ fr.st.nxt := hd.hi
    have hid : ∀ b x, (∃ k, ∃ hk : k < lg.made.length, (bef.getD i 0).testBit k = false ∧ hget lg.made[k] b = some x) → ∃ cb bs, M b = some (cb, bs) ∧ M1 b = some (cb, bs) ∧ w1.heap[cb]? = w.heap[cb]? ∧ O1 cb ∧ ¬ Image M1 st1.heap cb ∧ BlkR C w O B M cb bs x := fun b x ⟨k1, hk1, hb1, hg1⟩ => by
     obtain ⟨cb, bs, hM, hO, hr⟩ := hsitF.own b x (hfit.flat.2 (.inl ⟨k1, hk1, hg1⟩))
     have hni : ¬ Image M (vis (bef.getD i 0) lg.made 0 ++ fr.st.heap) cb := fun ⟨b', y, bs', hy, hM'⟩ => by
      have e := hsitF.inj b' b y x cb bs' bs (hsee _ _ hy) (hfit.flat.2 (.inl ⟨k1, hk1, hg1⟩)) hM' hM
      subst e
      rcases hfit.seen.1 hy with ⟨k2, hk2, hb2, hg2⟩ | h2
      ·have := hfit.mine.one hk1 hk2 hg1 hg2
       subst this
       rw [hb1] at hb2; cases hb2
      ·have := hfit.apart k1 hk1 _ (hget_mem hg1)
       simp only at this
       rw [h2] at this; cases this
     obtain ⟨r1, r2, r3⟩ := k.rest cb hO (hd.alt cb hO) hni
     have hbn : b < fr.st.nxt := by
      have := hfit.mine k1 hk1 _ (hget_mem hg1)
      simp only [Nat.zero_add] at this
      have := share_le (base := base) (show k1 < ops.size by omega)
      omega
     exact ⟨cb, bs, hM, by rw [k.map b (.inl hbn)]; exact hM, r1, r2, r3, hr⟩
    have hfit1 : Fit base (wipe (bef.getD i 0) lg.made 0) st1.heap := by
     refine ⟨fun k1 hk1 p hp => ?_, fun k1 hk1 p hp => ?_⟩
     ·have hk2 : k1 < lg.made.length := by rw [wipe_length] at hk1; exact hk1
      rw [wipe_get] at hp
      cases hb : (bef.getD i 0).testBit (0 + k1) with
      | true => rw [hb] at hp; simp at hp
      | false => rw [hb] at hp; exact hfit.mine k1 hk2 p hp
     ·have hk2 : k1 < lg.made.length := by rw [wipe_length] at hk1; exact hk1
      rw [wipe_get] at hp
      cases hb : (bef.getD i 0).testBit (0 + k1) with
      | true => rw [hb] at hp; simp at hp
      | false =>
       rw [hb] at hp
       obtain ⟨x, hx⟩ := hget_of_mem (show p ∈ lg.made[k1] from hp)
       obtain ⟨cb, bs, _, hM1, _, _, hni, _⟩ := hid p.1 x ⟨k1, hk2, by simpa using hb, hx⟩
       cases hg : hget st1.heap p.1 with
       | none => rfl
       | some y => exact absurd ⟨p.1, y, bs, hg, hM1⟩ hni
    have hcase : ∀ b x, hget ((wipe (bef.getD i 0) lg.made 0).flatten ++ st1.heap) b = some x → (∃ k, ∃ hk : k < lg.made.length, (bef.getD i 0).testBit k = false ∧ hget lg.made[k] b = some x) ∨ hget st1.heap b = some x := fun b x hb => by
     rcases hfit1.flat.1 hb with ⟨k1, hk1, hg⟩ | hg
     ·have hk2 : k1 < lg.made.length := by rw [wipe_length] at hk1; exact hk1
      rw [wipe_get] at hg
      cases hbt : (bef.getD i 0).testBit (0 + k1) with
      | true => rw [hbt] at hg; simp [hget] at hg
      | false => rw [hbt] at hg; exact .inl ⟨k1, hk2, by simpa using hbt, hg⟩
     ·exact .inr hg
    have hsit1 : Sit C w1 O1 B M1 ((wipe (bef.getD i 0) lg.made 0).flatten ++ st1.heap) := by
     refine ⟨fun b x hb => ?_, fun b b' x x' cb bs bs' hb hb' hm hm' => ?_, k.sit.glob, k.sit.sep, k.sit.bl⟩
     ·rcases hcase b x hb with hu | hb
      ·obtain ⟨cb, bs, hM, hM1, h1, h2, _, hr⟩ := hid b x hu
       exact ⟨cb, bs, hM1, h2, hr.mono k.ext h1⟩
      ·exact k.sit.own b x hb
     ·rcases hcase b x hb with hu | hu <;> rcases hcase b' x' hb' with hu' | hu'
      ·obtain ⟨c1, s1, m1, m1', _⟩ := hid b x hu
       obtain ⟨c2, s2, m2, m2', _⟩ := hid b' x' hu'
       rw [hm] at m1'; rw [hm'] at m2'
       obtain ⟨rfl, rfl⟩ := Prod.mk.inj (Option.some.inj m1')
       obtain ⟨rfl, rfl⟩ := Prod.mk.inj (Option.some.inj m2')
       obtain ⟨k1, hk1, _, hg1⟩ := hu
       obtain ⟨k2, hk2, _, hg2⟩ := hu'
       exact hsitF.inj b b' x x' _ _ _ (hfit.flat.2 (.inl ⟨k1, hk1, hg1⟩)) (hfit.flat.2 (.inl ⟨k2, hk2, hg2⟩)) m1 m2
      ·obtain ⟨c1, s1, m1, m1', _, _, hni, _⟩ := hid b x hu
       rw [hm] at m1'
       obtain ⟨rfl, rfl⟩ := Prod.mk.inj (Option.some.inj m1')
       exact absurd ⟨b', x', bs', hu', hm'⟩ hni
      ·obtain ⟨c1, s1, m1, m1', _, _, hni, _⟩ := hid b' x' hu'
       rw [hm'] at m1'
       obtain ⟨rfl, rfl⟩ := Prod.mk.inj (Option.some.inj m1')
       exact absurd ⟨b, x, bs, hu, hm⟩ hni
      ·exact k.sit.inj b b' x x' cb bs bs' hu hu' hm hm'
    have kstep : Step C B true w O M (full fr.st lg) w1 O1 M1 (full st1 { made := wipe (bef.getD i 0) lg.made 0, reads := lg.reads, effs := (i, fr.st.heap, st1.heap) :: lg.effs }) := by
     refine ⟨k.ext, hsit1, k.map, k.nxt, k.low, fun b hb hl => ?_, fun cb hO hl hni => ?_, k.lt, fun e => by cases e⟩
     ·have hkk : hget st1.heap b = hget (vis (bef.getD i 0) lg.made 0 ++ fr.st.heap) b := k.kept b hb hl
      show hget ((wipe (bef.getD i 0) lg.made 0).flatten ++ st1.heap) b = hget (lg.made.flatten ++ fr.st.heap) b
      cases hq1 : hget (lg.made.flatten ++ fr.st.heap) b with
      | none =>
       cases hq2 : hget ((wipe (bef.getD i 0) lg.made 0).flatten ++ st1.heap) b with
       | none => rfl
       | some y =>
        rcases hcase b y hq2 with ⟨k1, hk1, _, hg1⟩ | hu
        ·rw [hfit.flat.2 (.inl ⟨k1, hk1, hg1⟩)] at hq1; cases hq1
        ·rw [hkk] at hu
         rw [hsee _ _ hu] at hq1; cases hq1
      | some y =>
       rcases hfit.flat.1 hq1 with ⟨k1, hk1, hg1⟩ | hu
       ·cases hb1 : (bef.getD i 0).testBit k1 with
        | true =>
         have : hget st1.heap b = some y := by rw [hkk]; exact hfit.seen.2 (.inl ⟨k1, hk1, hb1, hg1⟩)
         exact hfit1.flat.2 (.inr this)
        | false => exact hfit1.flat.2 (.inl ⟨k1, by rw [wipe_length]; exact hk1, by rw [wipe_get]; simp only [Nat.zero_add, hb1, cond_false]; exact hg1⟩)
       ·have : hget st1.heap b = some y := by rw [hkk]; exact hfit.seen.2 (.inr hu)
        exact hfit1.flat.2 (.inr this)
     ·obtain ⟨r1, r2, r3⟩ := k.rest cb hO hl fun ⟨b, x, bs, hx, hM⟩ => hni ⟨b, x, bs, hsee _ _ hx, hM⟩
      refine ⟨r1, r2, fun ⟨b, x, bs, hx, hM⟩ => ?_⟩
      rcases hcase b x hx with hu | hu
      ·obtain ⟨c1, s1, m1, m1', _⟩ := hid b x hu
       rw [hM] at m1'
       obtain ⟨rfl, rfl⟩ := Prod.mk.inj (Option.some.inj m1')
       obtain ⟨k1, hk1, _, hg1⟩ := hu
       exact hni ⟨b, x, _, hfit.flat.2 (.inl ⟨k1, hk1, hg1⟩), m1⟩
      ·exact r3 ⟨b, x, bs, hu, hM⟩
    refine hK _ _ _ _ ⟨hsit1, k.lt hd.alt, fun b hb => ?_, (hd.slots.mono k.ext).put hv o.dst, put_nodef hd.nodef o.dst cv, fun j hj hl b h1 h2 => ?_, Nat.le_trans hi k.nxt, hd.step.trans kstep, hd.lo, by simp only [wipe_length]; exact hmlen, hd.rlen, hfit1⟩
    ·have hb : st1.nxt ≤ b := hb
     rw [k.map b (.inr hb)]
     exact hd.free b (Nat.le_trans k.nxt hb)
    ·have := share_le (base := base) hj
     rw [k.map b (.inl (show b < fr.st.nxt by omega))]
     exact hd.own j hj (listed_set hl).1 b h1 h2
   | false =>
    rw [hs] at h
    simp only [cond_false] at h
    obtain ⟨s', hev, hmade, hro, rfl, rfl⟩ := gen_iff.1 ((act_gen hgk hw hq hs).symm.trans hact)
    generalize hD : s'.heap.take (s'.nxt - (base + i * share)) = D at hmade
    have g : s'.nxt < base + i * share + share ∧ (∀ p ∈ D, base + i * share ≤ p.1 ∧ p.1 < base + i * share + share) := by
     unfold madeOk at hmade
     simp only [Bool.and_eq_true, List.all_eq_true, Nat.blt_eq, Nat.ble_eq] at hmade
     exact ⟨hmade.1.1, hmade.1.2⟩
    obtain ⟨g3, g4⟩ := g
    have hmine := hd.own i hlt hli
    generalize hV : (bif isLoad o.op then fr.st.heap else vis (bef.getD i 0) lg.made 0 ++ fr.st.heap) = V at hev
    have hVF : ∀ b blk, hget V b = some blk → hget (lg.made.flatten ++ fr.st.heap) b = some blk := fun b blk hb => by
     cases hl : isLoad o.op with
     | true => rw [hl] at hV; simp only [cond_true] at hV; subst hV; exact hfit.flat.2 (.inr hb)
     | false => rw [hl] at hV; simp only [cond_false] at hV; subst hV; exact hsee _ _ hb
    refine evOp_sound hT hp hcall (serial := false) (st := { heap := V, nxt := base + i * share, low := 0 }) (hsitF.less hVF) hd.slots hd.alt (fun e => by cases e) (fun b h1 h2 => hmine b h1 (by omega)) hev fun cv w1 O1 M1 hv k => ?_
    have S := k.still rfl
    have hnx : base + i * share ≤ s'.nxt := k.nxt
    obtain ⟨D', hD1, hD2, hD3⟩ := S.made
    have hDD : D = D' := by
     rw [← hD, hD1]
     have hD2 : D'.length = s'.nxt - (base + i * share) := hD2
     rw [← hD2, List.take_left]
    subst hDD
    have hDn : ∀ p ∈ D, M p.1 = none := fun p hp => hmine p.1 (g4 p hp).1 (g4 p hp).2
    have hHn : ∀ p ∈ D, hget (lg.made.flatten ++ fr.st.heap) p.1 = none := fun p hp => by
     cases hq : hget (lg.made.flatten ++ fr.st.heap) p.1 with
     | none => rfl
     | some blk =>
      obtain ⟨cb, bs, hM, _⟩ := hsitF.own _ _ hq
      rw [hDn p hp] at hM; cases hM
    have hi0 : ∀ b x, ∀ hk : i < lg.made.length, hget lg.made[i] b = some x → False := fun b x hk hx => by
     obtain ⟨cb, bs, hM, _⟩ := hsitF.own b x (hfit.flat.2 (.inl ⟨i, hk, hx⟩))
     have := hfit.mine i hk _ (hget_mem hx)
     simp only [Nat.zero_add] at this
     rw [hmine b this.1 this.2] at hM; cases hM
    have hfit1 : Fit base (setL lg.made i D) fr.st.heap := by
     refine ⟨fun k1 hk1 p hp => ?_, fun k1 hk1 p hp => ?_⟩
     ·rw [setL_get] at hp
      by_cases e : k1 = i
      ·subst e; rw [if_pos rfl] at hp; simpa using g4 p hp
      ·rw [if_neg e] at hp; exact hfit.mine k1 (by rw [setL_length] at hk1; exact hk1) p hp
     ·rw [setL_get] at hp
      by_cases e : k1 = i
      ·subst e
       rw [if_pos rfl] at hp
       cases hg : hget fr.st.heap p.1 with
       | none => rfl
       | some y =>
        have := hHn p hp
        rw [hfit.flat.2 (.inr hg)] at this; cases this
      ·rw [if_neg e] at hp; exact hfit.apart k1 (by rw [setL_length] at hk1; exact hk1) p hp
    have hcase : ∀ b blk, hget ((setL lg.made i D).flatten ++ fr.st.heap) b = some blk → hget D b = some blk ∨ hget (lg.made.flatten ++ fr.st.heap) b = some blk := fun b blk hb => by
     rcases hfit1.flat.1 hb with ⟨k1, hk1, hg⟩ | hg
     ·rw [setL_get] at hg
      by_cases e : k1 = i
      ·subst e; rw [if_pos rfl] at hg; exact .inl hg
      ·rw [if_neg e] at hg; exact .inr (hfit.flat.2 (.inl ⟨k1, by rw [setL_length] at hk1; exact hk1, hg⟩))
     ·exact .inr (hfit.flat.2 (.inr hg))
    have hold : ∀ {b blk}, hget (lg.made.flatten ++ fr.st.heap) b = some blk → hget ((setL lg.made i D).flatten ++ fr.st.heap) b = some blk := fun {b blk} hb => by
     rcases hfit.flat.1 hb with ⟨k1, hk1, hg⟩ | hg
     ·have e : k1 ≠ i := fun e => by subst e; exact hi0 b blk hk1 hg
      exact hfit1.flat.2 (.inl ⟨k1, by rw [setL_length]; exact hk1, by rw [setL_get, if_neg e]; exact hg⟩)
     ·exact hfit1.flat.2 (.inr hg)
    have hnew : ∀ {b blk}, hget D b = some blk → hget s'.heap b = some blk := fun {b blk} hb => by
     rw [hD1, hget_append, hb]
    have hrange : ∀ {b blk}, hget D b = some blk → base + i * share ≤ b ∧ b < s'.nxt := fun {b blk} hb => hD3 _ (hget_mem hb)
    have hM1 : ∀ {b}, (b < base + i * share ∨ s'.nxt ≤ b) → M1 b = M b := fun {b} hb => k.map b hb
    have hsub := k.ext.sub
    have hi : base + ops.size * share ≤ fr.st.nxt := hd.hi
    have hsl := share_le (base := base) hlt
    have hsit : Sit C w1 O1 B M1 ((setL lg.made i D).flatten ++ fr.st.heap) := by
     refine ⟨fun b blk hb => ?_, fun b b' blk blk' cb bs bs' hb hb' hm hm' => ?_, k.sit.glob, k.sit.sep, k.sit.bl⟩
     ·rcases hcase b blk hb with hb | hb
      ·exact k.sit.own b blk (hnew hb)
      ·obtain ⟨cb, bs, hm, hO, hr⟩ := hsitF.own b blk hb
       exact ⟨cb, bs, hsub _ _ hm, S.up _ hO, hr.mono k.ext (S.old cb (hsitF.lt hb hm))⟩
     ·rcases hcase b blk hb with hb1 | hb1 <;> rcases hcase b' blk' hb' with hb2 | hb2
      ·exact k.sit.inj b b' blk blk' cb bs bs' (hnew hb1) (hnew hb2) hm hm'
      ·exfalso
       have r := hrange hb1
       have h1 := S.far b cb bs blk r.1 r.2 (hnew hb1) hm
       obtain ⟨cb2, bs2, hm2, _⟩ := hsitF.own b' blk' hb2
       have e := hsub _ _ hm2
       rw [hm'] at e
       obtain ⟨rfl, rfl⟩ := Prod.mk.inj (Option.some.inj e)
       have := hsitF.lt hb2 hm2
       omega
      ·exfalso
       have r := hrange hb2
       have h1 := S.far b' cb bs' blk' r.1 r.2 (hnew hb2) hm'
       obtain ⟨cb2, bs2, hm2, _⟩ := hsitF.own b blk hb1
       have e := hsub _ _ hm2
       rw [hm] at e
       obtain ⟨rfl, rfl⟩ := Prod.mk.inj (Option.some.inj e)
       have := hsitF.lt hb1 hm2
       omega
      ·obtain ⟨c1, s1, m1, _⟩ := hsitF.own b blk hb1
       obtain ⟨c2, s2, m2, _⟩ := hsitF.own b' blk' hb2
       have e1 := hsub _ _ m1
       have e2 := hsub _ _ m2
       rw [hm] at e1; rw [hm'] at e2
       obtain ⟨rfl, rfl⟩ := Prod.mk.inj (Option.some.inj e1)
       obtain ⟨rfl, rfl⟩ := Prod.mk.inj (Option.some.inj e2)
       exact hsitF.inj b b' blk blk' _ _ _ hb1 hb2 m1 m2
    have hlt1 : ∀ x, O1 x → x < w1.heap.size := k.lt hd.alt
    have hdlo := hd.lo
    have kstep : Step C B true w0 O0 M0 st0 w1 O1 M1 (full fr.st { made := setL lg.made i D, reads := rset lg.reads i (readOf C (opVal C fr.tmps) o.op), effs := lg.effs }) := by
     have hs0 := hd.step
     refine ⟨hs0.ext.trans k.ext, hsit, fun b hb => ?_, hs0.nxt, hs0.low, fun b h1 h2 => ?_, fun cb hO hl hni => ?_, fun hl => k.lt (hs0.lt hl), fun e => by cases e⟩
     ·have hb : b < st0.nxt ∨ fr.st.nxt ≤ b := hb
      rw [hM1 (by omega)]
      exact hs0.map b hb
     ·have h3 := hs0.kept b h1 h2
      have h3 : hget (lg.made.flatten ++ fr.st.heap) b = hget st0.heap b := h3
      rw [hfit.old (by omega)] at h3
      show hget ((setL lg.made i D).flatten ++ fr.st.heap) b = _
      rw [hfit1.old (by omega)]
      exact h3
     ·obtain ⟨r1, r2, r3⟩ := hs0.rest cb hO hl hni
      have hlw : cb < w.heap.size := hd.alt cb r2
      refine ⟨(S.old cb hlw).trans r1, S.up cb r2, fun ⟨b, x, bs, hx, hm⟩ => ?_⟩
      rcases hcase b x hx with hb | hb
      ·have r := hrange hb
       have := S.far b cb bs x r.1 r.2 (hnew hb) hm
       omega
      ·obtain ⟨c1, s1, m1, _⟩ := hsitF.own b x hb
       have e1 := hsub _ _ m1
       rw [hm] at e1
       obtain ⟨rfl, rfl⟩ := Prod.mk.inj (Option.some.inj e1)
       exact r3 ⟨b, x, _, hb, m1⟩
    refine hK _ _ _ _ ⟨by rw [hD]; exact hsit, hlt1, fun b hb => ?_, (hd.slots.mono k.ext).put hv o.dst, put_nodef hd.nodef o.dst cv, fun j hj hl b h1 h2 => ?_, hi, by rw [hD]; exact kstep, hd.lo, by simp only [setL_length]; exact hmlen, hrl.trans hd.rlen, by rw [hD]; exact hfit1⟩
    ·have hb : fr.st.nxt ≤ b := hb
     rw [hM1 (.inr (by omega))]
     exact hd.free b hb
    ·obtain ⟨hl, hne⟩ := listed_set hl
     have : b < base + i * share ∨ s'.nxt ≤ b := by
      rcases Nat.lt_or_gt_of_ne hne with h | h
      ·have := share_lt (base := base) h; omega
      ·have := share_lt (base := base) h; omega
     rw [hM1 this]
     exact hd.own j hj hl b h1 h2
theorem draw_any (hT : TyOk P C) (hp : PrimsOk P C) {call : CallF} (hcall : CallOk P C call) (hR : RegOk ops bef) {w0 : World} {O0 : Nat → Prop} {M0 : MapB} {st0 : St} {fl' : Fr × Lg} {Q : Exit → Act → World → Prop}
  (hQ : ∀ w' O' M' a', AR C B w' O' M' (fullFr fl') a' → Step C B true w0 O0 M0 st0 w' O' M' (fullFr fl').st → Q .normal a' w') : ∀ (fuel : Nat) {listed : Array Bool} {w : World} {O : Nat → Prop} {M : MapB} {fr : Fr × Lg} {a : Act}, listed.size = ops.size → (left ops listed).length = fuel →
  (∀ k, k < ops.size → listed.getD k true = true → ∀ j, (bef.getD k 0).testBit j = true → listed.getD j true = true) →
  evDrawn C call base ops bef (left ops listed) fr = some fl' → DR C B ops base w0 O0 M0 st0 listed w O M fr a → wpAny P .any ops Q fuel listed a w
 | 0, listed, w, O, M, fr, a, hsz, hlen, hcl, h, hd => by
  have hnil : left ops listed = [] := List.length_eq_zero_iff.1 hlen
  rw [hnil] at h
  simp only [evDrawn, Option.some.injEq] at h
  subst h
  refine ⟨?_, hQ _ _ _ _ hd.ar hd.step⟩
  unfold Region.ready
  rw [List.filter_eq_nil_iff]
  intro i hi
  rw [List.mem_range] at hi
  have hno : (ops[i], i) ∉ left ops listed := by rw [hnil]; simp
  rw [mem_left] at hno
  have : listed.getD i true = true := by
   cases hq : listed.getD i true with
   | true => rfl
   | false => exact absurd ⟨by simp [hi], hq⟩ hno
  simp [this]
 | fuel + 1, listed, w, O, M, fr, a, hsz, hlen, hcl, h, hd => by
  have rdy : ∀ i, i ∈ Region.ready .any ops listed ↔ ∃ o, ops[i]? = some o ∧ listed.getD i true = false ∧ ∀ e ∈ o.after.toList, Region.binds .any e = true → listed.getD e.on false = true := fun i => by
   unfold Region.ready
   rw [List.mem_filter, List.mem_range]
   constructor
   ·rintro ⟨hi, h⟩
    simp only [Bool.and_eq_true, Bool.not_eq_true'] at h
    have ho : ops[i]? = some ops[i] := by simp [hi]
    rw [ho] at h
    simp only [Option.map_some, Option.getD_some, Array.all_eq_true'] at h
    refine ⟨_, ho, h.1, fun e he hb => ?_⟩
    have := h.2 e (by simpa using he)
    simpa [hb] using this
   ·rintro ⟨o, ho, h1, h2⟩
    refine ⟨(Array.getElem?_eq_some_iff.1 ho).1, ?_⟩
    simp only [Bool.and_eq_true, Bool.not_eq_true']
    rw [ho]
    simp only [Option.map_some, Option.getD_some, Array.all_eq_true']
    refine ⟨h1, fun e he => ?_⟩
    cases hb : Region.binds .any e with
    | false => rfl
    | true => simpa using h2 e (by simpa using he) hb
  have bnd : ∀ {j}, listed.getD j false = true → listed.getD j true = true ∧ j < ops.size := fun {j} h => by
   simp only [Array.getD_eq_getD_getElem?] at h ⊢
   by_cases hj : j < listed.size
   ·rw [Array.getElem?_eq_getElem hj] at h ⊢
    exact ⟨h, by rw [← hsz]; exact hj⟩
   ·rw [Array.getElem?_eq_none (by omega)] at h
    cases h
  refine ⟨fun hnil => ?_, fun i hi => ?_⟩
  ·exfalso
   cases hl : left ops listed with
   | nil => rw [hl] at hlen; cases hlen
   | cons p r =>
    obtain ⟨o, i⟩ := p
    have hm : (o, i) ∈ left ops listed := by rw [hl]; simp
    obtain ⟨ho, hli⟩ := mem_left.1 hm
    have hp2 : (left ops listed).Pairwise fun p q => p.2 < q.2 := number_lt.filter _
    rw [hl, List.pairwise_cons] at hp2
    have : i ∈ Region.ready .any ops listed := (rdy i).2 ⟨o, ho, hli, fun e he hb => by
     have hlt := hR.back i o ho e he hb
     have hin : e.on < ops.size := Nat.lt_trans hlt (Array.getElem?_eq_some_iff.1 ho).1
     cases hq : listed.getD e.on true with
     | true =>
      simp only [Array.getD_eq_getD_getElem?] at hq ⊢
      rw [Array.getElem?_eq_getElem (by rw [hsz]; exact hin)] at hq ⊢
      exact hq
     | false =>
      have hm2 : (ops[e.on], e.on) ∈ left ops listed := mem_left.2 ⟨by simp [hin], hq⟩
      rw [hl, List.mem_cons] at hm2
      rcases hm2 with h2 | h2
      ·have := congrArg Prod.snd h2
       simp only at this
       omega
      ·have := hp2.1 _ h2
       simp only at this
       omega⟩
    rw [hnil] at this
    cases this
  ·obtain ⟨o, ho, hli, haft⟩ := (rdy i).1 hi
   have hlt : i < ops.size := (Array.getElem?_eq_some_iff.1 ho).1
   obtain ⟨l1, l2, e1, e2, e3⟩ := left_set hsz (mem_left.2 ⟨ho, hli⟩)
   have hbef : ∀ j, (bef.getD i 0).testBit j = true → listed.getD j true = true := fun j hj => by
    obtain ⟨e, he, hb, h1⟩ := hR.f1 i o ho j hj
    obtain ⟨b1, b2⟩ := bnd (haft e he hb)
    rcases h1 with rfl | h1
    ·exact b1
    ·exact hcl e.on b2 b1 j h1
   rw [e1] at h
   obtain ⟨f1, h1, h2⟩ := to_front (x := o) (i := i) l1 hd.rlen (fun p hp {f g f2} hn ha hb => by
    obtain ⟨y, j⟩ := p
    have hmj : (y, j) ∈ left ops listed := by rw [e1]; simp [hp]
    obtain ⟨hoy, hlj⟩ := mem_left.1 hmj
    have hji : j < i := e3 _ hp
    have hbi : (bef.getD i 0).testBit j = false := by
     cases hq : (bef.getD i 0).testBit j with
     | false => rfl
     | true => have := hbef j hq; rw [hlj] at this; cases this
    have hbj : (bef.getD j 0).testBit i = false := by
     cases hq : (bef.getD j 0).testBit i with
     | false => rfl
     | true => have := hR.f2 j i hq; omega
    exact evOne_swap (Nat.ne_of_lt hji) hbj hbi (fun hs => weakAt_cmp hR.len hs ho (Ne.symm (Nat.ne_of_lt hji)) hbi hbj) (fun hs => weakAt_cmp hR.len hs hoy (Nat.ne_of_lt hji) hbj hbi) (hR.apart i j o y ho hoy hji hbi) (by rw [hn]; exact ⟨Nat.lt_trans hji hlt, hlt⟩) ha hb) h
   refine evOne_sound hT hp hcall hd ho hli h1 fun w' O' M' a' hd' => ?_
   refine draw_any hT hp hcall hR hQ fuel (by simpa using hsz) ?_ (fun k hk hlk j hj => ?_) (by rw [e2]; exact h2) hd'
   ·rw [e2]
    rw [e1] at hlen
    simp at hlen ⊢
    omega
   ·simp only [Array.getD_eq_getD_getElem?, Array.getElem?_setIfInBounds] at hlk ⊢
    by_cases hij : i = j
    ·subst hij; simp [hsz, hlt]
    ·rw [if_neg hij]
     by_cases hik : i = k
     ·subst hik
      have := hbef j hj
      simpa [Array.getD_eq_getD_getElem?] using this
     ·rw [if_neg hik] at hlk
      have := hcl k hk (by simpa [Array.getD_eq_getD_getElem?] using hlk) j hj
      simpa [Array.getD_eq_getD_getElem?] using this
theorem drawOk (hm : P.follows .mixedOrders = true) (hT : TyOk P C) (hp : PrimsOk P C) {call : CallF} (hcall : CallOk P C call) {id : Nat} (hok : regionOk ops = true) : DrawOk P C call id ops := by
 intro B Q w O M fr fl a h ha hq
 have hall : left ops (Array.replicate ops.size false) = number 0 ops.toList := by
  unfold left
  refine List.filter_eq_self.2 fun p hp => ?_
  obtain ⟨o, i⟩ := p
  have := (Array.getElem?_eq_some_iff.1 (mem_num.1 hp)).1
  simp [Array.getD_eq_getD_getElem?, this]
 have hlen : (number 0 ops.toList).length = ops.size := by
  have : ∀ (l : List Oper) k, (number k l).length = l.length := fun l => by
   induction l with
   | nil => intro k; rfl
   | cons x r ih => intro k; simp [number, ih]
  rw [this]; simp
 have ha' : AR C B w.drew O M fr a := ⟨ha.sit.drew, ha.lt, ha.free, ⟨ha.slots.len, fun j h1 h2 h3 => (ha.slots.rel j h1 h2 h3).drew⟩, ha.nodef⟩
 refine wp_region_any hm ?_
 have hflat : (lg0 ops.size).made.flatten = [] := by simp [lg0]
 have hful : full { fr.st with nxt := fr.st.nxt + ops.size * share } (lg0 ops.size) = { fr.st with nxt := fr.st.nxt + ops.size * share } := by simp [full, hflat]
 refine draw_any (fr := ({ fr with st := { fr.st with nxt := fr.st.nxt + ops.size * share } }, lg0 ops.size)) (base := fr.st.nxt) (bef := (Region.before ops).toList) (w0 := w.drew) (O0 := O) (M0 := M) (st0 := fr.st) hT hp hcall (.of hok) (fun w' O' M' a' h1 h2 => hq w' O' M' a' h1 h2.undrew) ops.size (by simp) (by rw [hall, hlen]) (fun k hk hl => ?_) (by rw [hall]; exact h)
  ⟨by rw [hflat]; exact ha'.sit, ha'.lt, fun b hb => ha.free b ?_, ha'.slots, ha'.nodef, fun j hj _ b h1 h2 => ha.free b (by omega), Nat.le_refl _, ?_, rfl, by simp [lg0], by simp [lg0], ⟨fun k hk p hp => by simp [lg0] at hp, fun k hk p hp => by simp [lg0] at hp⟩⟩
 ·simp [Array.getD_eq_getD_getElem?, hk] at hl
 ·have hb : fr.st.nxt + ops.size * share ≤ b := hb
  omega
 ·show Step C B true w.drew O M fr.st w.drew O M (full { fr.st with nxt := fr.st.nxt + ops.size * share } (lg0 ops.size))
  rw [hful]
  exact ⟨.refl _ _ _, ha'.sit, fun _ _ => rfl, Nat.le_add_right _ _, Nat.le_refl _, fun _ _ _ => rfl, fun _ h _ h2 => ⟨rfl, h, h2⟩, fun h => h, fun e => by cases e⟩
theorem draws_of (hm : P.follows .mixedOrders = true) (hT : TyOk P C) (hp : PrimsOk P C) : ∀ (c : Code), codeDraws c = true → Draws P C c := by
 intro c
 induction c with
 | region id ops draw =>
  intro h call hc
  cases draw with
  | true => exact drawOk hm hT hp hc h
  | false => exact trivial
 | seq a b iha ihb =>
  intro h call hc
  simp only [codeDraws, Bool.and_eq_true] at h
  exact ⟨iha h.1 call hc, ihb h.2 call hc⟩
 | cond o a b iha ihb =>
  intro h call hc
  simp only [codeDraws, Bool.and_eq_true] at h
  exact ⟨iha h.1 call hc, ihb h.2 call hc⟩
 | block i c ih => intro h call hc; exact ih h call hc
 | loop c ih => intro h call hc; exact ih h call hc
 | _ => intro h call hc; trivial
end
end Go.Ev
