/- A PART OF THE PROOF THAT SAVETEXTS HOLDS FOR EVERY INPUT OF BULK AT MOST 1048576. No condition beyond the given statement. This part: NodesLaw. -/
import Derived.Shelf.GgClosure.StringsIndexFunc
import Derived.Lib.Split
import Derived.Lib.Join
import Derived.Lib.IndexBytes
import Derived.Lib.IndexLaws
import Derived.Lib.SplitLaws
import GoSem.Op.String
namespace Go.Proofs.W
def numB (n : Nat) : List UInt8 := if h : n < 128 then [UInt8.ofNat n] else UInt8.ofNat (n % 128 + 128) :: numB (n / 128)
termination_by n
decreasing_by omega
theorem numB_small {n : Nat} (h : n < 128) : numB n = [UInt8.ofNat n] := by
 rw [numB, dif_pos h]
theorem numB_big {n : Nat} (h : ¬ n < 128) : numB n = UInt8.ofNat (n % 128 + 128) :: numB (n / 128) := by
 rw [numB, dif_neg h]
theorem numB_ne (n : Nat) : numB n ≠ [] := by
 by_cases h : n < 128
 ·rw [numB_small h]; simp
 ·rw [numB_big h]; simp
def textB (s : List UInt8) : List UInt8 := numB s.length ++ s
def listB (l : List (List UInt8)) : List UInt8 := numB l.length ++ l.flatMap textB
inductive Got (α : Type) where
 | ok (v : α) (rest : List UInt8)
 | form
 | short
def numR (i n : Nat) : List UInt8 → Got Nat
 | [] => .short
 | c :: r => if (i = 9 ∧ 1 < c.toNat) ∨ (0 < i ∧ c.toNat = 0) then .form else if c.toNat < 128 then .ok (n + c.toNat % 128 * 128 ^ i) r else numR (i + 1) (n + c.toNat % 128 * 128 ^ i) r
def textR (s : List UInt8) : Got (List UInt8) := match numR 0 0 s with
 | .ok n r => if r.length < n then .short else .ok (r.take n) (r.drop n)
 | .form => .form
 | .short => .short
def textsR : Nat → List UInt8 → Got (List (List UInt8))
 | 0, s => .ok [] s
 | k + 1, s => match textR s with
  | .ok t r => (match textsR k r with
   | .ok l r' => .ok (t :: l) r'
   | .form => .form
   | .short => .short)
  | .form => .form
  | .short => .short
def listR (s : List UInt8) : Got (List (List UInt8)) := match numR 0 0 s with
 | .ok n r => if r.length < n then .short else textsR n r
 | .form => .form
 | .short => .short
theorem toNat_ofNat {n : Nat} (h : n < 256) : (UInt8.ofNat n).toNat = n := by
 simp [UInt8.toNat_ofNat', Nat.mod_eq_of_lt h]
theorem numR_numB (r : List UInt8) : ∀ (n i a : Nat), (0 < i → n ≠ 0) → n * 128 ^ i < 2 ^ 64 → numR i a (numB n ++ r) = .ok (a + n * 128 ^ i) r := by
 intro n
 induction n using Nat.strongRecOn with
 | ind n ih =>
  intro i a h0 hb
  have hi : i ≤ 9 → (i = 9 → n ≤ 1) := fun _ e => by
   subst e
   have : (128 : Nat) ^ 9 = 9223372036854775808 := by decide
   rw [this] at hb
   have h64 : (2 : Nat) ^ 64 = 18446744073709551616 := by decide
   rw [h64] at hb
   omega
  have hi9 : n ≠ 0 → i ≤ 9 := fun hn => by
   rcases Nat.lt_or_ge 9 i with h | h
   ·exfalso
    have h1 : (128 : Nat) ^ 10 ≤ 128 ^ i := Nat.pow_le_pow_right (by decide) h
    have h2 : 1 * 128 ^ 10 ≤ n * 128 ^ i := Nat.mul_le_mul (by omega) h1
    have : (1 : Nat) * 128 ^ 10 ≥ 2 ^ 64 := by decide
    omega
   ·exact h
  by_cases hs : n < 128
  ·rw [numB_small hs, List.singleton_append, numR, toNat_ofNat (by omega)]
   rw [if_neg, if_pos hs, Nat.mod_eq_of_lt hs]
   rintro (⟨e, h1⟩ | ⟨h1, h2⟩)
   ·have := hi (by omega) e; omega
   ·exact h0 h1 h2
  ·have hn0 : n ≠ 0 := by omega
   have h9 := hi9 hn0
   have hne9 : i ≠ 9 := fun e => by have := hi h9 e; omega
   rw [numB_big hs, List.cons_append, numR, toNat_ofNat (by omega)]
   rw [if_neg, if_neg (by omega), show (n % 128 + 128) % 128 = n % 128 by omega]
   ·have hdiv : n / 128 * 128 ^ (i + 1) ≤ n * 128 ^ i := by
     rw [Nat.pow_succ, Nat.mul_comm (128 ^ i) 128, ← Nat.mul_assoc]
     exact Nat.mul_le_mul_right _ (Nat.div_mul_le_self n 128)
    rw [ih (n / 128) (by omega) (i + 1) _ (fun _ => by omega) (by omega)]
    congr 1
    rw [Nat.pow_succ, Nat.mul_comm (128 ^ i) 128, ← Nat.mul_assoc, Nat.add_assoc, ← Nat.add_mul]
    congr 2
    omega
   ·rintro (⟨e, _⟩ | ⟨_, h2⟩)
    ·exact hne9 e
    ·omega
theorem numR_back {n : Nat} (h : n < 2 ^ 64) (r : List UInt8) : numR 0 0 (numB n ++ r) = .ok n r := by
 have := numR_numB r n 0 0 (fun h => absurd h (by decide)) (by simpa using h)
 simpa using this
theorem textR_back {s : List UInt8} (h : s.length < 2 ^ 64) (r : List UInt8) : textR (textB s ++ r) = .ok s r := by
 unfold textR textB
 rw [List.append_assoc, numR_back h]
 simp
theorem textsR_back : ∀ {l : List (List UInt8)}, (∀ s, s ∈ l → s.length < 2 ^ 64) → ∀ r, textsR l.length (l.flatMap textB ++ r) = .ok l r
 | [], _, r => rfl
 | s :: l, h, r => by
  rw [List.flatMap_cons, List.append_assoc, List.length_cons, textsR, textR_back (h s (by simp))]
  simp only
  rw [textsR_back (fun s hs => h s (by simp [hs]))]
theorem textB_pos (s : List UInt8) : 1 ≤ (textB s).length := by
 unfold textB
 have := numB_ne s.length
 cases h : numB s.length with
 | nil => exact absurd h this
 | cons _ _ => simp
theorem flat_len (l : List (List UInt8)) : l.length ≤ (l.flatMap textB).length := by
 induction l with
 | nil => simp
 | cons s l ih => have := textB_pos s; rw [List.flatMap_cons, List.length_append, List.length_cons]; omega
theorem listR_back {l : List (List UInt8)} (hl : l.length < 2 ^ 64) (h : ∀ s, s ∈ l → s.length < 2 ^ 64) (r : List UInt8) : listR (listB l ++ r) = .ok l r := by
 unfold listR listB
 rw [List.append_assoc, numR_back hl]
 simp only
 have := flat_len l
 rw [if_neg (by rw [List.length_append]; omega), textsR_back h]
end Go.Proofs.W
namespace Go.Proofs.W
def decB (n : Nat) : List UInt8 := if _h : n < 10 then [UInt8.ofNat (48 + n)] else decB (n / 10) ++ [UInt8.ofNat (48 + n % 10)]
termination_by n
decreasing_by omega
theorem decB_small {n : Nat} (h : n < 10) : decB n = [UInt8.ofNat (48 + n)] := by rw [decB, dif_pos h]
theorem decB_big {n : Nat} (h : ¬ n < 10) : decB n = decB (n / 10) ++ [UInt8.ofNat (48 + n % 10)] := by
 rw [decB, dif_neg h]
def digV (c : UInt8) : Nat := if 48 ≤ c.toNat ∧ c.toNat < 58 then c.toNat - 48 else 0
def numV (l : List UInt8) : Nat := l.foldl (fun x c => 10 * x + digV c) 0
theorem digV_of {k : Nat} (h : k < 10) : digV (UInt8.ofNat (48 + k)) = k := by
 unfold digV
 have : (UInt8.ofNat (48 + k)).toNat = 48 + k := by simp [UInt8.toNat_ofNat']; omega
 rw [this, if_pos (by omega)]
 omega
theorem numV_decB (n : Nat) : numV (decB n) = n := by
 induction n using Nat.strongRecOn with
 | ind n ih =>
  by_cases h : n < 10
  ·rw [decB_small h]
   show 10 * 0 + digV (UInt8.ofNat (48 + n)) = n
   rw [digV_of h]
   omega
  ·rw [decB_big h]
   unfold numV at ih ⊢
   rw [List.foldl_append, ih (n / 10) (by omega)]
   simp only [List.foldl_cons, List.foldl_nil]
   rw [digV_of (Nat.mod_lt _ (by decide))]
   omega
theorem decB_length : ∀ (k n : Nat), 0 < k → n < 10 ^ k → (decB n).length ≤ k
 | 0, _, h, _ => absurd h (by decide)
 | k + 1, n, _, h => by
  by_cases hs : n < 10
  ·rw [decB_small hs]; simp
  ·rw [decB_big hs, List.length_append, List.length_singleton]
   have hk : 0 < k := by
    rcases Nat.eq_zero_or_pos k with h0 | h0
    ·subst h0; omega
    ·exact h0
   have hd : n / 10 < 10 ^ k := by
    rw [Nat.pow_succ] at h
    omega
   have := decB_length k (n / 10) hk hd
   omega
end Go.Proofs.W
namespace Go.Proofs.W
open Go
def badR (r : Nat) : Bool := !(decide (97 ≤ r) && decide (r ≤ 122) || (decide (48 ≤ r) && decide (r ≤ 57)) || decide (r = 46) || decide (r = 95) || decide (r = 45))
theorem badR_high {r : Nat} (h : 128 ≤ r) : badR r = true := by simp [badR]; omega
theorem decode_ascii {s : ByteArray} {i : Nat} (h : (s.get! i).toNat < 128) : Utf8.decode s i = ((s.get! i).toNat, 1) := by
 unfold Utf8.decode
 simp only [Nat.add_zero]
 rw [if_pos h]
theorem decode_high {s : ByteArray} {i : Nat} (h : ¬ (s.get! i).toNat < 128) : 128 ≤ (Utf8.decode s i).1 := by
 unfold Utf8.decode
 simp only [Nat.add_zero]
 rw [if_neg h]
 simp only [Utf8.runeError]
 repeat' split
 all_goals first
  | decide
  | (simp only [ge_iff_le, Bool.and_eq_true, decide_eq_true_eq] at *; omega)
def goodFrom (s : ByteArray) (pos : Nat) : Prop := ∀ j, pos ≤ j → j < s.size → badR (s.get! j).toNat = false
theorem idxFrom_neg (s : ByteArray) : ∀ (f pos : Nat), s.size ≤ f + pos → (Lib.idxFuncFrom badR true s f pos < 0 ↔ goodFrom s pos)
 | 0, pos, h => by
  simp only [Lib.idxFuncFrom]
  exact ⟨fun _ j h1 h2 => by omega, fun _ => by decide⟩
 | f + 1, pos, h => by
  by_cases hp : pos < s.size
  ·unfold Lib.idxFuncFrom
   rw [if_pos hp]
   by_cases ha : (s.get! pos).toNat < 128
   ·rw [decode_ascii ha]
    simp only
    by_cases hb : badR (s.get! pos).toNat = true
    ·rw [if_pos hb]
     refine ⟨fun h => by omega, fun hg => ?_⟩
     have := hg pos (Nat.le_refl _) hp
     rw [hb] at this; cases this
    ·rw [if_neg hb, idxFrom_neg s f (pos + 1) (by omega)]
     constructor
     ·intro hg j h1 h2
      by_cases e : j = pos
      ·subst e; simpa using hb
      ·exact hg j (by omega) h2
     ·intro hg j h1 h2
      exact hg j (by omega) h2
   ·rw [if_pos (badR_high (decode_high ha))]
    refine ⟨fun h => by omega, fun hg => ?_⟩
    have := hg pos (Nat.le_refl _) hp
    rw [badR_high (by omega)] at this; cases this
  ·unfold Lib.idxFuncFrom
   rw [if_neg hp]
   exact ⟨fun _ j h1 h2 => by omega, fun _ => by decide⟩
def nameR (s : ByteArray) : Bool := !s.toList.isEmpty && decide ((s.size : Int) ≤ 40) && !(s.toList == [46]) && !(s.toList == [46, 46]) && decide (Lib.idxFunc badR true s < 0)
theorem nameR_iff (s : ByteArray) : nameR s = true ↔ s.size ≠ 0 ∧ s.size ≤ 40 ∧ s.toList ≠ [46] ∧ s.toList ≠ [46, 46] ∧ goodFrom s 0 := by
 have h := idxFrom_neg s s.size 0 (by omega)
 have h2 : s.toList.isEmpty = true ↔ s.size = 0 := by
  rw [ByteArray.toList_eq, List.isEmpty_iff, ← List.length_eq_zero_iff, Array.length_toList]
  rfl
 unfold nameR Lib.idxFunc
 simp only [Bool.and_eq_true, Bool.not_eq_true', decide_eq_true_eq, beq_eq_false_iff_ne, ne_eq, h]
 rw [← Bool.not_eq_true, h2]
 constructor
 ·rintro ⟨⟨⟨⟨h1, h2⟩, h3⟩, h4⟩, h5⟩
  exact ⟨h1, by omega, h3, h4, h5⟩
 ·rintro ⟨h1, h2, h3, h4, h5⟩
  exact ⟨⟨⟨⟨h1, by omega⟩, h3⟩, h4⟩, h5⟩
theorem nameR_good {s : ByteArray} (h : goodFrom s 0) : nameR s = (decide ((1 : Int) ≤ (s.size : Int)) && decide ((s.size : Int) ≤ 40) && !(s.toList == [46]) && !(s.toList == [46, 46])) := by
 have hi : decide (Lib.idxFunc badR true s < 0) = true := decide_eq_true ((idxFrom_neg s s.size 0 (by omega)).2 h)
 have he : (!s.toList.isEmpty) = decide ((1 : Int) ≤ (s.size : Int)) := by
  have h2 : s.toList.isEmpty = true ↔ s.size = 0 := by
   rw [ByteArray.toList_eq, List.isEmpty_iff, ← List.length_eq_zero_iff, Array.length_toList]
   rfl
  rw [Bool.eq_iff_iff, Bool.not_eq_true', ← Bool.not_eq_true, h2, decide_eq_true_eq]
  omega
 unfold nameR
 rw [hi, he, Bool.and_true]
theorem nameR_size {s : ByteArray} (h : nameR s = true) : s.size ≤ 40 := ((nameR_iff s).1 h).2.1
end Go.Proofs.W
namespace Go.Proofs.Np
open Go
structure Nd where
 sp : ByteArray
 sn : Int
 dr : Bool
 pp : ByteArray
 pn : Int
 nm : ByteArray
 gone : ByteArray
 ats : Option Addr × Nat × Nat
 pus : Option Addr × Nat × Nat
 lis : Option Addr × Nat × Nat
 deriving Inhabited
def idxI {α : Type} (q : α → Bool) (ns : List α) : Int := match ns.findIdx? q with
 | some i => i
 | none => -1
theorem idxI_at {α : Type} {q : α → Bool} {ns : List α} {i : Nat} (h : idxI q ns = i) : ∃ d, ns[i]? = some d ∧ q d = true := by
 unfold idxI at h
 split at h
 ·rename_i j hj
  have : j = i := by omega
  subst this
  rw [List.findIdx?_eq_some_iff_getElem] at hj
  obtain ⟨h1, h2, _⟩ := hj
  exact ⟨ns[j], List.getElem?_eq_getElem h1, h2⟩
 ·omega
theorem idxI_cases {α : Type} (q : α → Bool) (ns : List α) : idxI q ns = -1 ∨ ∃ i d, idxI q ns = (i : Nat) ∧ ns[i]? = some d ∧ q d = true := by
 cases h : ns.findIdx? q with
 | none => exact .inl (by unfold idxI; rw [h])
 | some i =>
  have e : idxI q ns = (i : Nat) := by unfold idxI; rw [h]
  obtain ⟨d, h1, h2⟩ := idxI_at e
  exact .inr ⟨i, d, e, h1, h2⟩
def cutAt (c : UInt8) : List UInt8 → List (List UInt8)
 | [] => [[]]
 | x :: r => if x = c then [] :: cutAt c r else match cutAt c r with
  | [] => [[x]]
  | y :: ys => (x :: y) :: ys
theorem cutAt_ne (c : UInt8) : ∀ l, cutAt c l ≠ []
 | [] => by simp [cutAt]
 | x :: r => by
  unfold cutAt
  split
  ·simp
  ·split <;> simp
theorem cutAt_length (c : UInt8) : ∀ l, (cutAt c l).length = l.count c + 1
 | [] => rfl
 | x :: r => by
  have ih := cutAt_length c r
  unfold cutAt
  split
  ·rename_i h; subst h; simp [ih]
  ·rename_i h
   have hc : (x :: r).count c = r.count c := by rw [List.count_cons]; simp [h]
   split
   ·rename_i e; exact absurd e (cutAt_ne c r)
   ·rename_i y ys e
    rw [e] at ih
    rw [hc]
    simpa using ih
theorem cutAt_none {c : UInt8} : ∀ {a : List UInt8}, a.count c = 0 → cutAt c a = [a]
 | [], _ => rfl
 | x :: r, h => by
  have hx : ¬ x = c := fun e => by subst e; simp at h
  have hr : r.count c = 0 := by rw [List.count_cons] at h; omega
  unfold cutAt
  rw [if_neg hx, cutAt_none hr]
theorem cutAt_append {c : UInt8} (b : List UInt8) : ∀ {a : List UInt8}, a.count c = 0 → cutAt c (a ++ c :: b) = a :: cutAt c b
 | [], _ => by simp [cutAt]
 | x :: r, h => by
  have hx : ¬ x = c := fun e => by subst e; simp at h
  have hr : r.count c = 0 := by rw [List.count_cons] at h; omega
  rw [List.cons_append]
  conv => lhs; unfold cutAt
  rw [if_neg hx, cutAt_append b hr]
def joinAt (c : UInt8) : List (List UInt8) → List UInt8
 | [] => []
 | [x] => x
 | x :: y :: r => x ++ c :: joinAt c (y :: r)
theorem joinAt_count (c : UInt8) : ∀ l : List (List UInt8), l ≠ [] → (joinAt c l).count c + 1 = (l.map (·.count c)).sum + l.length
 | [], h => absurd rfl h
 | [x], _ => by simp [joinAt]
 | x :: y :: r, _ => by
  have ih := joinAt_count c (y :: r) (by simp)
  simp only [joinAt, List.count_append, List.count_cons_self, List.map_cons, List.sum_cons, List.length_cons] at ih ⊢
  omega
theorem cut_join {c : UInt8} : ∀ {l : List (List UInt8)}, l ≠ [] → (∀ x ∈ l, x.count c = 0) → cutAt c (joinAt c l) = l
 | [], h, _ => absurd rfl h
 | [x], _, h => cutAt_none (h x (by simp))
 | x :: y :: r, _, h => by
  rw [joinAt, cutAt_append _ (h x (by simp)), cut_join (by simp) fun z hz => h z (by simp [hz])]
theorem cut_join_len {c : UInt8} {l : List (List UInt8)} (hne : l ≠ []) (h : (cutAt c (joinAt c l)).length = l.length) : cutAt c (joinAt c l) = l := by
 refine cut_join hne fun x hx => ?_
 have h1 := joinAt_count c l hne
 rw [cutAt_length] at h
 have h2 : (l.map (·.count c)).sum = 0 := by omega
 have : ∀ m : List Nat, m.sum = 0 → ∀ y ∈ m, y = 0 := fun m => by
  induction m with
  | nil => intro _ y hy; cases hy
  | cons a m ih =>
   intro hs y hy
   simp only [List.sum_cons] at hs
   rcases List.mem_cons.1 hy with rfl | hy
   ·omega
   ·exact ih (by omega) y hy
 exact this _ h2 _ (List.mem_map.2 ⟨x, hx, rfl⟩)
theorem joinAt_intercalate (c : UInt8) : ∀ l : List (List UInt8), [c].intercalate l = joinAt c l
 | [] => by simp [List.intercalate, joinAt]
 | [x] => by simp [List.intercalate, joinAt]
 | x :: y :: r => by
  have ih := joinAt_intercalate c (y :: r)
  rw [joinAt, ← ih]
  simp [List.intercalate, List.intersperse]
def bytes (l : List UInt8) : ByteArray := ⟨l.toArray⟩
theorem bytes_inj {a : ByteArray} {l : List UInt8} (h : a.data.toList = l) : bytes l = a := by
 subst h
 rfl
theorem bytes_back (l : List UInt8) : (bytes l).data.toList = l := by simp [bytes]
def cutB (p : ByteArray) : List ByteArray := (cutAt 47 p.data.toList).map bytes
def joinB (names : List ByteArray) : ByteArray := bytes (joinAt 47 (names.map (·.data.toList)))
def splitS (right : ByteArray → Bool) (p : ByteArray) : List ByteArray := if right p = true then cutB p else []
def joinS (right : ByteArray → Bool) (names : List ByteArray) : ByteArray := if (splitS right (joinB names)).length = names.length then joinB names else ByteArray.empty
theorem split_join {right : ByteArray → Bool} {L : List ByteArray} (h : joinS right L ≠ ByteArray.empty) : splitS right (joinS right L) = L := by
 unfold joinS at h ⊢
 split at h
 ·rename_i hl
  rw [if_pos hl]
  unfold splitS at hl ⊢
  cases L with
  | nil => exact absurd rfl h
  | cons x L =>
   cases hr : right (joinB (x :: L)) with
   | false => rw [hr] at hl; simp at hl
   | true =>
    rw [hr] at hl
    simp only [if_true] at hl ⊢
    unfold cutB joinB at hl ⊢
    rw [bytes_back] at hl ⊢
    have h2 := cut_join_len (c := 47) (l := (x :: L).map (·.data.toList)) (by simp) (by simpa using hl)
    rw [h2, List.map_map]
    have : (bytes ∘ fun x : ByteArray => x.data.toList) = id := funext fun a => bytes_inj rfl
    rw [this, List.map_id]
 ·exact absurd rfl h
end Go.Proofs.Np
namespace Go.Proofs.Np
open Go
theorem splitK_cut (c : UInt8) : ∀ (k : Nat) (s : List UInt8), k = s.count c → Lib.splitK [c] 0 k s = cutAt c s := by
 intro k
 induction k with
 | zero => intro s h; rw [cutAt_none h.symm]; rfl
 | succ k ih =>
  intro s h
  obtain ⟨a, b, rfl, ha⟩ : ∃ a b, s = a ++ c :: b ∧ a.count c = 0 := by
   clear ih
   induction s with
   | nil => simp at h
   | cons x r ih =>
    by_cases hx : x = c
    ·subst hx
     exact ⟨[], r, rfl, rfl⟩
    ·obtain ⟨a, b, rfl, ha⟩ := ih (by rw [List.count_cons] at h; simpa [hx] using h)
     exact ⟨x :: a, b, rfl, by rw [List.count_cons]; simp [hx, ha]⟩
  have hidx : Lib.index (a ++ c :: b) [c] = (a.length : Nat) := by
   rw [Lib.index_one]
   clear h ih
   induction a with
   | nil => simp [Lib.indexByte]
   | cons x r ih =>
    have hx : ¬ x = c := fun e => by subst e; simp at ha
    have hr : r.count c = 0 := by rw [List.count_cons] at ha; omega
    have h2 := ih hr
    rw [List.cons_append, Lib.indexByte, h2]
    have e1 : (x == c) = false := by simpa using hx
    have e2 : (((r.length : Nat) : Int) == -1) = false := by
     cases hq : (((r.length : Nat) : Int) == -1) with
     | false => rfl
     | true => have := beq_iff_eq.1 hq; omega
    rw [e1, e2]
    simp
  unfold Lib.splitK
  rw [hidx]
  have e2 : (((a.length : Nat) : Int) == -1) = false := by
   cases hq : (((a.length : Nat) : Int) == -1) with
   | false => rfl
   | true => have := beq_iff_eq.1 hq; omega
  rw [e2, cutAt_append _ ha]
  have hb : k = b.count c := by
   rw [List.count_append, ha, List.count_cons_self] at h
   omega
  have h3 := ih b hb
  have e3 : ((a.length : Nat) : Int).toNat = a.length := by omega
  simp only [e3, Bool.false_eq_true, if_false, Nat.add_zero, List.length_singleton]
  rw [show List.drop (a.length + 1) (a ++ c :: b) = b by simp, h3]
  simp
theorem splitB_cutB (s : ByteArray) : Lib.splitB ⟨#[47]⟩ 0 (Lib.countB s ⟨#[47]⟩) s = cutB s := by
 have h := Lib.splitB_data ⟨#[47]⟩ 0 (Lib.countB s ⟨#[47]⟩) s
 have hc : Lib.countB s ⟨#[47]⟩ = s.data.toList.count 47 := by
  show Lib.count s.data.toList [47] = _
  exact Lib.count_one 47 _
 have h2 : Lib.splitK [47] 0 (Lib.countB s ⟨#[47]⟩) s.data.toList = cutAt 47 s.data.toList := splitK_cut 47 _ _ hc
 have h3 : (Lib.splitB ⟨#[47]⟩ 0 (Lib.countB s ⟨#[47]⟩) s).map (·.data.toList) = cutAt 47 s.data.toList := h.trans h2
 unfold cutB
 rw [← h3, List.map_map]
 have : (bytes ∘ fun x : ByteArray => x.data.toList) = id := funext fun a => bytes_inj rfl
 rw [this, List.map_id]
theorem countB_cutB (s : ByteArray) : Lib.countB s ⟨#[47]⟩ + 1 = (cutB s).length := by
 have hc : Lib.countB s ⟨#[47]⟩ = s.data.toList.count 47 := by
  show Lib.count s.data.toList [47] = _
  exact Lib.count_one 47 _
 unfold cutB
 rw [List.length_map, cutAt_length, hc]
theorem join_joinB (names : List ByteArray) : (⟨(Lib.join (names.map (·.data.toList)) [47]).toArray⟩ : ByteArray) = joinB names := by
 unfold joinB bytes Lib.join
 rw [joinAt_intercalate]
end Go.Proofs.Np
namespace Go.Proofs.W
open Go Go.Op
theorem bytesLess_iff : ∀ (x y : List UInt8), bytesLess x y = true ↔ x < y
 | [], [] => by simp [bytesLess]
 | [], b :: y => by simp [bytesLess]
 | a :: x, [] => by simp [bytesLess]
 | a :: x, b :: y => by
  rw [bytesLess, List.cons_lt_cons_iff, Bool.or_eq_true, Bool.and_eq_true, bytesLess_iff x y]
  simp
theorem lt_irr (x : List UInt8) : ¬ x < x := List.lt_irrefl x
theorem lt_tr {x y z : List UInt8} (h : x < y) (k : y < z) : x < z := List.lt_trans h k
theorem lt_tri (x y : List UInt8) : x < y ∨ x = y ∨ y < x := by
 by_cases h : x < y
 ·exact .inl h
 ·by_cases k : y < x
  ·exact .inr (.inr k)
  ·exact .inr (.inl (List.le_antisymm (List.not_lt.1 k) (List.not_lt.1 h)))
theorem ltl_irr (x : List (List UInt8)) : ¬ x < x := by
 induction x with
 | nil => exact List.not_lt_nil _
 | cons a x ih =>
  rw [List.cons_lt_cons_iff]
  rintro (h | ⟨_, h⟩)
  ·exact lt_irr a h
  ·exact ih h
theorem ltl_tr : ∀ {x y z : List (List UInt8)}, x < y → y < z → x < z
 | _, [], _, h, _ => absurd h (List.not_lt_nil _)
 | _, _ :: _, [], _, k => absurd k (List.not_lt_nil _)
 | [], _ :: _, _ :: _, _, _ => List.nil_lt_cons _ _
 | a :: x, b :: y, c :: z, h, k => by
  rw [List.cons_lt_cons_iff] at h k ⊢
  rcases h with h | ⟨rfl, h⟩
  ·rcases k with k | ⟨rfl, k⟩
   ·exact .inl (lt_tr h k)
   ·exact .inl h
  ·rcases k with k | ⟨rfl, k⟩
   ·exact .inl k
   ·exact .inr ⟨rfl, ltl_tr h k⟩
theorem ltl_tri : ∀ (x y : List (List UInt8)), x < y ∨ x = y ∨ y < x
 | [], [] => .inr (.inl rfl)
 | [], _ :: _ => .inl (List.nil_lt_cons _ _)
 | _ :: _, [] => .inr (.inr (List.nil_lt_cons _ _))
 | a :: x, b :: y => by
  simp only [List.cons_lt_cons_iff, List.cons.injEq]
  rcases lt_tri a b with h | rfl | h
  ·exact .inl (.inl h)
  ·rcases ltl_tri x y with h | rfl | h
   ·exact .inl (.inr ⟨rfl, h⟩)
   ·exact .inr (.inl ⟨rfl, rfl⟩)
   ·exact .inr (.inr (.inr ⟨rfl, h⟩))
  ·exact .inr (.inr (.inl h))
def cmpL : List (List UInt8) → List (List UInt8) → Int
 | [], [] => 0
 | [], _ :: _ => -1
 | _ :: _, [] => 1
 | a :: x, b :: y => if bytesLess a b then -1 else if bytesLess b a then 1 else cmpL x y
theorem cmpL_neg : ∀ (x y : List (List UInt8)), cmpL x y < 0 ↔ x < y
 | [], [] => by simp [cmpL]
 | [], _ :: _ => by simp [cmpL]
 | _ :: _, [] => by simp [cmpL]
 | a :: x, b :: y => by
  unfold cmpL
  rw [List.cons_lt_cons_iff]
  by_cases h : bytesLess a b = true
  ·rw [if_pos h]
   simp [(bytesLess_iff a b).1 h]
  ·rw [if_neg h]
   have h1 : ¬ a < b := fun e => h ((bytesLess_iff a b).2 e)
   by_cases k : bytesLess b a = true
   ·rw [if_pos k]
    have k1 := (bytesLess_iff b a).1 k
    constructor
    ·intro e; omega
    ·rintro (e | ⟨e, _⟩)
     ·exact absurd e h1
     ·subst e; exact absurd k1 (lt_irr _)
   ·rw [if_neg k]
    have k1 : ¬ b < a := fun e => k ((bytesLess_iff b a).2 e)
    have e : a = b := by
     rcases lt_tri a b with q | q | q
     ·exact absurd q h1
     ·exact q
     ·exact absurd q k1
    subst e
    rw [cmpL_neg x y]
    simp [h1]
structure Key where
 l : List (List UInt8)
 s : List UInt8
def Key.lt (a b : Key) : Prop := a.l < b.l ∨ (a.l = b.l ∧ a.s < b.s)
theorem Key.irr (a : Key) : ¬ a.lt a := by
 rintro (h | ⟨_, h⟩)
 ·exact ltl_irr _ h
 ·exact lt_irr _ h
theorem Key.tr {a b c : Key} (h : a.lt b) (k : b.lt c) : a.lt c := by
 rcases h with h | ⟨h1, h⟩
 ·rcases k with k | ⟨k1, k⟩
  ·exact .inl (ltl_tr h k)
  ·exact .inl (k1 ▸ h)
 ·rcases k with k | ⟨k1, k⟩
  ·exact .inl (h1 ▸ k)
  ·exact .inr ⟨h1.trans k1, lt_tr h k⟩
theorem Key.tri (a b : Key) : a.lt b ∨ a = b ∨ b.lt a := by
 obtain ⟨x, s⟩ := a
 obtain ⟨y, t⟩ := b
 unfold Key.lt
 simp only [Key.mk.injEq]
 rcases ltl_tri x y with h | rfl | h
 ·exact .inl (.inl h)
 ·rcases lt_tri s t with h | rfl | h
  ·exact .inl (.inr ⟨rfl, h⟩)
  ·exact .inr (.inl ⟨rfl, rfl⟩)
  ·exact .inr (.inr (.inr ⟨rfl, h⟩))
 ·exact .inr (.inr (.inl h))
end Go.Proofs.W
namespace Go.Proofs.W
open Go Go.Op
open Go.Proofs.Np (cutAt cutAt_ne cutAt_length joinAt cutB joinB bytes bytes_inj bytes_back splitS joinS idxI)
theorem join_cut (c : UInt8) : ∀ l, joinAt c (cutAt c l) = l
 | [] => by simp [cutAt, joinAt]
 | x :: r => by
  have ih := join_cut c r
  have hne := cutAt_ne c r
  unfold cutAt
  split
  ·rename_i h
   subst h
   cases hr : cutAt x r with
   | nil => exact absurd hr hne
   | cons y ys =>
    rw [hr] at ih
    show joinAt x ([] :: y :: ys) = _
    unfold joinAt
    rw [ih]
    rfl
  ·split
   ·rename_i h; exact absurd h hne
   ·rename_i y ys h
    rw [h] at ih
    cases ys with
    | nil => simp only [joinAt] at ih ⊢; rw [ih]
    | cons z zs =>
     unfold joinAt at ih ⊢
     rw [List.cons_append, ih]
def pathR (p : ByteArray) : Bool := decide ((p.size : Int) ≤ 200) && decide (((cutB p).length : Int) ≤ 16) && !decide (0 ≤ idxI (fun s => !nameR s) (cutB p))
def splitP (p : ByteArray) : List ByteArray := splitS pathR p
theorem splitP_nil {p : ByteArray} : splitP p = [] ↔ pathR p = false := by
 unfold splitP splitS
 cases h : pathR p with
 | false => simp
 | true =>
  simp only [if_true, Bool.true_eq_false, iff_false]
  unfold cutB
  intro e
  exact cutAt_ne 47 _ (List.map_eq_nil_iff.1 e)
theorem splitP_inj {p q : ByteArray} (hp : splitP p ≠ []) (h : splitP p = splitP q) : p = q := by
 have hq : splitP q ≠ [] := h ▸ hp
 have h1 : pathR p = true := by cases e : pathR p with | true => rfl | false => exact absurd (splitP_nil.2 e) hp
 have h2 : pathR q = true := by cases e : pathR q with | true => rfl | false => exact absurd (splitP_nil.2 e) hq
 unfold splitP splitS at h
 rw [if_pos h1, if_pos h2] at h
 unfold cutB at h
 have h3 := congrArg (List.map fun b : ByteArray => b.data.toList) h
 rw [List.map_map, List.map_map] at h3
 have hid : ((fun b : ByteArray => b.data.toList) ∘ Np.bytes) = (id : List UInt8 → List UInt8) := funext fun l => bytes_back l
 rw [hid, List.map_id, List.map_id] at h3
 have h4 := congrArg (joinAt 47) h3
 rw [join_cut, join_cut] at h4
 exact Go.WideShapes.bytes_inj (by rw [← ByteArray.toList_eq, ← ByteArray.toList_eq] at h4; simpa [ByteArray.toList_eq] using h4)
def rawP (p : ByteArray) : List (List UInt8) := (splitP p).map fun b => b.data.toList
def keyP (p : ByteArray) : Key := ⟨rawP p, if (splitP p).isEmpty then p.data.toList else []⟩
theorem rawP_inj {p q : ByteArray} (h : rawP p = rawP q) : splitP p = splitP q := by
 unfold rawP at h
 exact List.map_inj_right (fun a b e => Go.WideShapes.bytes_inj (by simpa using e)) |>.1 h
theorem keyP_inj {p q : ByteArray} (h : keyP p = keyP q) : p = q := by
 unfold keyP at h
 rw [Key.mk.injEq] at h
 obtain ⟨h1, h2⟩ := h
 have h3 := rawP_inj h1
 by_cases hp : splitP p = []
 ·have hq : splitP q = [] := h3 ▸ hp
  rw [hp, hq] at h2
  exact Go.WideShapes.bytes_inj (by simpa using h2)
 ·exact splitP_inj hp h3
def pathLess (p q : ByteArray) : Bool := if (splitP p).isEmpty && (splitP q).isEmpty then bytesLess p.data.toList q.data.toList else decide (cmpL (rawP p) (rawP q) < 0)
theorem pathLess_iff (p q : ByteArray) : pathLess p q = true ↔ (keyP p).lt (keyP q) := by
 unfold pathLess keyP Key.lt
 by_cases hp : splitP p = []
 ·by_cases hq : splitP q = []
  ·have e1 : rawP p = [] := by unfold rawP; rw [hp]; rfl
   have e2 : rawP q = [] := by unfold rawP; rw [hq]; rfl
   simp [hp, hq, e1, e2, bytesLess_iff]
  ·have e1 : rawP p = [] := by unfold rawP; rw [hp]; rfl
   have e2 : rawP q ≠ [] := by unfold rawP; intro e; exact hq (List.map_eq_nil_iff.1 e)
   have e3 : (splitP q).isEmpty = false := by cases h : splitP q with | nil => exact absurd h hq | cons _ _ => rfl
   rw [e3, Bool.and_false, if_neg (by simp), decide_eq_true_eq, cmpL_neg]
   simp only
   constructor
   ·intro h; exact .inl h
   ·rintro (h | ⟨h, _⟩)
    ·exact h
    ·rw [e1] at h; exact absurd h.symm e2
 ·have e3 : (splitP p).isEmpty = false := by cases h : splitP p with | nil => exact absurd h hp | cons _ _ => rfl
  rw [e3, Bool.false_and, if_neg (by simp), decide_eq_true_eq, cmpL_neg]
  simp only
  constructor
  ·intro h; exact .inl h
  ·rintro (h | ⟨h, h2⟩)
   ·exact h
   ·have h4 := rawP_inj h
    have h5 : (splitP q).isEmpty = false := by rw [← h4]; exact e3
    rw [h5] at h2
    simp at h2
theorem pathLess_irr (p : ByteArray) : pathLess p p = false := by
 cases h : pathLess p p with
 | false => rfl
 | true => exact absurd ((pathLess_iff p p).1 h) (Key.irr _)
theorem pathLess_tr {p q r : ByteArray} (h : pathLess p q = true) (k : pathLess q r = true) : pathLess p r = true :=
 (pathLess_iff p r).2 (Key.tr ((pathLess_iff p q).1 h) ((pathLess_iff q r).1 k))
theorem pathLess_tri {p q : ByteArray} (h : pathLess p q = false) (k : pathLess q p = false) : p = q := by
 rcases Key.tri (keyP p) (keyP q) with e | e | e
 ·rw [(pathLess_iff p q).2 e] at h; cases h
 ·exact keyP_inj e
 ·rw [(pathLess_iff q p).2 e] at k; cases k
theorem pathLess_asymm {p q : ByteArray} (h : pathLess p q = true) : pathLess q p = false := by
 cases k : pathLess q p with
 | false => rfl
 | true => exact absurd (pathLess_tr h k) (by rw [pathLess_irr]; simp)
def orderP (p q : ByteArray) : Int := if pathLess p q then -1 else if pathLess q p then 1 else 0
theorem orderP_neg (p q : ByteArray) : orderP p q < 0 ↔ pathLess p q = true := by
 unfold orderP
 cases pathLess p q <;> cases pathLess q p <;> simp
theorem orderP_zero (p q : ByteArray) : orderP p q = 0 ↔ p = q := by
 unfold orderP
 cases h : pathLess p q with
 | true => simp; rintro rfl; rw [pathLess_irr] at h; cases h
 | false =>
  cases k : pathLess q p with
  | true => simp; rintro rfl; rw [pathLess_irr] at k; cases k
  | false => simp; exact pathLess_tri h k
end Go.Proofs.W
namespace Go.Proofs.W
open Go
def insK {α : Type} (lt : α → α → Bool) (x : α) (out : List α) : Nat → Nat
 | 0 => 0
 | k + 1 => match out[k]? with
  | some y => if lt x y then insK lt x out k else k + 1
  | none => k + 1
def insAt {α : Type} (lt : α → α → Bool) (x : α) (out : List α) : List α := out.take (insK lt x out out.length) ++ x :: out.drop (insK lt x out out.length)
def insAll {α : Type} (lt : α → α → Bool) (l : List α) : List α := l.foldl (fun out x => insAt lt x out) []
variable {α : Type} {lt : α → α → Bool}
theorem insK_le (x : α) (out : List α) : ∀ k, insK lt x out k ≤ k
 | 0 => Nat.le_refl _
 | k + 1 => by
  unfold insK
  split
  ·split
   ·exact Nat.le_trans (insK_le x out k) (Nat.le_succ _)
   ·exact Nat.le_refl _
  ·exact Nat.le_refl _
theorem insK_behind (x : α) (out : List α) : ∀ k j y, insK lt x out k ≤ j → j < k → out[j]? = some y → lt x y = true
 | 0, j, y, _, h2, _ => absurd h2 (Nat.not_lt_zero _)
 | k + 1, j, y, h1, h2, h3 => by
  unfold insK at h1
  split at h1
  ·rename_i z hz
   split at h1
   ·rename_i hl
    by_cases e : j = k
    ·subst e
     rw [hz] at h3
     obtain rfl := Option.some.inj h3
     exact hl
    ·exact insK_behind x out k j y h1 (by omega) h3
   ·omega
  ·omega
theorem insK_ahead (x : α) (out : List α) : ∀ k, 0 < insK lt x out k → k ≤ out.length → ∃ y, out[insK lt x out k - 1]? = some y ∧ lt x y = false
 | 0, h, _ => absurd h (Nat.not_lt_zero _)
 | k + 1, h, hk => by
  have hz : out[k]? = some out[k] := List.getElem?_eq_getElem hk
  cases hl : lt x out[k] with
  | true =>
   have e : insK lt x out (k + 1) = insK lt x out k := by
    rw [insK, hz]
    simp [hl]
   rw [e] at h ⊢
   exact insK_ahead x out k h (by omega)
  | false =>
   have e : insK lt x out (k + 1) = k + 1 := by
    rw [insK, hz]
    simp [hl]
   rw [e]
   exact ⟨_, hz, hl⟩
theorem insAt_perm (x : α) (out : List α) : (insAt lt x out).Perm (x :: out) := by
 unfold insAt
 refine List.perm_middle.trans ?_
 rw [List.take_append_drop]
theorem insAll_perm (l : List α) : (insAll lt l).Perm l := by
 unfold insAll
 have : ∀ (l acc : List α), (l.foldl (fun out x => insAt lt x out) acc).Perm (acc ++ l) := by
  intro l
  induction l with
  | nil => intro acc; simp
  | cons x l ih =>
   intro acc
   rw [List.foldl_cons]
   refine (ih _).trans ?_
   refine ((insAt_perm x acc).append_right l).trans ?_
   rw [List.cons_append]
   exact List.perm_middle.symm
 simpa using this l []
def Rising (lt : α → α → Bool) (l : List α) : Prop := l.Pairwise fun a b => lt a b = true
theorem insAt_rising (tr : ∀ x y z, lt x y = true → lt y z = true → lt x z = true) {x : α} {out : List α} (tri : ∀ y ∈ out, lt x y = false → lt y x = true) (h : Rising lt out) : Rising lt (insAt lt x out) := by
 unfold Rising insAt
 have hk := insK_le (lt := lt) x out out.length
 have hb := insK_behind (lt := lt) x out out.length
 have ha := insK_ahead (lt := lt) x out out.length
 generalize insK lt x out out.length = k at hk hb ha
 have hsplit : Rising lt (out.take k ++ out.drop k) := by rw [List.take_append_drop]; exact h
 unfold Rising at hsplit
 rw [List.pairwise_append] at hsplit ⊢
 obtain ⟨h1, h2, h3⟩ := hsplit
 have hx : ∀ y ∈ out.drop k, lt x y = true := fun y hy => by
  obtain ⟨j, hj⟩ := List.mem_iff_getElem?.1 hy
  rw [List.getElem?_drop] at hj
  exact hb (k + j) y (by omega) (List.getElem?_eq_some_iff.1 hj).1 hj
 have hpre : ∀ y ∈ out.take k, lt y x = true := fun y hy => by
  obtain ⟨j, hj⟩ := List.mem_iff_getElem?.1 hy
  rw [List.getElem?_take] at hj
  split at hj
  ·rename_i hjk
   obtain ⟨z, hz, hzl⟩ := ha (by omega) (Nat.le_refl _)
   have hzx := tri z (List.mem_of_getElem? hz) hzl
   by_cases e : j = k - 1
   ·subst e
    rw [hz] at hj
    obtain rfl := Option.some.inj hj
    exact hzx
   ·refine tr y z x ?_ hzx
    have := List.pairwise_iff_getElem.1 h j (k - 1) (List.getElem?_eq_some_iff.1 hj).1 (List.getElem?_eq_some_iff.1 hz).1 (by omega)
    rw [(List.getElem?_eq_some_iff.1 hj).2, (List.getElem?_eq_some_iff.1 hz).2] at this
    exact this
  ·cases hj
 refine ⟨h1, List.pairwise_cons.2 ⟨hx, h2⟩, fun a hma b hb => ?_⟩
 rcases List.mem_cons.1 hb with rfl | hb
 ·exact hpre a hma
 ·exact h3 a hma b hb
theorem insAll_rising (tr : ∀ x y z, lt x y = true → lt y z = true → lt x z = true) {l : List α} (tri : l.Pairwise fun y x => lt x y = false → lt y x = true) : Rising lt (insAll lt l) := by
 have : ∀ (r acc : List α), Rising lt acc → (∀ x ∈ r, ∀ y ∈ acc, lt x y = false → lt y x = true) → (r.Pairwise fun y x => lt x y = false → lt y x = true) → Rising lt (r.foldl (fun out x => insAt lt x out) acc) := by
  intro r
  induction r with
  | nil => intro acc h _ _; exact h
  | cons x r ih =>
   intro acc h h1 h2
   rw [List.foldl_cons]
   obtain ⟨h3, h4⟩ := List.pairwise_cons.1 h2
   refine ih _ (insAt_rising tr (fun y hy => h1 x (by simp) y hy) h) (fun z hz y hy => ?_) h4
   rcases List.mem_cons.1 ((insAt_perm x acc).mem_iff.1 hy) with rfl | hy
   ·exact h3 z hz
   ·exact h1 z (by simp [hz]) y hy
 exact this l [] List.Pairwise.nil (by simp) tri
theorem rising_unique {l m : List α} (asym : ∀ x y, lt x y = true → lt y x = true → False) (h1 : Rising lt l) (h2 : Rising lt m) (hp : l.Perm m) : l = m := by
 refine List.Perm.eq_of_pairwise (le := fun a b => lt a b = true) (fun a b _ _ h k => (asym a b h k).elim) h1 h2 hp
def rankP (ps : List ByteArray) (p : ByteArray) : Nat := (ps.takeWhile fun q => pathLess q p).length
theorem rankP_le (ps : List ByteArray) (p : ByteArray) : rankP ps p ≤ ps.length := List.Sublist.length_le (List.takeWhile_sublist _)
theorem rankP_iff {ps : List ByteArray} (h : Rising pathLess ps) (p : ByteArray) {j : Nat} {q : ByteArray} (hq : ps[j]? = some q) : pathLess q p = true ↔ j < rankP ps p := by
 induction ps generalizing j with
 | nil => cases hq
 | cons a ps ih =>
  obtain ⟨h1, h2⟩ := List.pairwise_cons.1 h
  unfold rankP at ih ⊢
  rw [List.takeWhile_cons]
  cases ha : pathLess a p with
  | true =>
   simp only [if_true, List.length_cons]
   cases j with
   | zero =>
    obtain rfl : a = q := by simpa using hq
    simp [ha]
   | succ j =>
    rw [List.getElem?_cons_succ] at hq
    rw [ih h2 hq]
    omega
  | false =>
   simp only [Bool.false_eq_true, if_false, List.length_nil, Nat.not_lt_zero, iff_false, Bool.not_eq_true]
   cases j with
   | zero =>
    obtain rfl : a = q := by simpa using hq
    exact ha
   | succ j =>
    rw [List.getElem?_cons_succ] at hq
    cases hqp : pathLess q p with
    | false => rfl
    | true => rw [pathLess_tr (h1 q (List.mem_of_getElem? hq)) hqp] at ha; cases ha
theorem rankP_mem {ps : List ByteArray} (h : Rising pathLess ps) (p : ByteArray) : p ∈ ps ↔ ps[rankP ps p]? = some p := by
 constructor
 ·intro hm
  obtain ⟨j, hj⟩ := List.mem_iff_getElem?.1 hm
  have h1 : ¬ j < rankP ps p := fun e => by
   have := (rankP_iff h p hj).2 e
   rw [pathLess_irr] at this; cases this
  have h2 : ¬ rankP ps p < j := fun e => by
   have hl : rankP ps p < ps.length := by have := (List.getElem?_eq_some_iff.1 hj).1; omega
   have h3 := List.pairwise_iff_getElem.1 h (rankP ps p) j hl (List.getElem?_eq_some_iff.1 hj).1 e
   rw [(List.getElem?_eq_some_iff.1 hj).2] at h3
   have h4 := (rankP_iff h p (List.getElem?_eq_getElem hl)).1 h3
   omega
  rw [show rankP ps p = j by omega]
  exact hj
 ·exact List.mem_of_getElem?
theorem rankP_put {ps : List ByteArray} (h : Rising pathLess ps) {p : ByteArray} (hn : p ∉ ps) : Rising pathLess (ps.take (rankP ps p) ++ p :: ps.drop (rankP ps p)) := by
 have hsplit : Rising pathLess (ps.take (rankP ps p) ++ ps.drop (rankP ps p)) := by rw [List.take_append_drop]; exact h
 unfold Rising at hsplit ⊢
 rw [List.pairwise_append] at hsplit ⊢
 obtain ⟨h1, h2, h3⟩ := hsplit
 have hpre : ∀ y ∈ ps.take (rankP ps p), pathLess y p = true := fun y hy => by
  obtain ⟨j, hj⟩ := List.mem_iff_getElem?.1 hy
  rw [List.getElem?_take] at hj
  split at hj
  ·rename_i hjk
   exact (rankP_iff h p hj).2 hjk
  ·cases hj
 have hpost : ∀ y ∈ ps.drop (rankP ps p), pathLess p y = true := fun y hy => by
  have hy2 := List.mem_of_mem_drop hy
  obtain ⟨j, hj⟩ := List.mem_iff_getElem?.1 hy
  rw [List.getElem?_drop] at hj
  cases hpy : pathLess p y with
  | true => rfl
  | false =>
   cases hyp : pathLess y p with
   | true => have := (rankP_iff h p hj).1 hyp; omega
   | false => exact absurd (pathLess_tri hyp hpy ▸ hy2) hn
 refine ⟨h1, List.pairwise_cons.2 ⟨hpost, h2⟩, fun a ha b hb => ?_⟩
 rcases List.mem_cons.1 hb with rfl | hb
 ·exact hpre a ha
 ·exact h3 a ha b hb
end Go.Proofs.W
namespace Go.Proofs.W
open Go Go.Proofs
open Go.Proofs.Np (cutAt cutAt_ne cutAt_none cutAt_append cutB splitS idxI idxI_cases)
set_option maxRecDepth 100000
structure CutTo (p : ByteArray) (i at_ : Nat) (out : List ByteArray) : Prop where
 le : at_ ≤ i
 cut : (at_ ≤ p.size ∧ cutB p = out ++ (cutAt 47 (p.data.toList.drop at_)).map Np.bytes) ∨ (at_ = p.size + 1 ∧ cutB p = out)
 no : ∀ k (h : k < p.size), at_ ≤ k → k < i → p[k] ≠ 47
theorem pathR_names {p : ByteArray} (h : pathR p = true) : p.size ≤ 200 ∧ (cutB p).length ≤ 16 ∧ (∀ s, s ∈ cutB p → nameR s = true) ∧ splitP p = cutB p := by
 have h' := h
 unfold pathR at h
 simp only [Bool.and_eq_true, decide_eq_true_eq, Bool.not_eq_true', decide_eq_false_iff_not] at h
 obtain ⟨⟨h1, h2⟩, h3⟩ := h
 refine ⟨by omega, by omega, fun s hs => ?_, by unfold splitP splitS; rw [if_pos h']⟩
 cases hq : nameR s with
 | true => rfl
 | false =>
  exfalso
  apply h3
  unfold idxI
  cases hf : (cutB p).findIdx? (fun s => !nameR s) with
  | some i => exact Int.natCast_nonneg i
  | none =>
   rw [List.findIdx?_eq_none_iff] at hf
   have := hf s hs
   rw [hq] at this
   cases this
end Go.Proofs.W
namespace Go.Proofs.W
open Go Go.Proofs Go.Op
open Go.Proofs.Np (cutB)
set_option maxRecDepth 100000
theorem bytesLess_irr (a : List UInt8) : bytesLess a a = false := by
 cases h : bytesLess a a with
 | false => rfl
 | true => exact absurd ((bytesLess_iff a a).1 h) (lt_irr a)
theorem cmpL_same (r1 r2 : List (List UInt8)) : ∀ pre : List (List UInt8), cmpL (pre ++ r1) (pre ++ r2) = cmpL r1 r2
 | [] => rfl
 | a :: pre => by
  rw [List.cons_append, List.cons_append, cmpL, bytesLess_irr, if_neg (by simp), if_neg (by simp)]
  exact cmpL_same r1 r2 pre
theorem pathLess_right {x : ByteArray} (hx : pathR x = true) (y : ByteArray) : pathLess x y = decide (cmpL (rawP x) (rawP y) < 0) := by
 unfold pathLess
 have h : (splitP x).isEmpty = false := by
  cases h : splitP x with
  | nil => rw [splitP_nil.1 h] at hx; cases hx
  | cons _ _ => rfl
 rw [h]
 simp
end Go.Proofs.W
