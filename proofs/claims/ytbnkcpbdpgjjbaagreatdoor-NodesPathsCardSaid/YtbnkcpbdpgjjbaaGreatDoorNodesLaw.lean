/- A PART OF THE PROOF THAT ONE CALL OF A LAW OF LAYER 18 (of nodes that may be, each path leads there) returns true, whatever the input; the input reads as it did. No condition beyond the given statement. This part: NodesLaw. -/
import Derived.Lib.Split
import Derived.Lib.Join
import Derived.Lib.IndexBytes
import Derived.Lib.IndexLaws
import Derived.Lib.SplitLaws
namespace Go.Proofs.Np
open Go

/-- a node, as the laws here see it -/
structure Nd where
  sp : ByteArray
  sn : Int
  dr : Bool
  pp : ByteArray
  pn : Int
  nm : ByteArray
  gone : ByteArray
  ats : Option Addr × Nat × Nat
  pus : Option Addr × Nat × Nat
  lis : Option Addr × Nat × Nat
  deriving Inhabited
def Nd.cells (d : Nd) : List Value := [.string d.sp, .int .i64 d.sn, .bool d.dr, .string d.pp, .int .i64 d.pn, .string d.nm, .string d.gone, .slice d.ats.1 d.ats.2.1 d.ats.2.2, .slice d.pus.1 d.pus.2.1 d.pus.2.2, .slice d.lis.1 d.lis.2.1 d.lis.2.2]

def idxI {α : Type} (q : α → Bool) (ns : List α) : Int := match ns.findIdx? q with
  | some i => i
  | none => -1

theorem idxI_at {α : Type} {q : α → Bool} {ns : List α} {i : Nat} (h : idxI q ns = i) : ∃ d, ns[i]? = some d ∧ q d = true := by
  unfold idxI at h
  split at h
  · rename_i j hj
    have : j = i := by omega
    subst this
    rw [List.findIdx?_eq_some_iff_getElem] at hj
    obtain ⟨h1, h2, _⟩ := hj
    exact ⟨ns[j], List.getElem?_eq_getElem h1, h2⟩
  · omega

theorem idxI_cases {α : Type} (q : α → Bool) (ns : List α) : idxI q ns = -1 ∨ ∃ i d, idxI q ns = (i : Nat) ∧ ns[i]? = some d ∧ q d = true := by
  cases h : ns.findIdx? q with
  | none => exact .inl (by unfold idxI; rw [h])
  | some i =>
    have e : idxI q ns = (i : Nat) := by unfold idxI; rw [h]
    obtain ⟨d, h1, h2⟩ := idxI_at e
    exact .inr ⟨i, d, e, h1, h2⟩

def selfIs (p : ByteArray) (n : Int) (d : Nd) : Bool := decide (d.sp = p) && decide (d.sn = n)
def liesAt (p : ByteArray) (n : Int) (s : ByteArray) (d : Nd) : Bool := decide (d.gone = ByteArray.empty) && (decide (d.pp = p) && decide (d.pn = n)) && decide (d.nm = s)
def isRoot (p : ByteArray) (n : Int) : Bool := decide (p = ByteArray.empty) && decide (n = 0)

/-- the names from the root to what is named so; none: there is no path -/
def pathGo (ns : List Nd) : Nat → ByteArray → Int → List ByteArray → Option (List ByteArray)
  | k, p, n, names => if isRoot p n then some names else match k with
    | 0 => none
    | k + 1 => match ns[(idxI (selfIs p n) ns).toNat]?, decide (0 ≤ idxI (selfIs p n) ns) with
      | some d, true => if d.gone = ByteArray.empty ∧ names.length < 16 then pathGo ns k d.pp d.pn (d.nm :: names) else none
      | _, _ => none

def lookGo (ns : List Nd) : List ByteArray → Int → ByteArray → Int → Int
  | [], a, _, _ => a
  | s :: r, _, p, n => match ns[(idxI (liesAt p n s) ns).toNat]?, decide (0 ≤ idxI (liesAt p n s) ns) with
    | some d, true => lookGo ns r (idxI (liesAt p n s) ns) d.sp d.sn
    | _, _ => idxI (liesAt p n s) ns

theorem pathGo_look {ns : List Nd} (hself : ∀ i d, ns[i]? = some d → idxI (selfIs d.sp d.sn) ns = (i : Nat)) (hat : ∀ i d, ns[i]? = some d → d.gone = ByteArray.empty → idxI (liesAt d.pp d.pn d.nm) ns = (i : Nat)) :
    ∀ (k : Nat) (p : ByteArray) (n : Int) (names L : List ByteArray), pathGo ns k p n names = some L →
      ∃ pre, L = pre ++ names ∧ ∀ rest a0, ∃ a1, lookGo ns (pre ++ rest) a0 ByteArray.empty 0 = lookGo ns rest a1 p n ∧ (isRoot p n = false → a1 = idxI (selfIs p n) ns)
  | k, p, n, names, L, h => by
    unfold pathGo at h
    split at h
    · rename_i hr
      obtain rfl := Option.some.inj h
      unfold isRoot at hr
      simp only [Bool.and_eq_true, decide_eq_true_eq] at hr
      obtain ⟨rfl, rfl⟩ := hr
      exact ⟨[], rfl, fun rest a0 => ⟨a0, rfl, fun hf => by simp [isRoot] at hf⟩⟩
    · rename_i hr
      match k, h with
      | 0, h => cases h
      | k + 1, h =>
        simp only at h
        split at h
        · rename_i d hd h0
          split at h
          · rename_i hg
            obtain ⟨pre, rfl, hl⟩ := pathGo_look hself hat k d.pp d.pn (d.nm :: names) L h
            have h0 : 0 ≤ idxI (selfIs p n) ns := by simpa using h0
            obtain ⟨i, hi⟩ : ∃ i : Nat, idxI (selfIs p n) ns = i := ⟨(idxI (selfIs p n) ns).toNat, by omega⟩
            rw [hi] at hd
            have hd : ns[i]? = some d := by simpa using hd
            obtain ⟨d', hd', hq⟩ := idxI_at hi
            obtain rfl : d' = d := Option.some.inj (hd'.symm.trans hd)
            unfold selfIs at hq
            simp only [Bool.and_eq_true, decide_eq_true_eq] at hq
            obtain ⟨rfl, rfl⟩ := hq
            refine ⟨pre ++ [d'.nm], by simp, fun rest a0 => ?_⟩
            obtain ⟨a1, h1, _⟩ := hl (d'.nm :: rest) a0
            refine ⟨(i : Int), ?_, fun _ => hi.symm⟩
            rw [List.append_assoc, List.singleton_append, h1]
            have e := hat i d' hd hg.1
            rw [lookGo, e]
            simp [hd]
          · cases h
        · cases h

/-! ### cut and joined -/
/-- cut at each of a byte -/
def cutAt (c : UInt8) : List UInt8 → List (List UInt8)
  | [] => [[]]
  | x :: r => if x = c then [] :: cutAt c r else match cutAt c r with
    | [] => [[x]]
    | y :: ys => (x :: y) :: ys

theorem cutAt_ne (c : UInt8) : ∀ l, cutAt c l ≠ []
  | [] => by simp [cutAt]
  | x :: r => by
    unfold cutAt
    split
    · simp
    · split <;> simp

theorem cutAt_length (c : UInt8) : ∀ l, (cutAt c l).length = l.count c + 1
  | [] => rfl
  | x :: r => by
    have ih := cutAt_length c r
    unfold cutAt
    split
    · rename_i h; subst h; simp [ih]
    · rename_i h
      have hc : (x :: r).count c = r.count c := by rw [List.count_cons]; simp [h]
      split
      · rename_i e; exact absurd e (cutAt_ne c r)
      · rename_i y ys e
        rw [e] at ih
        rw [hc]
        simpa using ih

theorem cutAt_none {c : UInt8} : ∀ {a : List UInt8}, a.count c = 0 → cutAt c a = [a]
  | [], _ => rfl
  | x :: r, h => by
    have hx : ¬ x = c := fun e => by subst e; simp at h
    have hr : r.count c = 0 := by rw [List.count_cons] at h; omega
    unfold cutAt
    rw [if_neg hx, cutAt_none hr]

theorem cutAt_append {c : UInt8} (b : List UInt8) : ∀ {a : List UInt8}, a.count c = 0 → cutAt c (a ++ c :: b) = a :: cutAt c b
  | [], _ => by simp [cutAt]
  | x :: r, h => by
    have hx : ¬ x = c := fun e => by subst e; simp at h
    have hr : r.count c = 0 := by rw [List.count_cons] at h; omega
    rw [List.cons_append]
    conv => lhs; unfold cutAt
    rw [if_neg hx, cutAt_append b hr]

def joinAt (c : UInt8) : List (List UInt8) → List UInt8
  | [] => []
  | [x] => x
  | x :: y :: r => x ++ c :: joinAt c (y :: r)

theorem joinAt_count (c : UInt8) : ∀ l : List (List UInt8), l ≠ [] → (joinAt c l).count c + 1 = (l.map (·.count c)).sum + l.length
  | [], h => absurd rfl h
  | [x], _ => by simp [joinAt]
  | x :: y :: r, _ => by
    have ih := joinAt_count c (y :: r) (by simp)
    simp only [joinAt, List.count_append, List.count_cons_self, List.map_cons, List.sum_cons, List.length_cons] at ih ⊢
    omega

theorem cut_join {c : UInt8} : ∀ {l : List (List UInt8)}, l ≠ [] → (∀ x ∈ l, x.count c = 0) → cutAt c (joinAt c l) = l
  | [], h, _ => absurd rfl h
  | [x], _, h => cutAt_none (h x (by simp))
  | x :: y :: r, _, h => by
    rw [joinAt, cutAt_append _ (h x (by simp)), cut_join (by simp) fun z hz => h z (by simp [hz])]

/-- WHAT IS CUT INTO AS MANY PIECES AS IT WAS JOINED OF IS CUT INTO THESE. -/
theorem cut_join_len {c : UInt8} {l : List (List UInt8)} (hne : l ≠ []) (h : (cutAt c (joinAt c l)).length = l.length) : cutAt c (joinAt c l) = l := by
  refine cut_join hne fun x hx => ?_
  have h1 := joinAt_count c l hne
  rw [cutAt_length] at h
  have h2 : (l.map (·.count c)).sum = 0 := by omega
  have : ∀ m : List Nat, m.sum = 0 → ∀ y ∈ m, y = 0 := fun m => by
    induction m with
    | nil => intro _ y hy; cases hy
    | cons a m ih =>
      intro hs y hy
      simp only [List.sum_cons] at hs
      rcases List.mem_cons.1 hy with rfl | hy
      · omega
      · exact ih (by omega) y hy
  exact this _ h2 _ (List.mem_map.2 ⟨x, hx, rfl⟩)

theorem joinAt_intercalate (c : UInt8) : ∀ l : List (List UInt8), [c].intercalate l = joinAt c l
  | [] => by simp [List.intercalate, joinAt]
  | [x] => by simp [List.intercalate, joinAt]
  | x :: y :: r => by
    have ih := joinAt_intercalate c (y :: r)
    rw [joinAt, ← ih]
    simp [List.intercalate, List.intersperse]

def bytes (l : List UInt8) : ByteArray := ⟨l.toArray⟩
theorem bytes_inj {a : ByteArray} {l : List UInt8} (h : a.data.toList = l) : bytes l = a := by
  subst h
  rfl
theorem bytes_back (l : List UInt8) : (bytes l).data.toList = l := by simp [bytes]

def cutB (p : ByteArray) : List ByteArray := (cutAt 47 p.data.toList).map bytes
def joinB (names : List ByteArray) : ByteArray := bytes (joinAt 47 (names.map (·.data.toList)))
def splitS (right : ByteArray → Bool) (p : ByteArray) : List ByteArray := if right p = true then cutB p else []
def joinS (right : ByteArray → Bool) (names : List ByteArray) : ByteArray := if (splitS right (joinB names)).length = names.length then joinB names else ByteArray.empty
def pathS (right : ByteArray → Bool) (ns : List Nd) (p : ByteArray) (n : Int) : ByteArray := match pathGo ns 17 p n [] with
  | some L => joinS right L
  | none => ByteArray.empty
def lookS (right : ByteArray → Bool) (ns : List Nd) (p : ByteArray) : Int := lookGo ns (splitS right p) (-1) ByteArray.empty 0

theorem split_join {right : ByteArray → Bool} {L : List ByteArray} (h : joinS right L ≠ ByteArray.empty) : splitS right (joinS right L) = L := by
  unfold joinS at h ⊢
  split at h
  · rename_i hl
    rw [if_pos hl]
    unfold splitS at hl ⊢
    cases L with
    | nil => exact absurd rfl h
    | cons x L =>
      cases hr : right (joinB (x :: L)) with
      | false => rw [hr] at hl; simp at hl
      | true =>
        rw [hr] at hl
        simp only [if_true] at hl ⊢
        unfold cutB joinB at hl ⊢
        rw [bytes_back] at hl ⊢
        have h2 := cut_join_len (c := 47) (l := (x :: L).map (·.data.toList)) (by simp) (by simpa using hl)
        rw [h2, List.map_map]
        have : (bytes ∘ fun x : ByteArray => x.data.toList) = id := funext fun a => bytes_inj rfl
        rw [this, List.map_id]
  · exact absurd rfl h

/-- EACH ONE's PATH LEADS THERE. -/
theorem path_look {right : ByteArray → Bool} {ns : List Nd} (hself : ∀ i d, ns[i]? = some d → idxI (selfIs d.sp d.sn) ns = (i : Nat)) (hat : ∀ i d, ns[i]? = some d → d.gone = ByteArray.empty → idxI (liesAt d.pp d.pn d.nm) ns = (i : Nat))
    {i : Nat} {d : Nd} (hi : ns[i]? = some d) (hr : isRoot d.sp d.sn = false) (hp : pathS right ns d.sp d.sn ≠ ByteArray.empty) : lookS right ns (pathS right ns d.sp d.sn) = (i : Nat) := by
  unfold pathS at hp ⊢
  split at hp
  · rename_i L hL
    unfold lookS
    rw [split_join hp]
    obtain ⟨pre, rfl, h⟩ := pathGo_look hself hat 17 d.sp d.sn [] L hL
    obtain ⟨a1, h1, h2⟩ := h [] (-1)
    rw [h1, lookGo, h2 hr]
    exact hself i d hi
  · exact absurd rfl hp
end Go.Proofs.Np
namespace Go.Proofs.Np
open Go

theorem splitK_cut (c : UInt8) : ∀ (k : Nat) (s : List UInt8), k = s.count c → Lib.splitK [c] 0 k s = cutAt c s := by
  intro k
  induction k with
  | zero => intro s h; rw [cutAt_none h.symm]; rfl
  | succ k ih =>
    intro s h
    obtain ⟨a, b, rfl, ha⟩ : ∃ a b, s = a ++ c :: b ∧ a.count c = 0 := by
      clear ih
      induction s with
      | nil => simp at h
      | cons x r ih =>
        by_cases hx : x = c
        · subst hx
          exact ⟨[], r, rfl, rfl⟩
        · obtain ⟨a, b, rfl, ha⟩ := ih (by rw [List.count_cons] at h; simpa [hx] using h)
          exact ⟨x :: a, b, rfl, by rw [List.count_cons]; simp [hx, ha]⟩
    have hidx : Lib.index (a ++ c :: b) [c] = (a.length : Nat) := by
      rw [Lib.index_one]
      clear h ih
      induction a with
      | nil => simp [Lib.indexByte]
      | cons x r ih =>
        have hx : ¬ x = c := fun e => by subst e; simp at ha
        have hr : r.count c = 0 := by rw [List.count_cons] at ha; omega
        have h2 := ih hr
        rw [List.cons_append, Lib.indexByte, h2]
        have e1 : (x == c) = false := by simpa using hx
        have e2 : (((r.length : Nat) : Int) == -1) = false := by
          cases hq : (((r.length : Nat) : Int) == -1) with
          | false => rfl
          | true => have := beq_iff_eq.1 hq; omega
        rw [e1, e2]
        simp
    unfold Lib.splitK
    rw [hidx]
    have e2 : (((a.length : Nat) : Int) == -1) = false := by
      cases hq : (((a.length : Nat) : Int) == -1) with
      | false => rfl
      | true => have := beq_iff_eq.1 hq; omega
    rw [e2, cutAt_append _ ha]
    have hb : k = b.count c := by
      rw [List.count_append, ha, List.count_cons_self] at h
      omega
    have h3 := ih b hb
    have e3 : ((a.length : Nat) : Int).toNat = a.length := by omega
    simp only [e3, Bool.false_eq_true, if_false, Nat.add_zero, List.length_singleton]
    rw [show List.drop (a.length + 1) (a ++ c :: b) = b by simp, h3]
    simp

theorem splitB_cutB (s : ByteArray) : Lib.splitB ⟨#[47]⟩ 0 (Lib.countB s ⟨#[47]⟩) s = cutB s := by
  have h := Lib.splitB_data ⟨#[47]⟩ 0 (Lib.countB s ⟨#[47]⟩) s
  have hc : Lib.countB s ⟨#[47]⟩ = s.data.toList.count 47 := by
    show Lib.count s.data.toList [47] = _
    exact Lib.count_one 47 _
  have h2 : Lib.splitK [47] 0 (Lib.countB s ⟨#[47]⟩) s.data.toList = cutAt 47 s.data.toList := splitK_cut 47 _ _ hc
  have h3 : (Lib.splitB ⟨#[47]⟩ 0 (Lib.countB s ⟨#[47]⟩) s).map (·.data.toList) = cutAt 47 s.data.toList := h.trans h2
  unfold cutB
  rw [← h3, List.map_map]
  have : (bytes ∘ fun x : ByteArray => x.data.toList) = id := funext fun a => bytes_inj rfl
  rw [this, List.map_id]

theorem countB_cutB (s : ByteArray) : Lib.countB s ⟨#[47]⟩ + 1 = (cutB s).length := by
  have hc : Lib.countB s ⟨#[47]⟩ = s.data.toList.count 47 := by
    show Lib.count s.data.toList [47] = _
    exact Lib.count_one 47 _
  unfold cutB
  rw [List.length_map, cutAt_length, hc]

theorem join_joinB (names : List ByteArray) : (⟨(Lib.join (names.map (·.data.toList)) [47]).toArray⟩ : ByteArray) = joinB names := by
  unfold joinB bytes Lib.join
  rw [joinAt_intercalate]
end Go.Proofs.Np
