/- A PART OF THE PROOF THAT ONE CALL OF A LAW OF LAYER 29 (whose alternatives any lines have, and whether they have marks) returns true, whatever the input; the input reads as it did. No condition beyond the given statement. This part: WMark. -/
import Derived.Test.YtklmbhogclaieaaGreatDoorWHead
import Derived.Test.YtklmbhogclaieaaGreatDoorWName
import Derived.Test.YtklmbhogclaieaaGreatDoorWLight
import Derived.Test.YtklmbhogclaieaaGreatDoorWSetR
namespace Go.Proofs.W
open Go Go.Proofs Go.RowKit
set_option maxRecDepth 1000000

/-- does a line begin an alternative? as the walk has it -/
def markB (s : ByteArray) : Bool := decide ((4 : Int) ≤ (s.size : Int)) && ((s.extract 0 4).toList == [60, 60, 60, 32])
def tail4 (s : ByteArray) : ByteArray := s.extract 4 s.size
/-- what a line names -/
def named1 (s : ByteArray) : List ByteArray := if markB s && nameR (tail4 s) then [tail4 s] else []
def namedB (xs : List ByteArray) : List ByteArray := xs.flatMap named1
def clean1 (s : ByteArray) : Bool := !(s.toList == [62, 62, 62]) && !markB s
def cleanB (xs : List ByteArray) : Bool := xs.all clean1

set_option maxHeartbeats 4000000 in
theorem R29_Mark (s : ByteArray) (w : World) : Calls Tryz.prog 10 #[.string s] w fun e w' => e = .returned (.bool (markB s)) ∧ w' = w := by
  unfold markB
  by_cases h4 : (4 : Int) ≤ (s.size : Int)
  · have h1 : decide ((4 : Int) ≤ (s.size : Int)) = true := decide_eq_true h4
    rw [h1]
    go_enter Tryz.func10, Tryz.ntmps10
    go_wp2
    go_ret
    exact ⟨by simp, rfl⟩
  · have h1 : decide ((4 : Int) ≤ (s.size : Int)) = false := decide_eq_false h4
    rw [h1]
    go_enter Tryz.func10, Tryz.ntmps10
    go_wp2
    go_ret
    exact ⟨by simp, rfl⟩
end Go.Proofs.W
namespace Go.Proofs.W
open Go Go.Proofs Go.RowKit
set_option maxRecDepth 1000000

theorem namedB_length : ∀ xs : List ByteArray, (namedB xs).length ≤ xs.length
  | [] => by simp [namedB]
  | x :: r => by
    have := namedB_length r
    unfold namedB at this ⊢
    rw [List.flatMap_cons, List.length_append]
    have h1 : (named1 x).length ≤ 1 := by unfold named1; split <;> simp
    simp only [List.length_cons]
    omega
theorem namedB_take (xs : List ByteArray) (i : Nat) (h : i < xs.length) : namedB (xs.take (i + 1)) = namedB (xs.take i) ++ named1 xs[i] := by
  unfold namedB
  rw [List.take_succ_eq_append_getElem h, List.flatMap_append]
  simp
theorem cleanB_take (xs : List ByteArray) (i : Nat) (h : i < xs.length) : cleanB (xs.take (i + 1)) = (cleanB (xs.take i) && clean1 xs[i]) := by
  unfold cleanB
  rw [List.take_succ_eq_append_getElem h, List.all_append]
  simp

set_option maxHeartbeats 8000000 in
theorem cutPrefix (s : ByteArray) (w : World) : Calls Tryz.prog 52 #[.string s, .string ⟨#[60, 60, 60, 32]⟩] w fun e w' => e = .returned (.tuple #[.string (if markB s then tail4 s else s), .bool (markB s)]) ∧ w' = w := by
  unfold markB
  by_cases h4 : (4 : Int) ≤ (s.size : Int)
  · have h1 : decide ((4 : Int) ≤ (s.size : Int)) = true := decide_eq_true h4
    rw [h1]
    cases h2 : ((s.extract 0 4).toList == [60, 60, 60, 32])
    all_goals
      go_enter Tryz.func52, Tryz.ntmps52
      go_wp2
      go_ret2
    all_goals exact ⟨rfl, rfl⟩
  · have h1 : decide ((4 : Int) ≤ (s.size : Int)) = false := decide_eq_false h4
    rw [h1]
    go_enter Tryz.func52, Tryz.ntmps52
    go_wp2
    go_ret2
    exact ⟨rfl, rfl⟩

set_option maxHeartbeats 8000000 in
theorem markup_Names (a : Option Addr) (c : Nat) (xs : List ByteArray) (w : World) (h : TextsH w a xs) (hlen : xs.length ≤ 4398046511104) :
    Calls Tryz.prog 13 #[.slice a xs.length c] w fun e w' => (∃ v', e = .returned v' ∧ TextNew w.heap.size w' v' (setB (namedB xs))) ∧ Below w.heap.size w w' := by
  go_enter Tryz.func13, Tryz.ntmps13
  go_wp2
  go_loopw [3, 10] (fun sv iv w' => Below w.heap.size w w' ∧ ∃ i : Nat, i ≤ xs.length ∧ iv = .int .i64 i ∧ OwnT w.heap.size w' sv (namedB (xs.take i))) (fun _ iv _ => xs.length - (intOf iv).toNat)
  case atStart => exact ⟨Below.refl _ w, 0, Nat.zero_le _, rfl, OwnT.nil _ _⟩
  case round =>
    obtain ⟨hB, i, hi, rfl, hown⟩ := hrel
    by_cases hlt : i < xs.length
    · obtain h0 | ⟨b, o, rfl, hN⟩ := h
      · omega
      have hd : xs[i]? = some xs[i] := List.getElem?_eq_getElem hlt
      have hlt' : (i : Int) < (xs.length : Int) := by omega
      have hnn : ¬ (i : Int) < 0 := by omega
      have hnn0 : (0 : Int) ≤ (i : Int) := by omega
      obtain ⟨X, hX⟩ : ∃ X, xs[i] = X := ⟨_, rfl⟩
      have hnx := namedB_take xs i hlt
      rw [hX] at hd hnx
      have cx := (hN.below hB).cell i _ hd
      have hnl := namedB_length (xs.take i)
      have hcp := cutPrefix X
      have hnr := name_Right (tail4 X)
      unfold named1 at hnx
      cases hm : markB X with
      | false =>
        have hres : namedB (xs.take (i + 1)) = namedB (xs.take i) := by rw [hnx, hm]; simp
        simp only [hm, Bool.false_eq_true, if_false] at hcp
        go_wp2_with (go_at_call 52; refine (hcp _).mono ?_; rintro e w' ⟨rfl, rfl⟩)
        go_roundw
        case rel => exact ⟨hB, i + 1, by omega, by push_cast; rfl, by rw [hres]; exact hown⟩
        case measure => simp [intOf]; omega
      | true =>
        simp only [hm, if_true] at hcp
        cases hn : nameR (tail4 X) with
        | false =>
          have hres : namedB (xs.take (i + 1)) = namedB (xs.take i) := by rw [hnx, hm, hn]; simp
          rw [hn] at hnr
          go_wp2_with (first | (go_at_call 52; refine (hcp _).mono ?_; rintro e w' ⟨rfl, rfl⟩) | (go_at_call 53; refine (hnr _).mono ?_; rintro e w' ⟨rfl, hb'⟩))
          go_roundw
          case rel => exact ⟨belowTrans hB hb', i + 1, by omega, by push_cast; rfl, by rw [hres]; exact hown.kept hb'⟩
          case measure => simp [intOf]; omega
        | true =>
          have hres : namedB (xs.take (i + 1)) = namedB (xs.take i) ++ [tail4 X] := by rw [hnx, hm, hn]; simp
          rw [hn] at hnr
          go_wp2_with (first
            | (go_at_call 52; refine (hcp _).mono ?_; rintro e w' ⟨rfl, rfl⟩)
            | (go_at_call 53; refine (hnr _).mono ?_; rintro e w' ⟨rfl, hb'⟩)
            | (at_builtin; refine wpList_append_texts _ rfl (.tmp 24) (.tmp 26) rfl w.heap.size _ (namedB (xs.take i)) rfl ((hown.kept hb').kept (belowAlloc _ _)) _ [tail4 X] rfl (srcOne _ _ _) ?len ?base ?_))
          case len => rw [List.length_take] at hnl; simp; omega
          case base => have := (belowTrans hB hb').size; simp; omega
          intro v1 w1 hown1 hg1
          have hb1 := belowGrown (belowTrans (belowTrans hB hb') (belowAlloc _ _)) (Nat.le_refl _) (by have := (belowTrans hB hb').size; simp; omega) ((hown.kept hb').kept (belowAlloc _ _)) hg1
          go_wp2
          go_roundw
          case rel => exact ⟨hb1, i + 1, by omega, by push_cast; rfl, by rw [hres]; exact hown1⟩
          case measure => simp [intOf]; omega
    · have hlt' : ¬ (i : Int) < (xs.length : Int) := by omega
      obtain rfl : i = xs.length := by omega
      rw [List.take_length] at hown
      have hnl := namedB_length xs
      have hset := name_Set _ _ wr hown.sl (by omega)
      go_wp2_with (go_at_call 54; refine hset.mono ?_; rintro e w' ⟨⟨v', rfl, hv'⟩, hb'⟩)
      go_ret
      exact ⟨⟨_, rfl, TextNew.mono hv' hB.size⟩, belowTrans hB hb'⟩
end Go.Proofs.W
namespace Go.Proofs.W
open Go Go.Proofs Go.RowKit
set_option maxRecDepth 1000000

theorem clean_enters : ∀ args w, (callFunc 56 args).run Tryz.prog w = .ok (.enter 56 args) w := enters_of Tryz.func56 (by kernel_rfl) rfl

set_option maxHeartbeats 4000000 in
theorem clean_index (q : ByteArray → Bool) (a : Option Addr) (c : Nat) (xs : List ByteArray) (w : World) (hsay : ∀ (W : World) (x : ByteArray), Below w.heap.size w W → x ∈ xs → Calls Tryz.prog 56 #[.string x] W fun e W' => e = .returned (.bool (q x)) ∧ Below W.heap.size W W') (h : TextsH w a xs) (hlen : xs.length < 9223372036854775808) :
    Calls Tryz.prog 123 #[.slice a xs.length c, .func (.func 56) #[] #[]] w fun e w' => IxSays (xs.any q) e ∧ Below w.heap.size w w' := by
  have hent := clean_enters
  go_enter Tryz.func123, Tryz.ntmps123
  go_wp2
  go_loopw [8] (fun x w' => Below w.heap.size w w' ∧ ∃ i : Nat, i ≤ xs.length ∧ x = .int .i64 i ∧ ∀ j d, j < i → xs[j]? = some d → q d = false) (fun x _ => xs.length - (intOf x).toNat)
  case atStart => exact ⟨Below.refl _ w, 0, Nat.zero_le _, rfl, fun j d hj => absurd hj (Nat.not_lt_zero _)⟩
  case round =>
    obtain ⟨hB, i, hi, rfl, hno⟩ := hrel
    by_cases hlt : i < xs.length
    · obtain ⟨b, o, rfl, hN⟩ : ∃ b o, a = some ⟨b, o, none⟩ ∧ TextsAt w b o xs := h.resolve_left (by omega)
      have hd : xs[i]? = some xs[i] := List.getElem?_eq_getElem hlt
      have hmem : xs[i] ∈ xs := List.getElem_mem hlt
      obtain ⟨X, hX⟩ : ∃ X, xs[i] = X := ⟨_, rfl⟩
      rw [hX] at hd hmem
      have c0 := (hN.below hB).cell i _ hd
      have hlt' : (i : Int) < (xs.length : Int) := by omega
      have hnn : ¬ (i : Int) < 0 := by omega
      have hnn0 : (0 : Int) ≤ (i : Int) := by omega
      have hcall := hsay wr X hB hmem
      cases hqi : q X with
      | true =>
        rw [hqi] at hcall
        go_wp2_with (go_at_fn 56; refine hcall.mono ?_; rintro e w' ⟨rfl, hb'⟩)
        go_ret
        refine ⟨⟨_, rfl, ?_⟩, belowTrans hB hb'⟩
        have h1 : xs.any q = true := List.any_eq_true.2 ⟨X, hmem, hqi⟩
        rw [h1]
        exact decide_eq_true hnn0
      | false =>
        rw [hqi] at hcall
        go_wp2_with (go_at_fn 56; refine hcall.mono ?_; rintro e w' ⟨rfl, hb'⟩)
        go_roundw
        case rel => exact ⟨belowTrans hB hb', i + 1, by omega, by push_cast; rfl, fun j d hj hd2 => by
          by_cases e : j = i
          · subst e; rw [hd] at hd2; obtain rfl := Option.some.inj hd2; exact hqi
          · exact hno j d (by omega) hd2⟩
        case measure => simp [intOf]; omega
    · have hlt' : ¬ (i : Int) < (xs.length : Int) := by omega
      go_wp2
      go_ret
      refine ⟨⟨_, rfl, ?_⟩, hB⟩
      have h1 : xs.any q = false := List.any_eq_false.2 fun x hx => by
        obtain ⟨j, hj, rfl⟩ := List.getElem_of_mem hx
        rw [hno j _ (by omega) (List.getElem?_eq_getElem hj)]
        exact Bool.false_ne_true
      rw [h1]
      rfl

set_option maxHeartbeats 4000000 in
theorem clean_contains (q : ByteArray → Bool) (a : Option Addr) (c : Nat) (xs : List ByteArray) (w : World) (hsay : ∀ (W : World) (x : ByteArray), Below w.heap.size w W → x ∈ xs → Calls Tryz.prog 56 #[.string x] W fun e W' => e = .returned (.bool (q x)) ∧ Below W.heap.size W W') (h : TextsH w a xs) (hlen : xs.length < 9223372036854775808) :
    Calls Tryz.prog 55 #[.slice a xs.length c, .func (.func 56) #[] #[]] w fun e w' => e = .returned (.bool (xs.any q)) ∧ Below w.heap.size w w' := by
  have hcon := clean_index q  a c xs w hsay h hlen
  go_enter Tryz.func55, Tryz.ntmps55
  go_wp2_with (go_at_call 123; refine hcon.mono ?_; rintro e w' ⟨⟨i, rfl, hi⟩, hb'⟩)
  go_ret
  exact ⟨by rw [← hi]; rfl, hb'⟩
end Go.Proofs.W
namespace Go.Proofs.W
open Go Go.Proofs Go.RowKit
set_option maxRecDepth 1000000

set_option maxHeartbeats 4000000 in
theorem clean_says (s : ByteArray) (w : World) : Calls Tryz.prog 56 #[.string s] w fun e w' => e = .returned (.bool (!clean1 s)) ∧ w' = w := by
  unfold clean1 markB
  cases h0 : (s.toList == [62, 62, 62])
  · by_cases h4 : (4 : Int) ≤ (s.size : Int)
    · have h1 : decide ((4 : Int) ≤ (s.size : Int)) = true := decide_eq_true h4
      rw [h1]
      go_enter Tryz.func56, Tryz.ntmps56
      go_wp2
      go_ret
      exact ⟨by simp, rfl⟩
    · have h1 : decide ((4 : Int) ≤ (s.size : Int)) = false := decide_eq_false h4
      rw [h1]
      go_enter Tryz.func56, Tryz.ntmps56
      go_wp2
      go_ret
      exact ⟨by simp, rfl⟩
  · go_enter Tryz.func56, Tryz.ntmps56
    go_wp2
    go_ret
    exact ⟨by simp, rfl⟩

set_option maxHeartbeats 4000000 in
theorem markup_Clean (a : Option Addr) (c : Nat) (xs : List ByteArray) (w : World) (h : TextsH w a xs) (hlen : xs.length < 9223372036854775808) :
    Calls Tryz.prog 15 #[.slice a xs.length c] w fun e w' => e = .returned (.bool (cleanB xs)) ∧ Below w.heap.size w w' := by
  have hcon := clean_contains (fun s => !clean1 s) a c xs w (fun W x _ _ => (clean_says x W).mono fun e w' ⟨h1, h2⟩ => ⟨h1, by rw [h2]; exact Below.refl _ _⟩) h hlen
  have hq : cleanB xs = !(xs.any fun s => !clean1 s) := by
    unfold cleanB
    rw [List.all_eq_not_any_not]
  rw [hq]
  generalize (xs.any fun s => !clean1 s) = r at hcon ⊢
  go_enter Tryz.func15, Tryz.ntmps15
  go_wp2_with (go_at_call 55; refine hcon.mono ?_; rintro e w' ⟨rfl, hb'⟩)
  go_ret
  exact ⟨rfl, hb'⟩
end Go.Proofs.W
