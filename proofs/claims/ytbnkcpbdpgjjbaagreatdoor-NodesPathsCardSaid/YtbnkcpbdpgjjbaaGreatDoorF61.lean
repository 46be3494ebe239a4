/- A PART OF THE PROOF THAT ONE CALL OF A LAW OF LAYER 18 (of nodes that may be, each path leads there) returns true, whatever the input; the input reads as it did. No condition beyond the given statement. This part: F61. -/
import Derived.Test.YtbnkcpbdpgjjbaaGreatDoorWalkHead
import Derived.Test.YtbnkcpbdpgjjbaaGreatDoorNpShelf
import Derived.Test.YtbnkcpbdpgjjbaaGreatDoorNodesLaw
namespace Go.Proofs.Np
open Go Go.Proofs Go.RowKit
set_option maxRecDepth 1000000

/-- a letter that no name has -/
def badR (r : Nat) : Bool := !(decide (97 ≤ r) && decide (r ≤ 122) || (decide (48 ≤ r) && decide (r ≤ 57)) || decide (r = 46) || decide (r = 95) || decide (r = 45))

set_option maxHeartbeats 4000000 in
theorem bad80 (r : Nat) (W : World) : Calls Tryz.prog 80 #[.int .i32 (r : Int)] W fun e w' => e = .returned (.bool (badR r)) ∧ w' = W := by
  go_enter Tryz.func80, Tryz.ntmps80
  go_wp2
  all_goals go_ret
  all_goals refine ⟨?_, rfl⟩
  all_goals refine congrArg Ending.returned (congrArg Value.bool ?_)
  all_goals rw [Bool.eq_iff_iff]
  all_goals simp [badR]
  all_goals omega

theorem enters80 : ∀ args w, (callFunc 80 args).run Tryz.prog w = .ok (.enter 80 args) w := enters_of Tryz.func80 (by kernel_rfl) rfl
theorem pred80 (w : World) : PredAt Tryz.prog 80 #[] encR badR w := fun W x _ => (bad80 x W).mono fun _ _ ⟨h1, h2⟩ => ⟨h1, 0, by rw [h2]; rfl⟩

set_option maxHeartbeats 4000000 in
theorem index81 (s : ByteArray) (w : World) : Calls Tryz.prog 81 #[.string s, .func (.func 80) #[] #[]] w fun e w' => e = .returned (.int .i64 (Lib.idxFunc badR true s)) ∧ Below w.heap.size w w' := by
  have hcon := Tryz.strings_indexFunc 80 #[] enters80 badR true s w (pred80 w)
  generalize Lib.idxFunc badR true s = r at hcon ⊢
  go_enter Tryz.func81, Tryz.ntmps81
  go_wp2_with (go_at_call 109; refine hcon.mono ?_; rintro e w' ⟨rfl, hb'⟩)
  go_ret
  exact ⟨rfl, hb'⟩

/-- is it a name? -/
def nameR (s : ByteArray) : Bool := !s.toList.isEmpty && decide ((s.size : Int) ≤ 40) && !(s.toList == [46]) && !(s.toList == [46, 46]) && decide (Lib.idxFunc badR true s < 0)

set_option maxHeartbeats 4000000 in
theorem right61 (s : ByteArray) (w : World) : Calls Tryz.prog 61 #[.string s] w fun e w' => e = .returned (.bool (nameR s)) ∧ Below w.heap.size w w' := by
  have hcon := index81 s w
  unfold nameR
  generalize Lib.idxFunc badR true s = r at hcon ⊢
  cases h1 : s.toList.isEmpty <;> cases h2 : decide ((s.size : Int) ≤ 40) <;> cases h3 : (s.toList == [46]) <;> cases h4 : (s.toList == [46, 46])
  all_goals
    go_enter Tryz.func61, Tryz.ntmps61
    go_wp2_with (go_at_call 81; refine hcon.mono ?_; rintro e w' ⟨rfl, hb'⟩)
  all_goals go_ret
  all_goals first
    | exact ⟨by simp, Below.refl _ _⟩
    | exact ⟨by simp, hb'⟩
end Go.Proofs.Np
namespace Go.Proofs.Np
open Go Go.Proofs Go.RowKit
set_option maxRecDepth 1000000

set_option maxHeartbeats 4000000 in
theorem bad60 (s : ByteArray) (w : World) : Calls Tryz.prog 60 #[.string s] w fun e w' => e = .returned (.bool (!nameR s)) ∧ Below w.heap.size w w' := by
  have hcon := right61 s w
  generalize nameR s = r at hcon ⊢
  go_enter Tryz.func60, Tryz.ntmps60
  go_wp2_with (go_at_call 61; refine hcon.mono ?_; rintro e w' ⟨rfl, hb'⟩)
  go_ret
  exact ⟨rfl, hb'⟩

theorem enters60 : ∀ args w, (callFunc 60 args).run Tryz.prog w = .ok (.enter 60 args) w := enters_of Tryz.func60 (by kernel_rfl) rfl

/-- texts at a place -/
structure TextsAt (w : World) (b o : Nat) (xs : List ByteArray) : Prop where
  lt : b < w.heap.size
  cell : ∀ (j : Nat) (x : ByteArray), xs[j]? = some x → w.cell? ⟨b, o + j, none⟩ = some (.string x)
theorem TextsAt.below {w w' : World} {b o : Nat} {xs : List ByteArray} (h : TextsAt w b o xs) (hb : Below w.heap.size w w') : TextsAt w' b o xs :=
  ⟨Nat.lt_of_lt_of_le h.lt hb.size, fun j d hd => by rw [World.cell?_of_block (hb.block b h.lt)]; exact h.cell j d hd⟩

set_option maxHeartbeats 4000000 in
theorem index82 (b o c : Nat) (xs : List ByteArray) (w : World) (h : TextsAt w b o xs) (hlen : xs.length < 9223372036854775808) :
    Calls Tryz.prog 82 #[.slice (some ⟨b, o, none⟩) xs.length c, .func (.func 60) #[] #[]] w fun e w' => e = .returned (.int .i64 (idxI (fun s => !nameR s) xs)) ∧ Below w.heap.size w w' := by
  have e60 := enters60
  go_enter Tryz.func82, Tryz.ntmps82
  go_wp2
  go_loopw [8] (fun x w' => Below w.heap.size w w' ∧ ∃ i : Nat, i ≤ xs.length ∧ x = .int .i64 i ∧ ∀ j d, j < i → xs[j]? = some d → (!nameR d) = false) (fun x _ => match x with | .int _ i => (xs.length - i.toNat) | _ => 0)
  case atStart => exact ⟨Below.refl _ w, 0, Nat.zero_le _, rfl, fun j d hj => absurd hj (Nat.not_lt_zero _)⟩
  case round =>
    obtain ⟨hB, i, hi, rfl, hno⟩ := hrel
    by_cases hlt : i < xs.length
    · have hd : xs[i]? = some xs[i] := List.getElem?_eq_getElem hlt
      have c0 := (h.below hB).cell i _ hd
      have hlt' : (i : Int) < (xs.length : Int) := by omega
      have hnn : ¬ (i : Int) < 0 := by omega
      have hnn0 : (0 : Int) ≤ (i : Int) := by omega
      have hcall := bad60 xs[i] wr
      cases hqi : (!nameR xs[i]) with
      | true =>
        rw [hqi] at hcall
        go_wp2_with (go_at_fn 60; refine hcall.mono ?_; rintro e w' ⟨rfl, hb'⟩)
        go_ret
        exact ⟨by rw [idxI_step hd hqi hno]; rfl, belowTrans hB hb'⟩
      | false =>
        rw [hqi] at hcall
        go_wp2_with (go_at_fn 60; refine hcall.mono ?_; rintro e w' ⟨rfl, hb'⟩)
        go_roundw
        case rel => exact ⟨belowTrans hB hb', i + 1, by omega, by push_cast; rfl, fun j d hj hd2 => by
          by_cases e : j = i
          · subst e; rw [hd] at hd2; obtain rfl := Option.some.inj hd2; exact hqi
          · exact hno j d (by omega) hd2⟩
        case measure =>
          show xs.length - ((i : Int) + 1).toNat < xs.length - (i : Int).toNat
          omega
    · have hlt' : ¬ (i : Int) < (xs.length : Int) := by omega
      go_wp2
      go_ret
      exact ⟨by rw [idxI_none fun j d hj => hno j d (by omega)]; rfl, hB⟩

set_option maxHeartbeats 4000000 in
theorem has62 (b o c : Nat) (xs : List ByteArray) (w : World) (h : TextsAt w b o xs) (hlen : xs.length < 9223372036854775808) :
    Calls Tryz.prog 62 #[.slice (some ⟨b, o, none⟩) xs.length c, .func (.func 60) #[] #[]] w fun e w' => e = .returned (.bool (decide (0 ≤ idxI (fun s => !nameR s) xs))) ∧ Below w.heap.size w w' := by
  have hcon := index82 b o c xs w h hlen
  generalize idxI (fun s => !nameR s) xs = r at hcon ⊢
  go_enter Tryz.func62, Tryz.ntmps62
  go_wp2_with (go_at_call 82; refine hcon.mono ?_; rintro e w' ⟨rfl, hb'⟩)
  go_ret
  exact ⟨rfl, hb'⟩

/-- the variable that the library looks at -/
def HasM (w : World) : Prop := ∃ m, w.cell? ⟨0, 0, none⟩ = some (.int .i64 m) ∧ 0 < w.heap.size
theorem HasM.below {w w' : World} (h : HasM w) (hb : Below w.heap.size w w') : HasM w' := by
  obtain ⟨m, h1, h2⟩ := h
  exact ⟨m, (World.cell?_of_block (hb.block 0 h2)).trans h1, Nat.lt_of_lt_of_le h2 hb.size⟩

theorem textsAt_new (w : World) (xs : List ByteArray) : TextsAt (w.alloc (.cells (xs.map Value.string).toArray 9)) w.heap.size 0 xs :=
  ⟨by simp, fun j x hx => by rw [cell_newBlock]; simp [hx]⟩

theorem split40 (s : ByteArray) (w : World) (hs : s.size < 4294967281) (hm : HasM w) :
    Calls Tryz.prog 40 #[.string s, .string ⟨#[47]⟩] w fun e w' => e = .returned (.slice (some ⟨w.heap.size, 0, none⟩) (cutB s).length (cutB s).length) ∧ w' = w.alloc (.cells ((cutB s).map Value.string).toArray 9) := by
  obtain ⟨m, h1, _⟩ := hm
  have h := Tryz.strings_Split s ⟨#[47]⟩ m w hs h1 (by decide)
  rw [countB_cutB, splitB_cutB] at h
  exact h

/-- is it a path? -/
def pathR (p : ByteArray) : Bool := decide ((p.size : Int) ≤ 200) && decide (((cutB p).length : Int) ≤ 16) && !decide (0 ≤ idxI (fun s => !nameR s) (cutB p))

theorem cutB_length (s : ByteArray) : (cutB s).length ≤ s.size + 1 := by
  unfold cutB
  rw [List.length_map, cutAt_length]
  have : s.data.toList.count 47 ≤ s.data.toList.length := List.count_le_length
  have h2 : s.data.toList.length = s.size := Array.length_toList
  omega

set_option maxHeartbeats 4000000 in
theorem right39 (p : ByteArray) (w : World) (hs : p.size < 4294967281) (hm : HasM w) : Calls Tryz.prog 39 #[.string p] w fun e w' => e = .returned (.bool (pathR p)) ∧ Below w.heap.size w w' := by
  have hsp := split40 p w hs hm
  have hB1 := belowAlloc w (.cells ((cutB p).map Value.string).toArray 9)
  have hl := cutB_length p
  have hhas := has62 w.heap.size 0 (cutB p).length (cutB p) _ (textsAt_new w (cutB p)) (by omega)
  unfold pathR
  generalize idxI (fun s => !nameR s) (cutB p) = r at hhas ⊢
  generalize hW : w.alloc (.cells ((cutB p).map Value.string).toArray 9) = W at hsp hhas hB1
  generalize (cutB p).length = k at hsp hhas hl ⊢
  cases h1 : decide ((p.size : Int) ≤ 200) <;> cases h2 : decide ((k : Int) ≤ 16)
  all_goals
    go_enter Tryz.func39, Tryz.ntmps39
    go_wp2_with (first | (go_at_call 40; refine hsp.mono ?_; rintro e w' ⟨rfl, rfl⟩) | (go_at_call 62; refine hhas.mono ?_; rintro e w' ⟨rfl, hb'⟩))
  all_goals go_ret
  all_goals first
    | exact ⟨by simp, hB1⟩
    | exact ⟨by simp, belowTrans hB1 hb'⟩
end Go.Proofs.Np
