/- A PART OF THE PROOF THAT SAVETEXTS HOLDS FOR EVERY INPUT OF BULK AT MOST 1048576. No condition beyond the given statement. This part: WIxT. -/
import Derived.Test.YtciahohaonhdgaaGreatDoorWHead
import Derived.Test.YtciahohaonhdgaaGreatDoorWName
import Derived.Test.YtciahohaonhdgaaGreatDoorNodesLaw
namespace Go.Proofs.W
open Go Go.Proofs Go.RowKit
open Go.Proofs.Np (idxI)
set_option maxRecDepth 1000000
def SaysT (g : FuncId) (p : Value) (q : TrackV → Bool) (xs : List TrackV) (w : World) : Prop := ∀ (W : World) (X : TrackV), Below w.heap.size w W → X ∈ xs → Calls Tryz.prog g #[.agg #[.string X.path, .string X.patch, .int .i64 X.n], p] W fun e W' => e = .returned (.bool (q X)) ∧ Below W.heap.size W W'
set_option maxHeartbeats 8000000 in
theorem tracks_IndexFunc (g : FuncId) (p : Value) (hent : ∀ args w, (callFunc g args).run Tryz.prog w = .ok (.enter g args) w) (q : TrackV → Bool) (a : Option Addr) (c : Nat) (xs : List TrackV) (w : World) (hsay : SaysT g p q xs w) (h : TracksH w a xs) (hlen : xs.length < 9223372036854775808) :
  Calls Tryz.prog 87 #[.slice a xs.length c, .func (.func g) #[] #[p]] w fun e w' => e = .returned (.int .i64 (idxI q xs)) ∧ Below w.heap.size w w' := by
 go_enter Tryz.func87, Tryz.ntmps87
 go_wp2
 go_loopw [8] (fun x w' => Below w.heap.size w w' ∧ ∃ i : Nat, i ≤ xs.length ∧ x = .int .i64 i ∧ ∀ j d, j < i → xs[j]? = some d → q d = false) (fun x _ => xs.length - (intOf x).toNat)
 case atStart => exact ⟨Below.refl _ w, 0, Nat.zero_le _, rfl, fun j d hj => absurd hj (Nat.not_lt_zero _)⟩
 case round =>
  obtain ⟨hB, i, hi, rfl, hno⟩ := hrel
  by_cases hlt : i < xs.length
  ·obtain ⟨b, o, rfl, hN⟩ : ∃ b o, a = some ⟨b, o, none⟩ ∧ TracksAt w b o xs := h.resolve_left (by omega)
   have hd : xs[i]? = some xs[i] := List.getElem?_eq_getElem hlt
   have hmem : xs[i] ∈ xs := List.getElem_mem hlt
   obtain ⟨X, hX⟩ : ∃ X, xs[i] = X := ⟨_, rfl⟩
   rw [hX] at hd hmem
   obtain ⟨c0, c1, c2⟩ := (hN.below hB).cell i _ hd
   have hlt' : (i : Int) < (xs.length : Int) := by omega
   have hnn : ¬ (i : Int) < 0 := by omega
   have hnn0 : (0 : Int) ≤ (i : Int) := by omega
   have hcall := hsay wr X hB hmem
   cases hqi : q X with
   | true =>
    rw [hqi] at hcall
    go_wp2_with (go_at_fn g; refine hcall.mono ?_; rintro e w' ⟨rfl, hb'⟩)
    go_ret
    exact ⟨by rw [idxI_step hd hqi hno]; rfl, belowTrans hB hb'⟩
   | false =>
    rw [hqi] at hcall
    go_wp2_with (go_at_fn g; refine hcall.mono ?_; rintro e w' ⟨rfl, hb'⟩)
    go_roundw
    case rel => exact ⟨belowTrans hB hb', i + 1, by omega, by push_cast; rfl, fun j d hj hd2 => by
     by_cases e : j = i
     ·subst e; rw [hd] at hd2; obtain rfl := Option.some.inj hd2; exact hqi
     ·exact hno j d (by omega) hd2⟩
    case measure => simp [intOf]; omega
  ·have hlt' : ¬ (i : Int) < (xs.length : Int) := by omega
   go_wp2
   go_ret
   exact ⟨by rw [idxI_none fun j d hj => hno j d (by omega)]; rfl, hB⟩
theorem idxI_any {α : Type} (q : α → Bool) (xs : List α) : decide (0 ≤ idxI q xs) = xs.any q := by
 unfold idxI
 cases h : xs.findIdx? q with
 | none =>
  rw [List.findIdx?_eq_none_iff] at h
  have : xs.any q = false := List.any_eq_false.2 fun x hx => by rw [h x hx]; simp
  rw [this]
  rfl
 | some i =>
  rw [List.findIdx?_eq_some_iff_getElem] at h
  obtain ⟨h1, h2, _⟩ := h
  have : xs.any q = true := List.any_eq_true.2 ⟨_, List.getElem_mem h1, h2⟩
  rw [this]
  exact decide_eq_true (Int.natCast_nonneg i)
set_option maxHeartbeats 4000000 in
theorem tracks_ContainsFunc (g : FuncId) (p : Value) (hent : ∀ args w, (callFunc g args).run Tryz.prog w = .ok (.enter g args) w) (q : TrackV → Bool) (a : Option Addr) (c : Nat) (xs : List TrackV) (w : World) (hsay : SaysT g p q xs w) (h : TracksH w a xs) (hlen : xs.length < 9223372036854775808) :
  Calls Tryz.prog 40 #[.slice a xs.length c, .func (.func g) #[] #[p]] w fun e w' => e = .returned (.bool (xs.any q)) ∧ Below w.heap.size w w' := by
 have hcon := tracks_IndexFunc g p hent q a c xs w hsay h hlen
 rw [← idxI_any]
 clear hsay
 generalize idxI q xs = r at hcon ⊢
 go_enter Tryz.func40, Tryz.ntmps40
 go_wp2_with (go_at_call 87; refine hcon.mono ?_; rintro e w' ⟨rfl, hb'⟩)
 go_ret
 exact ⟨rfl, hb'⟩
end Go.Proofs.W
