/- A PART OF THE PROOF THAT SAVETEXTS HOLDS FOR EVERY INPUT OF BULK AT MOST 1048576. No condition beyond the given statement. This part: WLine. -/
import Derived.Test.YtciahohaonhdgaaGreatDoorWOwn
import Derived.Test.YtciahohaonhdgaaGreatDoorWShelf
import Derived.Lib.OthersKept
import Derived.Laws.RangeAny
namespace Go.Proofs.W
open Go Go.Proofs Go.RowKit Go.Op Go.Sort
set_option maxRecDepth 1000000
def HasU (w : World) : Prop := Lib.Utf8Tabs 0 1 w
theorem HasU.below {w w' : World} (h : HasU w) (hb : Below w.heap.size w w') : HasU w' := Utf8Tabs_below h hb
theorem utf8_valid (s : ByteArray) (w : World) (hs : s.size ≤ 9223372036854775807) (hT : HasU w) :
  Calls Tryz.prog 177 #[.string s] w fun e w' => e = .returned (.bool (Lib.validD s.data.toList)) ∧ Below w.heap.size w w' := Any.utf8_ValidString Tryz.laysValid s w hs hT
theorem rune_width (s : ByteArray) (pos : Nat) (h : pos < s.size) : 1 ≤ (Utf8.decode s pos).2 := by
 by_cases ha : (s[pos]'h).toNat < 128
 ·rw [Go.decode_ascii s pos h ha]; exact Nat.le_refl _
 ·exact (Go.decode_high s pos h (by omega)).2
end Go.Proofs.W
namespace Go.Proofs.W
open Go Go.Proofs Go.RowKit Go.Op Go.Sort
set_option maxRecDepth 1000000
theorem lines_bad_enters : ∀ args w, (callFunc 124 args).run Tryz.prog w = .ok (.enter 124 args) w := enters_of Tryz.func124 (by kernel_rfl) rfl
end Go.Proofs.W
namespace Go.Proofs.W
open Go Go.Proofs Go.RowKit
set_option maxRecDepth 1000000
def runesGo (s : ByteArray) : Nat → Nat → Bool
 | 0, _ => true
 | k + 1, pos => if pos < s.size then if ((Utf8.decode s pos).1 : Int) < 32 ∧ ¬ ((Utf8.decode s pos).1 : Int) = 9 then false else runesGo s k (pos + (Utf8.decode s pos).2) else true
def lineR (s : ByteArray) : Bool := decide ((s.size : Int) ≤ 200) && Lib.validD s.data.toList && runesGo s s.size 0
def linesE (xs : List ByteArray) : Int := if (2000 : Int) < (xs.length : Int) then 4 else if xs.any (fun s => !lineR s) then 6 else 0
set_option maxHeartbeats 4000000 in
theorem lines_RightX (s : ByteArray) (w : World) (hs : s.size ≤ 9223372036854775807) (hT : HasU w) :
  Calls Tryz.prog 125 #[.string s] w fun e w' => e = .returned (.bool (lineR s)) ∧ Below w.heap.size w w' := by
 have cV := utf8_valid s w hs hT
 unfold lineR
 generalize Lib.validD s.data.toList = V at cV ⊢
 by_cases h2 : (200 : Int) < (s.size : Int)
 ·go_enter Tryz.func125, Tryz.ntmps125
  go_wp2
  go_ret
  exact ⟨by rw [decide_eq_false (by omega)]; rfl, Below.refl _ _⟩
 ·have h2' : decide ((s.size : Int) ≤ 200) = true := decide_eq_true (by omega)
  rw [h2']
  have H0 : Hid (runesGo s s.size 0 = runesGo s s.size 0) := rfl
  generalize hR : runesGo s s.size 0 = R at H0 ⊢
  have HR : Hid _ := hR
  clear hR H0 h2'
  cases V with
  | false =>
   go_enter Tryz.func125, Tryz.ntmps125
   go_wp2_with (go_at_call 177; refine cV.mono ?_; rintro e w' ⟨rfl, hb'⟩)
   go_ret
   exact ⟨by simp, hb'⟩
  | true =>
   go_enter Tryz.func125, Tryz.ntmps125
   go_wp2_with (go_at_call 177; refine cV.mono ?_; rintro e w1 ⟨rfl, hb'⟩)
   clear cV
   obtain ⟨W, hW⟩ : ∃ W, W = w1.iter s 0 := ⟨_, rfl⟩
   have hit : W.heap[w1.heap.size]? = some (.stringIter s 0) := by rw [hW]; exact World.iter_heap _ _ _
   have hB : Below w.heap.size w W := belowTrans hb' (by rw [hW]; exact belowAlloc _ _)
   have hwz := hb'.size
   rw [← hW]
   obtain ⟨B, hBd⟩ : ∃ B, B = w1.heap.size := ⟨_, rfl⟩
   rw [← hBd] at hit hwz ⊢
   clear hW hBd hb'
   go_wp2
   go_loopw [] (fun wr => ∃ pos : Nat, wr.heap[B]? = some (.stringIter s pos) ∧ Below w.heap.size w wr ∧ ∃ k, s.size ≤ k + pos ∧ runesGo s k pos = R) (fun wr => s.size - wr.iterPos B)
   case atStart => exact ⟨0, hit, hB, s.size, Nat.le_refl _, HR.out⟩
   case round =>
    obtain ⟨pos, hit2, hbw, hrun⟩ := hrel
    have HRUN : Hid _ := hrun
    clear hrun
    have hip : wr.iterPos B = pos := by simp [World.iterPos, hit2]
    by_cases hp : pos < s.size
    ·have hnx : ∀ ty, (Instr.next (.pointer (some ⟨B, 0, none⟩)) true ty).run Tryz.prog wr = _ := fun ty => Lib.run_next_any_at wr B s pos ty hit2 hp
     have hwd := rune_width s pos hp
     have hit3 := Lib.iterAt_heap wr B s pos (pos + (Utf8.decode s pos).2) hit2
     have hbw3 := Lib.below_iterAt hbw (k := B) (by omega) s (pos + (Utf8.decode s pos).2)
     have hip3 : (wr.iterAt B s (pos + (Utf8.decode s pos).2)).iterPos B = pos + (Utf8.decode s pos).2 := by simp [World.iterPos, hit3]
     have H3 : Hid _ := hit3
     have HB3 : Hid _ := hbw3
     have HI : Hid _ := hip
     have HI3 : Hid _ := hip3
     clear hit3 hbw3 hip hip3 hit2 hit
     generalize wr.iterAt B s (pos + (Utf8.decode s pos).2) = W3 at hnx H3 HB3 HI3
     have HST : Hid (if ((Utf8.decode s pos).1 : Int) < 32 ∧ ¬ ((Utf8.decode s pos).1 : Int) = 9 then R = false else ∃ k, s.size ≤ k + (pos + (Utf8.decode s pos).2) ∧ runesGo s k (pos + (Utf8.decode s pos).2) = R) := by
      obtain ⟨k, hk, hr⟩ := HRUN.out
      cases k with
      | zero => omega
      | succ k =>
       unfold runesGo at hr
       rw [if_pos hp] at hr
       show if _ then _ else _
       by_cases hc : ((Utf8.decode s pos).1 : Int) < 32 ∧ ¬ ((Utf8.decode s pos).1 : Int) = 9
       ·rw [if_pos hc] at hr ⊢
        exact hr.symm
       ·rw [if_neg hc] at hr ⊢
        exact ⟨k, by omega, hr⟩
     have hnxp : pos < pos + (Utf8.decode s pos).2 := by omega
     generalize pos + (Utf8.decode s pos).2 = nx at hnx H3 HB3 HI3 HST hnxp
     generalize (Utf8.decode s pos).1 = r at hnx HST
     have hmeas : s.size - W3.iterPos B < s.size - wr.iterPos B := by rw [HI.out, HI3.out]; omega
     have HM : Hid _ := hmeas
     clear hmeas
     by_cases h32 : (r : Int) < 32
     ·by_cases h9 : (r : Int) = 9
      ·have hn : ∃ k, s.size ≤ k + nx ∧ runesGo s k nx = R := by
        have := HST.out
        rw [if_neg (fun h => h.2 h9)] at this
        exact this
       have HN : Hid _ := hn
       clear hn
       go_wp2
       go_roundw
       case rel => exact ⟨_, H3.out, HB3.out, HN.out⟩
       case measure => exact HM.out
      ·have hn : R = false := by
        have := HST.out
        rw [if_pos ⟨h32, h9⟩] at this
        exact this
       have HN : Hid _ := hn
       clear hn
       go_wp2
       go_ret
       exact ⟨by rw [HN.out]; rfl, HB3.out⟩
     ·have hn : ∃ k, s.size ≤ k + nx ∧ runesGo s k nx = R := by
       have := HST.out
       rw [if_neg (fun h => h32 h.1)] at this
       exact this
      have HN : Hid _ := hn
      clear hn
      go_wp2
      go_roundw
      case rel => exact ⟨_, H3.out, HB3.out, HN.out⟩
      case measure => exact HM.out
    ·have hn : R = true := by
      obtain ⟨k, _, hr⟩ := HRUN.out
      rw [← hr]
      cases k with
      | zero => rfl
      | succ k => unfold runesGo; rw [if_neg hp]
     have HN : Hid _ := hn
     clear hn
     have hnx : ∀ ty, (Instr.next (.pointer (some ⟨B, 0, none⟩)) true ty).run Tryz.prog wr = _ := fun ty => Lib.run_next_end_at wr B s pos ty hit2 hp
     clear hit2 hit
     go_wp2
     go_ret
     exact ⟨by rw [HN.out]; rfl, hbw⟩
end Go.Proofs.W
namespace Go.Proofs.W
open Go Go.Proofs Go.RowKit
set_option maxRecDepth 1000000
set_option maxHeartbeats 4000000 in
theorem lines_badX (s : ByteArray) (w : World) (hs : s.size ≤ 9223372036854775807) (hT : HasU w) :
  Calls Tryz.prog 124 #[.string s] w fun e w' => e = .returned (.bool (!lineR s)) ∧ Below w.heap.size w w' := by
 have hcon := lines_RightX s w hs hT
 generalize lineR s = b at hcon ⊢
 go_enter Tryz.func124, Tryz.ntmps124
 go_wp2_with (go_at_call 125; refine hcon.mono ?_; rintro e w' ⟨rfl, hb'⟩)
 go_ret
 exact ⟨rfl, hb'⟩
set_option maxHeartbeats 4000000 in
theorem lines_IndexX (a : Option Addr) (c : Nat) (xs : List ByteArray) (w : World) (h : TextsH w a xs) (hlen : xs.length < 9223372036854775808) (hs : ∀ s, s ∈ xs → s.size ≤ 9223372036854775807) (hT : HasU w) :
  Calls Tryz.prog 153 #[.slice a xs.length c, .func (.func 124) #[] #[]] w fun e w' => IxSays (xs.any (fun s => !lineR s)) e ∧ Below w.heap.size w w' := by
 have e60 := lines_bad_enters
 have HS : Hid _ := hs
 clear hs
 go_enter Tryz.func153, Tryz.ntmps153
 go_wp2
 go_loopw [8] (fun x w' => Below w.heap.size w w' ∧ ∃ i : Nat, i ≤ xs.length ∧ x = .int .i64 i ∧ ∀ j d, j < i → xs[j]? = some d → (!lineR d) = false) (fun x _ => xs.length - (intOf x).toNat)
 case atStart => exact ⟨Below.refl _ w, 0, Nat.zero_le _, rfl, fun j d hj => absurd hj (Nat.not_lt_zero _)⟩
 case round =>
  obtain ⟨hB, i, hi, rfl, hno⟩ := hrel
  by_cases hlt : i < xs.length
  ·obtain ⟨b, o, rfl, hN⟩ : ∃ b o, a = some ⟨b, o, none⟩ ∧ TextsAt w b o xs := h.resolve_left (by omega)
   have hd : xs[i]? = some xs[i] := List.getElem?_eq_getElem hlt
   have hmem : xs[i] ∈ xs := List.getElem_mem hlt
   obtain ⟨X, hX⟩ : ∃ X, xs[i] = X := ⟨_, rfl⟩
   rw [hX] at hd hmem
   have c0 := (hN.below hB).cell i _ hd
   have hlt' : (i : Int) < (xs.length : Int) := by omega
   have hnn : ¬ (i : Int) < 0 := by omega
   have hnn0 : (0 : Int) ≤ (i : Int) := by omega
   have hcall := lines_badX X wr (HS.out _ hmem) (hT.below hB)
   cases hqi : (!lineR X) with
   | true =>
    rw [hqi] at hcall
    have HQ : Hid _ := hqi
    clear hqi
    go_wp2_with (go_at_fn 124; refine hcall.mono ?_; rintro e w' ⟨rfl, hb'⟩)
    go_ret
    refine ⟨⟨_, rfl, ?_⟩, belowTrans hB hb'⟩
    have h1 : xs.any (fun s => !lineR s) = true := List.any_eq_true.2 ⟨X, hmem, HQ.out⟩
    rw [h1]
    exact decide_eq_true hnn0
   | false =>
    rw [hqi] at hcall
    have HQ : Hid _ := hqi
    clear hqi
    go_wp2_with (go_at_fn 124; refine hcall.mono ?_; rintro e w' ⟨rfl, hb'⟩)
    go_roundw
    case rel => exact ⟨belowTrans hB hb', i + 1, by omega, by push_cast; rfl, fun j d hj hd2 => by
     by_cases e : j = i
     ·subst e; rw [hd] at hd2; obtain rfl := Option.some.inj hd2; exact HQ.out
     ·exact hno j d (by omega) hd2⟩
    case measure => simp [intOf]; omega
  ·have hlt' : ¬ (i : Int) < (xs.length : Int) := by omega
   go_wp2
   go_ret
   refine ⟨⟨_, rfl, ?_⟩, hB⟩
   have h1 : xs.any (fun s => !lineR s) = false := List.any_eq_false.2 fun x hx => by
    obtain ⟨j, hj, rfl⟩ := List.getElem_of_mem hx
    rw [hno j _ (by omega) (List.getElem?_eq_getElem hj)]
    simp
   rw [h1]
   rfl
set_option maxHeartbeats 4000000 in
theorem lines_ContainsX (a : Option Addr) (c : Nat) (xs : List ByteArray) (w : World) (h : TextsH w a xs) (hlen : xs.length < 9223372036854775808) (hs : ∀ s, s ∈ xs → s.size ≤ 9223372036854775807) (hT : HasU w) :
  Calls Tryz.prog 105 #[.slice a xs.length c, .func (.func 124) #[] #[]] w fun e w' => e = .returned (.bool (xs.any (fun s => !lineR s))) ∧ Below w.heap.size w w' := by
 have hcon := lines_IndexX a c xs w h hlen hs hT
 generalize xs.any (fun s => !lineR s) = q at hcon ⊢
 go_enter Tryz.func105, Tryz.ntmps105
 go_wp2_with (go_at_call 153; refine hcon.mono ?_; rintro e w' ⟨⟨r, rfl, hr⟩, hb'⟩)
 go_ret
 exact ⟨by rw [← hr]; rfl, hb'⟩
set_option maxHeartbeats 4000000 in
theorem lines_CheckX (a : Option Addr) (c : Nat) (xs : List ByteArray) (w : World) (h : TextsH w a xs) (hlen : xs.length < 9223372036854775808) (hs : ∀ s, s ∈ xs → s.size ≤ 9223372036854775807) (hT : HasU w) :
  Calls Tryz.prog 70 #[.slice a xs.length c] w fun e w' => e = .returned (.int .i64 (linesE xs)) ∧ Below w.heap.size w w' := by
 have hcon := lines_ContainsX a c xs w h hlen hs hT
 unfold linesE
 generalize xs.any (fun s => !lineR s) = q at hcon ⊢
 by_cases h2 : (2000 : Int) < (xs.length : Int)
 ·rw [if_pos h2]
  go_enter Tryz.func70, Tryz.ntmps70
  go_wp2
  go_ret
  exact ⟨rfl, Below.refl _ _⟩
 ·rw [if_neg h2]
  cases q
  all_goals
   go_enter Tryz.func70, Tryz.ntmps70
   go_wp2_with (go_at_call 105; refine hcon.mono ?_; rintro e w' ⟨rfl, hb'⟩)
   go_wp2
   go_ret
   exact ⟨rfl, hb'⟩
end Go.Proofs.W
