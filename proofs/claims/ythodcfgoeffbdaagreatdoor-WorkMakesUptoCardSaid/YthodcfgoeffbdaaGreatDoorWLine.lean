/- A PART OF THE PROOF THAT WORKMAKES HOLDS FOR EVERY INPUT OF BULK AT MOST 1048576. No condition beyond the given statement. This part: WLine. -/
import Derived.Test.YthodcfgoeffbdaaGreatDoorWOwn
import Derived.Test.YthodcfgoeffbdaaGreatDoorWShelf
import Derived.Lib.OthersKept
import Derived.Laws.RangeAny
namespace Go.Proofs.W
open Go Go.Proofs Go.RowKit Go.Op Go.Sort
set_option maxRecDepth 1000000

def IsB (e : Ending) : Prop := ∃ b, e = .returned (.bool b)
def IsE (e : Ending) : Prop := ∃ n, e = .returned (.int .i64 n)
/-- the library's tables -/
def HasU (w : World) : Prop := Lib.Utf8Tabs 0 1 w
theorem HasU.below {w w' : World} (h : HasU w) (hb : Below w.heap.size w w') : HasU w' := Utf8Tabs_below h hb

theorem utf8_valid (s : ByteArray) (w : World) (hs : s.size ≤ 9223372036854775807) (hT : HasU w) :
    Calls Tryz.prog 167 #[.string s] w fun e w' => e = .returned (.bool (Lib.validD s.data.toList)) ∧ Below w.heap.size w w' := Any.utf8_ValidString Tryz.laysValid s w hs hT

theorem rune_width (s : ByteArray) (pos : Nat) (h : pos < s.size) : 1 ≤ (Utf8.decode s pos).2 := by
  by_cases ha : (s[pos]'h).toNat < 128
  · rw [Go.decode_ascii s pos h ha]; exact Nat.le_refl _
  · exact (Go.decode_high s pos h (by omega)).2

set_option maxHeartbeats 4000000 in
theorem lines_Right (s : ByteArray) (w : World) (hs : s.size ≤ 9223372036854775807) (hT : HasU w) :
    Calls Tryz.prog 118 #[.string s] w fun e w' => IsB e ∧ Below w.heap.size w w' := by
  have cV := utf8_valid s w hs hT
  generalize Lib.validD s.data.toList = V at cV
  by_cases h2 : (200 : Int) < (s.size : Int)
  · go_enter Tryz.func118, Tryz.ntmps118
    go_wp2
    go_ret
    exact ⟨⟨_, rfl⟩, Below.refl _ _⟩
  · cases V with
    | false =>
      go_enter Tryz.func118, Tryz.ntmps118
      go_wp2_with (go_at_call 167; refine cV.mono ?_; rintro e w' ⟨rfl, hb'⟩)
      go_ret
      exact ⟨⟨_, rfl⟩, hb'⟩
    | true =>
      go_enter Tryz.func118, Tryz.ntmps118
      go_wp2_with (go_at_call 167; refine cV.mono ?_; rintro e w1 ⟨rfl, hb'⟩)
      clear cV
      obtain ⟨W, hW⟩ : ∃ W, W = w1.iter s 0 := ⟨_, rfl⟩
      have hit : W.heap[w1.heap.size]? = some (.stringIter s 0) := by rw [hW]; exact World.iter_heap _ _ _
      have hB : Below w.heap.size w W := belowTrans hb' (by rw [hW]; exact belowAlloc _ _)
      have hwz := hb'.size
      rw [← hW]
      obtain ⟨B, hBd⟩ : ∃ B, B = w1.heap.size := ⟨_, rfl⟩
      rw [← hBd] at hit hwz ⊢
      clear hW hBd hb'
      go_wp2
      go_loopw [] (fun wr => ∃ pos : Nat, wr.heap[B]? = some (.stringIter s pos) ∧ Below w.heap.size w wr) (fun wr => s.size - wr.iterPos B)
      case atStart => exact ⟨0, hit, hB⟩
      case round =>
        obtain ⟨pos, hit2, hbw⟩ := hrel
        have hip : wr.iterPos B = pos := by simp [World.iterPos, hit2]
        by_cases hp : pos < s.size
        · have hnx : ∀ ty, (Instr.next (.pointer (some ⟨B, 0, none⟩)) true ty).run Tryz.prog wr = _ := fun ty => Lib.run_next_any_at wr B s pos ty hit2 hp
          have hwd := rune_width s pos hp
          have hit3 := Lib.iterAt_heap wr B s pos (pos + (Utf8.decode s pos).2) hit2
          have hbw3 := Lib.below_iterAt hbw (k := B) (by omega) s (pos + (Utf8.decode s pos).2)
          have hip3 : (wr.iterAt B s (pos + (Utf8.decode s pos).2)).iterPos B = pos + (Utf8.decode s pos).2 := by simp [World.iterPos, hit3]
          have H3 : Hid _ := hit3
          have HB3 : Hid _ := hbw3
          have HI : Hid _ := hip
          have HI3 : Hid _ := hip3
          clear hit3 hbw3 hip hip3 hit2 hit
          generalize wr.iterAt B s (pos + (Utf8.decode s pos).2) = W3 at hnx H3 HB3 HI3
          generalize (Utf8.decode s pos).1 = r at hnx
          have hmeas : s.size - W3.iterPos B < s.size - wr.iterPos B := by rw [HI.out, HI3.out]; omega
          have HM : Hid _ := hmeas
          clear hmeas
          by_cases h32 : (r : Int) < 32
          · by_cases h9 : (r : Int) = 9
            · go_wp2
              go_roundw
              case rel => exact ⟨_, H3.out, HB3.out⟩
              case measure => exact HM.out
            · go_wp2
              go_ret
              exact ⟨⟨_, rfl⟩, HB3.out⟩
          · go_wp2
            go_roundw
            case rel => exact ⟨_, H3.out, HB3.out⟩
            case measure => exact HM.out
        · have hnx : ∀ ty, (Instr.next (.pointer (some ⟨B, 0, none⟩)) true ty).run Tryz.prog wr = _ := fun ty => Lib.run_next_end_at wr B s pos ty hit2 hp
          clear hit2 hit
          go_wp2
          go_ret
          exact ⟨⟨_, rfl⟩, hbw⟩
end Go.Proofs.W
namespace Go.Proofs.W
open Go Go.Proofs Go.RowKit Go.Op Go.Sort
set_option maxRecDepth 1000000

set_option maxHeartbeats 4000000 in
theorem lines_bad (s : ByteArray) (w : World) (hs : s.size ≤ 9223372036854775807) (hT : HasU w) :
    Calls Tryz.prog 117 #[.string s] w fun e w' => IsB e ∧ Below w.heap.size w w' := by
  have hcon := lines_Right s w hs hT
  go_enter Tryz.func117, Tryz.ntmps117
  go_wp2_with (go_at_call 118; refine hcon.mono ?_; rintro e w' ⟨⟨b, rfl⟩, hb'⟩)
  go_ret
  exact ⟨⟨_, rfl⟩, hb'⟩
theorem lines_bad_enters : ∀ args w, (callFunc 117 args).run Tryz.prog w = .ok (.enter 117 args) w := enters_of Tryz.func117 (by kernel_rfl) rfl

set_option maxHeartbeats 4000000 in
theorem lines_Index (a : Option Addr) (c : Nat) (xs : List ByteArray) (w : World) (h : TextsH w a xs) (hlen : xs.length < 9223372036854775808) (hs : ∀ s, s ∈ xs → s.size ≤ 9223372036854775807) (hT : HasU w) :
    Calls Tryz.prog 127 #[.slice a xs.length c, .func (.func 117) #[] #[]] w fun e w' => IsE e ∧ Below w.heap.size w w' := by
  have e60 := lines_bad_enters
  have HS : Hid _ := hs
  clear hs
  go_enter Tryz.func127, Tryz.ntmps127
  go_wp2
  go_loopw [8] (fun x w' => Below w.heap.size w w' ∧ ∃ i : Nat, i ≤ xs.length ∧ x = .int .i64 i) (fun x _ => xs.length - (intOf x).toNat)
  case atStart => exact ⟨Below.refl _ w, 0, Nat.zero_le _, rfl⟩
  case round =>
    obtain ⟨hB, i, hi, rfl⟩ := hrel
    by_cases hlt : i < xs.length
    · obtain ⟨b, o, rfl, hN⟩ : ∃ b o, a = some ⟨b, o, none⟩ ∧ TextsAt w b o xs := h.resolve_left (by omega)
      have hd : xs[i]? = some xs[i] := List.getElem?_eq_getElem hlt
      have c0 := (hN.below hB).cell i _ hd
      have hlt' : (i : Int) < (xs.length : Int) := by omega
      have hnn : ¬ (i : Int) < 0 := by omega
      have hnn0 : (0 : Int) ≤ (i : Int) := by omega
      have hcall := lines_bad xs[i] wr (HS.out _ (List.getElem_mem hlt)) (hT.below hB)
      go_wp2_with (go_at_fn 117; refine hcall.mono ?_; rintro e w' ⟨⟨r, rfl⟩, hb'⟩; cases r)
      · go_roundw
        case rel => exact ⟨belowTrans hB hb', i + 1, by omega, by push_cast; rfl⟩
        case measure => simp [intOf]; omega
      · go_wp2
        go_ret
        exact ⟨⟨_, rfl⟩, belowTrans hB hb'⟩
    · have hlt' : ¬ (i : Int) < (xs.length : Int) := by omega
      go_wp2
      go_ret
      exact ⟨⟨_, rfl⟩, hB⟩

set_option maxHeartbeats 4000000 in
theorem lines_Contains (a : Option Addr) (c : Nat) (xs : List ByteArray) (w : World) (h : TextsH w a xs) (hlen : xs.length < 9223372036854775808) (hs : ∀ s, s ∈ xs → s.size ≤ 9223372036854775807) (hT : HasU w) :
    Calls Tryz.prog 76 #[.slice a xs.length c, .func (.func 117) #[] #[]] w fun e w' => IsB e ∧ Below w.heap.size w w' := by
  have hcon := lines_Index a c xs w h hlen hs hT
  go_enter Tryz.func76, Tryz.ntmps76
  go_wp2_with (go_at_call 127; refine hcon.mono ?_; rintro e w' ⟨⟨r, rfl⟩, hb'⟩)
  go_ret
  exact ⟨⟨_, rfl⟩, hb'⟩

set_option maxHeartbeats 4000000 in
theorem lines_Check (a : Option Addr) (c : Nat) (xs : List ByteArray) (w : World) (h : TextsH w a xs) (hlen : xs.length < 9223372036854775808) (hs : ∀ s, s ∈ xs → s.size ≤ 9223372036854775807) (hT : HasU w) :
    Calls Tryz.prog 63 #[.slice a xs.length c] w fun e w' => IsE e ∧ Below w.heap.size w w' := by
  have hcon := lines_Contains a c xs w h hlen hs hT
  by_cases h2 : (2000 : Int) < (xs.length : Int)
  · go_enter Tryz.func63, Tryz.ntmps63
    go_wp2
    go_ret
    exact ⟨⟨_, rfl⟩, Below.refl _ _⟩
  · go_enter Tryz.func63, Tryz.ntmps63
    go_wp2_with (go_at_call 76; refine hcon.mono ?_; rintro e w' ⟨⟨r, rfl⟩, hb'⟩; cases r)
    all_goals go_wp2
    all_goals go_ret
    all_goals exact ⟨⟨_, rfl⟩, hb'⟩
end Go.Proofs.W
