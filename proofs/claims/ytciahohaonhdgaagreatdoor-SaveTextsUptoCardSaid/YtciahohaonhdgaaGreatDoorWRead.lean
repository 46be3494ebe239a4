/- A PART OF THE PROOF THAT SAVETEXTS HOLDS FOR EVERY INPUT OF BULK AT MOST 1048576. No condition beyond the given statement. This part: WRead. -/
import Derived.Test.YtciahohaonhdgaaGreatDoorWCode
namespace Go.Proofs.W
open Go Go.Proofs Go.RowKit Go.Op
set_option maxRecDepth 1000000
def RdAt (w : World) (b : Nat) (s : ByteArray) (e : Int) : Prop := w.heap[b]? = some (.cells #[.string s, .int .i64 e] 183 (0, 0))
theorem RdAt.cells {w : World} {b : Nat} {s : ByteArray} {e : Int} (h : RdAt w b s e) : w.cell? ⟨b, 0, none⟩ = some (.string s) ∧ w.cell? ⟨b, 1, none⟩ = some (.int .i64 e) ∧ (∀ k, w.frozen? ⟨b, k, none⟩ = false) ∧ b < w.heap.size := by
 unfold RdAt at h
 refine ⟨by simp [World.cell?, h], by simp [World.cell?, h], fun k => frozen_of_row w b k _ _ h, (Array.getElem?_eq_some_iff.1 h).1⟩
theorem RdAt.set0 {w : World} {b : Nat} {s : ByteArray} {e : Int} (h : RdAt w b s e) (t : ByteArray) : RdAt (w.setCell ⟨b, 0, none⟩ (.string t)) b t e := by
 unfold RdAt at h ⊢
 exact setCell_block (i := 0) (.string t) h
theorem RdAt.set1 {w : World} {b : Nat} {s : ByteArray} {e : Int} (h : RdAt w b s e) (t : Int) : RdAt (w.setCell ⟨b, 1, none⟩ (.int .i64 t)) b s t := by
 unfold RdAt at h ⊢
 exact setCell_block (i := 1) (.int .i64 t) h
theorem grownSet (w : World) (b i : Nat) (v : Value) : w.grownBy (w.setCell ⟨b, i, none⟩ v) (some b) := ⟨rfl, rfl, rfl, by rw [setSize]; exact Nat.le_refl _, fun k _ hk => Below.heap_setCell _ _ _ _ (fun e => hk (by rw [e]))⟩
theorem grownTrans {w w1 w2 : World} {r : Option Nat} (h1 : w.grownBy w1 r) (h2 : w1.grownBy w2 r) : w.grownBy w2 r := ⟨h2.os.trans h1.os, h2.tape.trans h1.tape, h2.output.trans h1.output, Nat.le_trans h1.size h2.size, fun k hk hr => (h2.block k (Nat.lt_of_lt_of_le hk h1.size) hr).trans (h1.block k hk hr)⟩
set_option maxHeartbeats 4000000 in
theorem rd_fail (b : Nat) (s : ByteArray) (e0 e : Int) (w : World) (h : RdAt w b s e0) :
  Calls Tryz.prog 129 #[.pointer (some ⟨b, 0, none⟩), .int .i64 e] w fun r w' => r = .returned (.int .u64 0) ∧ RdAt w' b ByteArray.empty e ∧ w.grownBy w' (some b) := by
 obtain ⟨c0, c1, fz, hlt⟩ := h.cells
 have hfin := (h.set0 ByteArray.empty).set1 e
 have hg := grownTrans (grownSet w b 0 (.string ByteArray.empty)) (grownSet _ b 1 (.int .i64 e))
 have HF : Hid _ := hfin
 have HG : Hid _ := hg
 clear hfin hg h
 go_enter Tryz.func129, Tryz.ntmps129
 go_wp2
 go_ret
 exact ⟨rfl, HF.out, HG.out⟩
set_option maxHeartbeats 4000000 in
theorem rd_Err (b : Nat) (s : ByteArray) (e : Int) (w : World) (h : RdAt w b s e) :
  Calls Tryz.prog 76 #[.pointer (some ⟨b, 0, none⟩)] w fun r w' => r = .returned (.int .i64 e) ∧ w' = w := by
 obtain ⟨c0, c1, fz, hlt⟩ := h.cells
 clear h
 go_enter Tryz.func76, Tryz.ntmps76
 go_wp2
 go_ret
 exact ⟨rfl, rfl⟩
set_option maxHeartbeats 4000000 in
theorem rd_Left (b : Nat) (s : ByteArray) (e : Int) (w : World) (h : RdAt w b s e) :
  Calls Tryz.prog 77 #[.pointer (some ⟨b, 0, none⟩)] w fun r w' => r = .returned (.int .i64 s.size) ∧ w' = w := by
 obtain ⟨c0, c1, fz, hlt⟩ := h.cells
 clear h
 go_enter Tryz.func77, Tryz.ntmps77
 go_wp2
 go_ret
 exact ⟨rfl, rfl⟩
theorem and127 {k : Nat} (h : k < 256) : bits .and .u8 (k : Int) 127 = ((k % 128 : Nat) : Int) := by
 have H : (List.range 256).all (fun k => decide (bits .and .u8 (k : Int) 127 = ((k % 128 : Nat) : Int))) = true := by kernel_rfl
 exact of_decide_eq_true (List.all_eq_true.1 H k (List.mem_range.2 h))
theorem pow7 (i : Nat) : (2 : Nat) ^ (7 * i) = 128 ^ i := by rw [Nat.pow_mul]
theorem or_step {n c i : Nat} (hn : n < 128 ^ i) (hi : i ≤ 9) (hc : i = 9 → c ≤ 1) : bits .or .u64 (n : Int) (IntKind.u64.wrap ((c : Int) % 128 * 2 ^ (7 * i))) = ((n + c % 128 * 128 ^ i : Nat) : Int) := by
 have hp : (128 : Nat) ^ i ≤ 128 ^ 9 := Nat.pow_le_pow_right (by decide) hi
 have h9 : (128 : Nat) ^ 9 = 9223372036854775808 := by decide
 have hb : c % 128 * 128 ^ i < 18446744073709551616 := by
  rcases Nat.lt_or_ge i 9 with h | h
  ·have h8 : (128 : Nat) ^ i ≤ 128 ^ 8 := Nat.pow_le_pow_right (by decide) (by omega)
   have e8 : (128 : Nat) ^ 8 = 72057594037927936 := by decide
   have h1 : c % 128 < 128 := Nat.mod_lt _ (by decide)
   have h2 : c % 128 * 128 ^ i ≤ 127 * 128 ^ 8 := Nat.mul_le_mul (by omega) h8
   omega
  ·have e : i = 9 := by omega
   have h1 := hc e
   have h2 : c % 128 * 128 ^ i ≤ 1 * 128 ^ 9 := Nat.mul_le_mul (by omega) hp
   omega
 have e1 : (c : Int) % 128 * 2 ^ (7 * i) = ((c % 128 * 128 ^ i : Nat) : Int) := by
  rw [← pow7]
  push_cast
  rfl
 rw [e1, IntWalk.u64_in _ (by omega), bits_or_u64_nat _ _ (by omega) hb]
 congr 1
 have h3 := Nat.two_pow_add_eq_or_of_lt (i := 7 * i) (b := n) (by rw [pow7]; exact hn) (c % 128)
 rw [pow7] at h3
 rw [Nat.mul_comm (c % 128), Nat.or_comm, ← h3, Nat.add_comm]
theorem drop_at {s : ByteArray} {i : Nat} (h : i < s.size) : (dl s).drop i = s[i] :: (dl s).drop (i + 1) := by
 have hl : i < (dl s).length := by rw [dl_len]; exact h
 rw [List.drop_eq_getElem_cons hl]
 rfl
theorem num_at {s : ByteArray} {i n c : Nat} (h : i < s.size) (hc : (s[i]'h).toNat = c) : numR i n ((dl s).drop i) = if (i = 9 ∧ 1 < c) ∨ (0 < i ∧ c = 0) then .form else if c < 128 then .ok (n + c % 128 * 128 ^ i) ((dl s).drop (i + 1)) else numR (i + 1) (n + c % 128 * 128 ^ i) ((dl s).drop (i + 1)) := by
 rw [drop_at h, numR, hc]
theorem extract_from (s : ByteArray) (i : Nat) : s.extract i s.size = ofL ((dl s).drop i) := by
 apply ByteArray.ext
 apply Array.toList_inj.1
 rw [ByteArray.data_extract, Array.toList_extract]
 simp only [ofL, dl, List.extract_eq_take_drop]
 rw [List.take_of_length_le]
 rw [List.length_drop, Array.length_toList]
 exact Nat.le_refl _
def GotN (b : Nat) (g : Got Nat) (r : Ending) (w' : World) : Prop := match g with
 | .ok n l => r = .returned (.int .u64 n) ∧ RdAt w' b (ofL l) 0
 | .form => r = .returned (.int .u64 0) ∧ RdAt w' b ByteArray.empty 6
 | .short => r = .returned (.int .u64 0) ∧ RdAt w' b ByteArray.empty 5
set_option maxHeartbeats 8000000 in
theorem rd_Num (b : Nat) (s : ByteArray) (w : World) (h : RdAt w b s 0) (hs : s.size ≤ 9223372036854775000) :
  Calls Tryz.prog 128 #[.pointer (some ⟨b, 0, none⟩)] w fun r w' => GotN b (numR 0 0 (dl s)) r w' ∧ w.grownBy w' (some b) := by
 obtain ⟨c0, c1, fz, hlt⟩ := h.cells
 have H : Hid _ := h
 clear h
 go_enter Tryz.func128, Tryz.ntmps128
 go_wp2
 go_loopg [3, 20] s.size (fun kx s3 s20 wr => ∃ (i n : Nat), s3 = .int .u64 n ∧ s20 = .int .i64 i ∧ i ≤ s.size ∧ s.size - i ≤ kx ∧ i ≤ 9 ∧ wr = w ∧ Hid (n < 128 ^ i ∧ numR i n ((dl s).drop i) = numR 0 0 (dl s)))
 case atStart => exact ⟨0, 0, rfl, rfl, Nat.zero_le _, Nat.le_refl _, by omega, rfl, by decide, by simp⟩
 case round =>
  obtain ⟨i, n, rfl, rfl, hin, hkx, hi9, rfl, REL⟩ := hrel
  by_cases hil : i < s.size
  ·have hiz : (i : Int) < (s.size : Int) := by omega
   have hnn : ¬ (i : Int) < 0 := by omega
   have hnn0 : (0 : Int) ≤ (i : Int) := by omega
   obtain ⟨c, hc⟩ : ∃ c, (s[i]'hil).toNat = c := ⟨_, rfl⟩
   have hc256 : c < 256 := by rw [← hc]; exact UInt8.toNat_lt _
   have hand : bits .and .u8 (c : Int) 127 = (c : Int) % 128 := by rw [and127 hc256]; omega
   rcases Nat.lt_or_ge i 9 with hlt9 | hge9
   ·have h9 : ¬ (i : Int) = 9 := by omega
    have h79 : 7 * (i : Int) ≤ 63 := by omega
    by_cases h0 : (i : Int) > 0
    ·by_cases hcz : (c : Int) = 0
     ·have HR : Hid (numR 0 0 (dl s) = .form) := by
       show _ = _
       rw [← REL.out.2, num_at hil hc, if_pos (by omega)]
      go_wp2_with fail
      refine Calls.mono (rd_fail b s 0 6 _ H.out) ?_
      rintro r w' ⟨rfl, h1, h2⟩
      have HX : Hid _ := h1
      have HG : Hid _ := h2
      clear h1 h2 REL c0 c1
      go_wp2
      go_ret
      rw [HR.out]
      exact ⟨⟨rfl, HX.out⟩, HG.out⟩
     ·by_cases hc8 : (c : Int) < 128
      ·have HR : Hid (numR 0 0 (dl s) = .ok (n + c % 128 * 128 ^ i) ((dl s).drop (i + 1))) := by
        show _ = _
        rw [← REL.out.2, num_at hil hc, if_neg (by omega), if_pos (by omega)]
       have HO : Hid _ := or_step (c := c) REL.out.1 hi9 (by omega)
       go_wp2_with fail
       go_ret
       rw [HR.out, HO.out, extract_from]
       exact ⟨⟨rfl, RdAt.set0 H.out _⟩, grownSet _ _ _ _⟩
      ·have HR : Hid (n + c % 128 * 128 ^ i < 128 ^ (i + 1) ∧ numR (i + 1) (n + c % 128 * 128 ^ i) ((dl s).drop (i + 1)) = numR 0 0 (dl s)) := by
        refine ⟨?_, ?_⟩
        ·have h1 := REL.out.1
         have h2 : c % 128 * 128 ^ i ≤ 127 * 128 ^ i := Nat.mul_le_mul_right _ (by omega)
         rw [Nat.pow_succ]
         omega
        ·rw [← REL.out.2, num_at hil hc, if_neg (by omega), if_neg (by omega)]
       have HO : Hid _ := or_step (c := c) REL.out.1 hi9 (by omega)
       clear REL
       go_wp2_with fail
       go_roundg (s.size - (i + 1))
       case measure => omega
       case rel => exact ⟨i + 1, _, by rw [HO.out], by go_num, by omega, Nat.le_refl _, by omega, rfl, HR.out⟩
    ·by_cases hc8 : (c : Int) < 128
     ·have HR : Hid (numR 0 0 (dl s) = .ok (n + c % 128 * 128 ^ i) ((dl s).drop (i + 1))) := by
       show _ = _
       rw [← REL.out.2, num_at hil hc, if_neg (by omega), if_pos (by omega)]
      have HO : Hid _ := or_step (c := c) REL.out.1 hi9 (by omega)
      go_wp2_with fail
      go_ret
      rw [HR.out, HO.out, extract_from]
      exact ⟨⟨rfl, RdAt.set0 H.out _⟩, grownSet _ _ _ _⟩
     ·have HR : Hid (n + c % 128 * 128 ^ i < 128 ^ (i + 1) ∧ numR (i + 1) (n + c % 128 * 128 ^ i) ((dl s).drop (i + 1)) = numR 0 0 (dl s)) := by
       refine ⟨?_, ?_⟩
       ·have h1 := REL.out.1
        have h2 : c % 128 * 128 ^ i ≤ 127 * 128 ^ i := Nat.mul_le_mul_right _ (by omega)
        rw [Nat.pow_succ]
        omega
       ·rw [← REL.out.2, num_at hil hc, if_neg (by omega), if_neg (by omega)]
      have HO : Hid _ := or_step (c := c) REL.out.1 hi9 (by omega)
      clear REL
      go_wp2_with fail
      go_roundg (s.size - (i + 1))
      case measure => omega
      case rel => exact ⟨i + 1, _, by rw [HO.out], by go_num, by omega, Nat.le_refl _, by omega, rfl, HR.out⟩
   ·obtain rfl : i = 9 := by omega
    by_cases hc1 : (c : Int) > 1
    ·have HR : Hid (numR 0 0 (dl s) = .form) := by
      show _ = _
      rw [← REL.out.2, num_at hil hc, if_pos (by omega)]
     go_wp2_with fail
     refine Calls.mono (rd_fail b s 0 6 _ H.out) ?_
     rintro r w' ⟨rfl, h1, h2⟩
     have HX : Hid _ := h1
     have HG : Hid _ := h2
     clear h1 h2 REL c0 c1
     go_wp2
     go_ret
     rw [HR.out]
     exact ⟨⟨rfl, HX.out⟩, HG.out⟩
    ·by_cases hcz : (c : Int) = 0
     ·have HR : Hid (numR 0 0 (dl s) = .form) := by
       show _ = _
       rw [← REL.out.2, num_at hil hc, if_pos (by omega)]
      go_wp2_with fail
      refine Calls.mono (rd_fail b s 0 6 _ H.out) ?_
      rintro r w' ⟨rfl, h1, h2⟩
      have HX : Hid _ := h1
      have HG : Hid _ := h2
      clear h1 h2 REL c0 c1
      go_wp2
      go_ret
      rw [HR.out]
      exact ⟨⟨rfl, HX.out⟩, HG.out⟩
     ·have hc8 : (c : Int) < 128 := by omega
      have HR : Hid (numR 0 0 (dl s) = .ok (n + c % 128 * 128 ^ 9) ((dl s).drop 10)) := by
       show _ = _
       rw [← REL.out.2, num_at hil hc, if_neg (by omega), if_pos (by omega)]
      have HO : Hid (bits .or .u64 (n : Int) ((c : Int) % 128 * 9223372036854775808) = ((n + c % 128 * 128 ^ 9 : Nat) : Int)) := by
       have h := or_step (c := c) REL.out.1 hi9 (by omega)
       have e : (2 : Int) ^ (7 * 9) = 9223372036854775808 := by decide
       rw [e, IntWalk.u64_in _ (by omega)] at h
       exact h
      go_wp2_with fail
      go_ret
      rw [HR.out, HO.out, extract_from]
      exact ⟨⟨rfl, RdAt.set0 H.out _⟩, grownSet _ _ _ _⟩
  ·have hiz : ¬ (i : Int) < (s.size : Int) := by omega
   go_wp2_with fail
   refine Calls.mono (rd_fail b s 0 5 _ H.out) ?_
   rintro r w' ⟨rfl, h1, h2⟩
   have HR : Hid (numR 0 0 (dl s) = .short) := by
    have := REL.out.2
    rw [List.drop_eq_nil_of_le (by rw [dl_len]; omega)] at this
    show _ = _
    rw [← this, numR]
   have HX : Hid _ := h1
   have HG : Hid _ := h2
   clear h1 h2 REL c0 c1
   go_wp2
   go_ret
   rw [HR.out]
   exact ⟨⟨rfl, HX.out⟩, HG.out⟩
end Go.Proofs.W
namespace Go.Proofs.W
open Go Go.Proofs Go.RowKit Go.Op
set_option maxRecDepth 1000000
theorem extract_to (l : List UInt8) (n : Nat) : (ofL l).extract 0 n = ofL (l.take n) := by
 apply ByteArray.ext
 apply Array.toList_inj.1
 rw [ByteArray.data_extract, Array.toList_extract]
 simp [ofL, List.extract_eq_take_drop]
theorem extract_ofL (l : List UInt8) (n : Nat) : (ofL l).extract n l.length = ofL (l.drop n) := by
 have h := extract_from (ofL l) n
 rw [dl_ofL, ofL_size] at h
 exact h
theorem numR_len : ∀ {l : List UInt8} {i n m : Nat} {r : List UInt8}, numR i n l = .ok m r → r.length + 1 ≤ l.length
 | [], i, n, m, r, h => by cases h
 | c :: l, i, n, m, r, h => by
  rw [numR] at h
  split at h
  ·cases h
  ·split at h
   ·cases h; simp
   ·have := numR_len h
    simp only [List.length_cons]
    omega
theorem numR_lt : ∀ {l : List UInt8} {i n m : Nat} {r : List UInt8}, n < 128 ^ i → i ≤ 9 → numR i n l = .ok m r → m < 18446744073709551616
 | [], i, n, m, r, _, _, h => by cases h
 | c :: l, i, n, m, r, hn, hi, h => by
  rw [numR] at h
  split at h
  ·cases h
  ·rename_i hno
   have hp : (128 : Nat) ^ i ≤ 128 ^ 9 := Nat.pow_le_pow_right (by decide) hi
   have e9 : (128 : Nat) ^ 9 = 9223372036854775808 := by decide
   have e8 : (128 : Nat) ^ 8 = 72057594037927936 := by decide
   split at h
   ·cases h
    rcases Nat.lt_or_ge i 9 with h1 | h1
    ·have h8 : (128 : Nat) ^ i ≤ 128 ^ 8 := Nat.pow_le_pow_right (by decide) (by omega)
     have h2 : c.toNat % 128 * 128 ^ i ≤ 127 * 128 ^ 8 := Nat.mul_le_mul (by omega) h8
     omega
    ·have : c.toNat ≤ 1 := by omega
     have h2 : c.toNat % 128 * 128 ^ i ≤ 1 * 128 ^ 9 := Nat.mul_le_mul (by omega) hp
     omega
   ·refine numR_lt (i := i + 1) ?_ (by omega) h
    have h2 : c.toNat % 128 * 128 ^ i ≤ 127 * 128 ^ i := Nat.mul_le_mul_right _ (by omega)
    rw [Nat.pow_succ]
    omega
theorem num_bounds {l : List UInt8} {m : Nat} {r : List UInt8} (h : numR 0 0 l = .ok m r) : m < 18446744073709551616 ∧ r.length + 1 ≤ l.length := ⟨numR_lt (by decide) (by decide) h, numR_len h⟩
set_option maxHeartbeats 4000000 in
theorem rd_Num_err (b : Nat) (s : ByteArray) (e : Int) (he : e ≠ 0) (w : World) (h : RdAt w b s e) :
  Calls Tryz.prog 128 #[.pointer (some ⟨b, 0, none⟩)] w fun r w' => r = .returned (.int .u64 0) ∧ w' = w := by
 obtain ⟨c0, c1, fz, hlt⟩ := h.cells
 clear h
 go_enter Tryz.func128, Tryz.ntmps128
 go_wp2
 go_ret
 exact ⟨rfl, rfl⟩
set_option maxHeartbeats 4000000 in
theorem rd_Text_err (b : Nat) (s : ByteArray) (e : Int) (he : e ≠ 0) (w : World) (h : RdAt w b s e) :
  Calls Tryz.prog 130 #[.pointer (some ⟨b, 0, none⟩)] w fun r w' => r = .returned (.string ByteArray.empty) ∧ w' = w := by
 go_enter Tryz.func130, Tryz.ntmps130
 go_wp2_with fail
 refine Calls.mono (rd_Num_err b s e he w h) ?_
 rintro r w' ⟨rfl, rfl⟩
 go_wp2_with fail
 refine Calls.mono (rd_Err b s e _ h) ?_
 rintro r w' ⟨rfl, rfl⟩
 go_wp2
 go_ret
 exact ⟨rfl, rfl⟩
def GotT (b : Nat) (g : Got (List UInt8)) (r : Ending) (w' : World) : Prop := match g with
 | .ok t l => r = .returned (.string (ofL t)) ∧ RdAt w' b (ofL l) 0
 | .form => r = .returned (.string ByteArray.empty) ∧ RdAt w' b ByteArray.empty 6
 | .short => r = .returned (.string ByteArray.empty) ∧ RdAt w' b ByteArray.empty 5
set_option maxHeartbeats 8000000 in
theorem rd_Text (b : Nat) (s : ByteArray) (w : World) (h : RdAt w b s 0) (hs : s.size ≤ 9223372036854775000) :
  Calls Tryz.prog 130 #[.pointer (some ⟨b, 0, none⟩)] w fun r w' => GotT b (textR (dl s)) r w' ∧ w.grownBy w' (some b) := by
 go_enter Tryz.func130, Tryz.ntmps130
 go_wp2_with fail
 refine Calls.mono (rd_Num b s w h hs) ?_
 rintro r w1 ⟨hg, hw1⟩
 have HW1 : Hid _ := hw1
 clear hw1
 have hbad : ∀ e : Int, e ≠ 0 → RdAt w1 b ByteArray.empty e → ∀ K : Ending → World → Prop, True := fun _ _ _ _ => trivial
 clear hbad
 cases hq : numR 0 0 (dl s) with
 | ok n l =>
  rw [hq] at hg
  obtain ⟨rfl, hr⟩ := hg
  obtain ⟨hn64, hll⟩ := num_bounds hq
  rw [dl_len] at hll
  have hT : textR (dl s) = if l.length < n then .short else .ok (l.take n) (l.drop n) := by unfold textR; rw [hq]
  have HT : Hid _ := hT
  clear hT hq
  obtain ⟨c0, c1, fz, hlt⟩ := hr.cells
  have hsz := ofL_size l
  have HR : Hid (RdAt w1 b (ofL l) 0) := hr
  clear hr
  go_wp2_with fail
  refine Calls.mono (rd_Err b (ofL l) 0 _ HR.out) ?_
  rintro r w' ⟨rfl, rfl⟩
  by_cases hnl : (n : Int) > (l.length : Int)
  ·go_wp2_with fail
   refine Calls.mono (rd_fail b (ofL l) 0 5 _ HR.out) ?_
   rintro r w2 ⟨rfl, h1, h2⟩
   have HX : Hid _ := h1
   have HG : Hid _ := grownTrans HW1.out h2
   clear h1 h2 c0 c1
   go_wp2
   go_ret
   rw [HT.out, if_pos (by omega)]
   exact ⟨⟨rfl, HX.out⟩, HG.out⟩
  ·have hex := extract_to l n
   have hex2 := extract_ofL l n
   have HF : Hid (RdAt (w'.setCell ⟨b, 0, none⟩ (.string (ofL (l.drop n)))) b (ofL (l.drop n)) 0) := RdAt.set0 HR.out _
   have HG : Hid (w.grownBy (w'.setCell ⟨b, 0, none⟩ (.string (ofL (l.drop n)))) (some b)) := grownTrans HW1.out (grownSet _ _ _ _)
   go_wp2
   go_ret
   rw [HT.out, if_neg (by omega)]
   exact ⟨⟨rfl, HF.out⟩, HG.out⟩
 | form =>
  rw [hq] at hg
  obtain ⟨rfl, hr⟩ := hg
  have HT : Hid (textR (dl s) = .form) := by show _ = _; unfold textR; rw [hq]
  clear hq
  go_wp2_with fail
  refine Calls.mono (rd_Err b ByteArray.empty 6 _ hr) ?_
  rintro r w' ⟨rfl, rfl⟩
  go_wp2
  go_ret
  rw [HT.out]
  exact ⟨⟨rfl, hr⟩, HW1.out⟩
 | short =>
  rw [hq] at hg
  obtain ⟨rfl, hr⟩ := hg
  have HT : Hid (textR (dl s) = .short) := by show _ = _; unfold textR; rw [hq]
  clear hq
  go_wp2_with fail
  refine Calls.mono (rd_Err b ByteArray.empty 5 _ hr) ?_
  rintro r w' ⟨rfl, rfl⟩
  go_wp2
  go_ret
  rw [HT.out]
  exact ⟨⟨rfl, hr⟩, HW1.out⟩
end Go.Proofs.W
namespace Go.Proofs.W
open Go Go.Proofs Go.RowKit Go.Op
set_option maxRecDepth 1000000
theorem textR_len {s t r : List UInt8} (h : textR s = .ok t r) : t.length + r.length + 1 ≤ s.length := by
 unfold textR at h
 cases hq : numR 0 0 s with
 | ok n l =>
  rw [hq] at h
  simp only at h
  have := numR_len hq
  split at h
  ·cases h
  ·cases h
   simp only [List.length_take, List.length_drop]
   omega
 | form => rw [hq] at h; cases h
 | short => rw [hq] at h; cases h
theorem textsR_len : ∀ {k : Nat} {s : List UInt8} {l : List (List UInt8)} {r : List UInt8}, textsR k s = .ok l r → l.length = k ∧ (l.map fun t => t.length + 1).sum + r.length ≤ s.length
 | 0, s, l, r, h => by cases h; simp
 | k + 1, s, l, r, h => by
  rw [textsR] at h
  cases hq : textR s with
  | ok t u =>
   rw [hq] at h
   simp only at h
   cases hq2 : textsR k u with
   | ok l2 r2 =>
    rw [hq2] at h
    cases h
    obtain ⟨h1, h2⟩ := textsR_len hq2
    have := textR_len hq
    refine ⟨by simp [h1], ?_⟩
    simp only [List.map_cons, List.sum_cons]
    omega
   | form => rw [hq2] at h; cases h
   | short => rw [hq2] at h; cases h
  | form => rw [hq] at h; cases h
  | short => rw [hq] at h; cases h
def contG (ts : List (List UInt8)) (g : Got (List (List UInt8))) : Got (List (List UInt8)) := match g with
 | .ok l r => .ok (ts ++ l) r
 | .form => .form
 | .short => .short
theorem contG_step {ts : List (List UInt8)} {k : Nat} {s : List UInt8} : contG ts (textsR (k + 1) s) = match textR s with
  | .ok t r => contG (ts ++ [t]) (textsR k r)
  | .form => .form
  | .short => .short := by
 rw [textsR]
 cases textR s with
 | ok t r =>
  simp only
  cases textsR k r with
  | ok l r' => simp [contG]
  | form => rfl
  | short => rfl
 | form => rfl
 | short => rfl
def GotL (B b : Nat) (g : Got (List (List UInt8))) (r : Ending) (w' : World) : Prop := match g with
 | .ok ts l => (∃ a c, r = .returned (.slice a ts.length c) ∧ w'.ownsRow B 9 1 (.slice a ts.length c) ts.length ((ts.map ofL).map Value.string)) ∧ RdAt w' b (ofL l) 0
 | .form => r = .returned (.slice none 0 0) ∧ RdAt w' b ByteArray.empty 6
 | .short => r = .returned (.slice none 0 0) ∧ RdAt w' b ByteArray.empty 5
set_option maxHeartbeats 16000000 in
theorem rd_List (b : Nat) (s : ByteArray) (w : World) (h : RdAt w b s 0) (hs : s.size ≤ 1099511627776) :
  Calls Tryz.prog 75 #[.pointer (some ⟨b, 0, none⟩)] w fun r w' => GotL w.heap.size b (listR (dl s)) r w' ∧ w.grownBy w' (some b) := by
 obtain ⟨io, hio, hz0, hz1, hz2⟩ := info9
 have hbw : b < w.heap.size := h.cells.2.2.2
 have HBW : Hid _ := hbw
 clear hbw
 go_enter Tryz.func75, Tryz.ntmps75
 go_wp2_with fail
 refine Calls.mono (rd_Num b s w h (by omega)) ?_
 rintro r w1 ⟨hg, hw1⟩
 have HW1 : Hid _ := hw1
 clear hw1
 cases hq : numR 0 0 (dl s) with
 | ok n l =>
  rw [hq] at hg
  obtain ⟨rfl, hr⟩ := hg
  obtain ⟨hn64, hll⟩ := num_bounds hq
  rw [dl_len] at hll
  have HT : Hid (listR (dl s) = if l.length < n then .short else textsR n l) := by show _ = _; unfold listR; rw [hq]
  clear hq
  have hsz := ofL_size l
  obtain ⟨c0, c1, fz, hlt⟩ := hr.cells
  have HR : Hid (RdAt w1 b (ofL l) 0) := hr
  clear hr
  go_wp2_with fail
  refine Calls.mono (rd_Err b (ofL l) 0 _ HR.out) ?_
  rintro r w' ⟨rfl, rfl⟩
  by_cases hnl : (n : Int) > (l.length : Int)
  ·go_wp2_with fail
   refine Calls.mono (rd_fail b (ofL l) 0 5 _ HR.out) ?_
   rintro r w2 ⟨rfl, h1, h2⟩
   have HX : Hid (RdAt w2 b ByteArray.empty 5) := h1
   have HG : Hid _ := grownTrans HW1.out h2
   have HTS : Hid (listR (dl s) = .short) := by show _ = _; rw [HT.out, if_pos (by omega)]
   have hn0 : (0 : Int) < (n : Int) := by omega
   clear h1 h2 c0 c1
   go_wp2
   go_loopg [4, 24] 0 (fun kx s4 s24 wr => s4 = .slice none 0 0 ∧ s24 = .int .u64 0 ∧ wr = w2)
   case atStart => exact ⟨rfl, rfl, rfl⟩
   case round =>
    obtain ⟨rfl, rfl, rfl⟩ := hrel
    go_wp2_with fail
    refine Calls.mono (rd_Text_err b ByteArray.empty 5 (by decide) _ HX.out) ?_
    rintro r w3 ⟨rfl, rfl⟩
    go_wp2_with fail
    refine Calls.mono (rd_Err b ByteArray.empty 5 _ HX.out) ?_
    rintro r w3 ⟨rfl, rfl⟩
    go_wp2
    go_ret
    rw [HTS.out]
    exact ⟨⟨rfl, HX.out⟩, HG.out⟩
  ·have HTS : Hid (listR (dl s) = textsR n l) := by show _ = _; rw [HT.out, if_neg (by omega)]
   have HZ : Hid (w.heap.size ≤ w'.heap.size) := HW1.out.size
   clear HT
   go_wp2
   clear c0 c1
   simp only [show decide (l.length < n) = false from decide_eq_false (by omega)]
   go_loopg [4, 24] n (fun kx s4 s24 wr => ∃ (i : Nat) (ta : Option Addr) (tc : Nat), s4 = .slice ta i tc ∧ s24 = .int .u64 i ∧ i ≤ n ∧ n - i ≤ kx ∧ Hid (∃ (ts : List (List UInt8)) (r : List UInt8), ts.length = i ∧ r.length ≤ l.length ∧ contG ts (textsR (n - i) r) = textsR n l ∧ wr.ownsRow w.heap.size 9 1 (.slice ta i tc) ts.length ((ts.map ofL).map Value.string) ∧ RdAt wr b (ofL r) 0 ∧ w.grownBy wr (some b)))
   case atStart =>
    refine ⟨0, none, 0, rfl, rfl, Nat.zero_le _, Nat.le_refl _, [], l, rfl, Nat.le_refl _, ?_, World.ownsRow_nil _ _ _ _, HR.out, HW1.out⟩
    rw [Nat.sub_zero]
    cases textsR n l <;> simp [contG]
   case round =>
    obtain ⟨i, ta, tc, rfl, rfl, hin, hkx, REL⟩ := hrel
    by_cases hil : i < n
    ·have hiz : (i : Int) < (n : Int) := by omega
     obtain ⟨ts, u, r1, r2, r3, r4, r5, r6⟩ := REL.out
     have hrt := rd_Text b (ofL u) _ r5 (by rw [ofL_size]; omega)
     rw [dl_ofL] at hrt
     have HRT : Hid _ := hrt
     have HE : Hid (contG ts (textsR (n - i - 1 + 1) u) = textsR n l) := by show _ = _; rw [show n - i - 1 + 1 = n - i by omega]; exact r3
     have H1 : Hid (ts.length = i ∧ u.length ≤ l.length) := ⟨r1, r2⟩
     have H4 : Hid _ := r4
     have H6 : Hid _ := r6
     clear r1 r2 r3 r4 r5 r6 REL hrt
     go_wp2_with fail
     refine Calls.mono HRT.out ?_
     rintro r w3 ⟨hg, hw3⟩
     have HW3 : Hid _ := hw3
     clear hw3 HRT
     have hE := HE.out
     rw [contG_step] at hE
     cases hq : textR u with
     | ok t v =>
      rw [hq] at hg hE
      obtain ⟨rfl, hr⟩ := hg
      have hlen := textR_len hq
      have HRv : Hid (RdAt w3 b (ofL v) 0) := hr
      have HE2 : Hid (contG (ts ++ [t]) (textsR (n - i - 1) v) = textsR n l) := hE
      have HLV : Hid (v.length ≤ l.length) := by have := H1.out.2; show _ ≤ _; omega
      clear hr hE hlen hq HE
      go_wp2_with fail
      refine Calls.mono (rd_Err b (ofL v) 0 _ HRv.out) ?_
      rintro r w4 ⟨rfl, rfl⟩
      have hown3 : w4.ownsRow w.heap.size 9 1 (.slice ta i tc) ts.length ((ts.map ofL).map Value.string) := by
       refine World.ownsRow.kept H4.out HW3.out ?_
       by_cases he : (Value.slice ta i tc).ownBlock = none
       ·exact .inl he
       ·refine .inr fun e => ?_
        have h1 := (World.ownsRow.lt H4.out b e).1
        have h2 := HBW.out
        omega
      have hw4 := grownTrans H6.out HW3.out
      have htl := H1.out.1
      go_wp2_with (at_builtin; refine wpList_append_src _ rfl (.tmp 31) (.tmp 33) 54 rfl w.heap.size 9 io _ 1 _ Tryz.underlying54 hio hz0 hz1 hz2 rfl (by decide) _ ts.length _ rfl (hown3.alloc _) _ 1 [.string (ofL t)] rfl (.inr ⟨_, _, rfl, rfl, ?src⟩) ?one ?len3 ?bytes3 ?base3 ?_)
      case src =>
       intro j x hu
       rw [Addr.add_lit, cell_new2 _ _ rfl]
       simpa using hu
      case one =>
       intro x hu
       obtain rfl := List.mem_singleton.1 hu
       rfl
      case len3 => unfold maxLen; omega
      case bytes3 => omega
      case base3 => have := hw4.size; rw [allocSize]; omega
      intro v' w' hown' hg _
      have hnb : ∀ k, (Value.slice ta i tc).ownBlock = some k → w.heap.size ≤ k := fun k e => (World.ownsRow.lt hown3 k e).1
      have hw5 : w.grownBy w' (some b) := by
       have hs := hw4.size
       refine ⟨hg.os.trans hw4.os, hg.tape.trans hw4.tape, hg.output.trans hw4.output, Nat.le_trans hs (Nat.le_trans (by rw [allocSize]; omega) hg.size), fun k hk hkb => ?_⟩
       exact (hg.block k (by rw [allocSize]; omega) (fun e => by have := hnb k e.symm; omega)).trans ((Below.heap_alloc _ _ _ (by omega)).trans (hw4.block k hk hkb))
      have hrd : RdAt w' b (ofL v) 0 := by
       have hs := hw4.size
       have hb := HBW.out
       exact ((hg.block b (by rw [allocSize]; omega) (fun e => by have := hnb b e.symm; omega)).trans (Below.heap_alloc _ _ _ (by omega))).trans HRv.out
      obtain ⟨ta', tc', rfl⟩ := ownShape hown'
      have HN : Hid (∃ (ts : List (List UInt8)) (r : List UInt8), ts.length = i + 1 ∧ r.length ≤ l.length ∧ contG ts (textsR (n - (i + 1)) r) = textsR n l ∧ w'.ownsRow w.heap.size 9 1 (.slice ta' (i + 1) tc') ts.length ((ts.map ofL).map Value.string) ∧ RdAt w' b (ofL r) 0 ∧ w.grownBy w' (some b)) := by
       refine ⟨ts ++ [t], v, by rw [List.length_append, htl]; rfl, HLV.out, ?_, ?_, hrd, hw5⟩
       ·rw [← HE2.out, show n - (i + 1) = n - i - 1 by omega]
       ·rw [List.length_append, htl, List.map_append, List.map_append, List.map_map]
        exact hown'
      clear hown' hg hw5 hrd hnb hown3 hw4 HE2 HLV HRv H4 H6 HW3
      go_wp2
      go_roundg (n - (i + 1))
      case measure => omega
      case rel => exact ⟨i + 1, _, _, rfl, by go_num, by omega, Nat.le_refl _, HN.out⟩
     | form =>
      rw [hq] at hg hE
      obtain ⟨rfl, hr⟩ := hg
      have HF : Hid (textsR n l = .form) := hE.symm
      have HX : Hid (RdAt w3 b ByteArray.empty 6) := hr
      have HG : Hid (w.grownBy w3 (some b)) := grownTrans H6.out HW3.out
      clear hr hE hq HE
      go_wp2_with fail
      refine Calls.mono (rd_Err b ByteArray.empty 6 _ HX.out) ?_
      rintro r w4 ⟨rfl, rfl⟩
      go_wp2
      go_ret
      rw [HTS.out, HF.out]
      exact ⟨⟨rfl, HX.out⟩, HG.out⟩
     | short =>
      rw [hq] at hg hE
      obtain ⟨rfl, hr⟩ := hg
      have HF : Hid (textsR n l = .short) := hE.symm
      have HX : Hid (RdAt w3 b ByteArray.empty 5) := hr
      have HG : Hid (w.grownBy w3 (some b)) := grownTrans H6.out HW3.out
      clear hr hE hq HE
      go_wp2_with fail
      refine Calls.mono (rd_Err b ByteArray.empty 5 _ HX.out) ?_
      rintro r w4 ⟨rfl, rfl⟩
      go_wp2
      go_ret
      rw [HTS.out, HF.out]
      exact ⟨⟨rfl, HX.out⟩, HG.out⟩
    ·have hiz : ¬ (i : Int) < (n : Int) := by omega
     obtain ⟨ts, u, r1, r2, r3, r4, r5, r6⟩ := REL.out
     have HF : Hid (textsR n l = .ok ts u) := by
      show _ = _
      rw [← r3, show n - i = 0 by omega]
      simp [contG, textsR]
     have HH : Hid (wr.ownsRow w.heap.size 9 1 (.slice ta ts.length tc) ts.length ((ts.map ofL).map Value.string)) := by
      rw [← r1] at r4
      exact r4
     have HX : Hid _ := r5
     have HG : Hid _ := r6
     have HI : Hid (i = ts.length) := r1.symm
     clear r1 r2 r3 r4 r5 r6 REL
     go_wp2
     go_ret
     rw [HTS.out, HF.out]
     refine ⟨⟨⟨ta, tc, ?_, HH.out⟩, HX.out⟩, HG.out⟩
     rw [← HI.out]
     rfl
 | form =>
  rw [hq] at hg
  obtain ⟨rfl, hr⟩ := hg
  have HT : Hid (listR (dl s) = .form) := by show _ = _; unfold listR; rw [hq]
  have HX : Hid (RdAt w1 b ByteArray.empty 6) := hr
  clear hq hr
  go_wp2_with fail
  refine Calls.mono (rd_Err b ByteArray.empty 6 _ HX.out) ?_
  rintro r w2 ⟨rfl, rfl⟩
  go_wp2
  go_loopg [4, 24] 0 (fun kx s4 s24 wr => s4 = .slice none 0 0 ∧ s24 = .int .u64 0 ∧ wr = w2)
  case atStart => exact ⟨rfl, rfl, rfl⟩
  case round =>
   obtain ⟨rfl, rfl, rfl⟩ := hrel
   go_wp2
   go_ret
   rw [HT.out]
   exact ⟨⟨rfl, HX.out⟩, HW1.out⟩
 | short =>
  rw [hq] at hg
  obtain ⟨rfl, hr⟩ := hg
  have HT : Hid (listR (dl s) = .short) := by show _ = _; unfold listR; rw [hq]
  have HX : Hid (RdAt w1 b ByteArray.empty 5) := hr
  clear hq hr
  go_wp2_with fail
  refine Calls.mono (rd_Err b ByteArray.empty 5 _ HX.out) ?_
  rintro r w2 ⟨rfl, rfl⟩
  go_wp2
  go_loopg [4, 24] 0 (fun kx s4 s24 wr => s4 = .slice none 0 0 ∧ s24 = .int .u64 0 ∧ wr = w2)
  case atStart => exact ⟨rfl, rfl, rfl⟩
  case round =>
   obtain ⟨rfl, rfl, rfl⟩ := hrel
   go_wp2
   go_ret
   rw [HT.out]
   exact ⟨⟨rfl, HX.out⟩, HW1.out⟩
end Go.Proofs.W
namespace Go.Proofs.W
open Go Go.Proofs Go.RowKit Go.Op
set_option maxRecDepth 1000000
set_option maxHeartbeats 4000000 in
theorem code_Read (s : ByteArray) (w : World) : Calls Tryz.prog 74 #[.string s] w fun e w' => e = .returned (.pointer (some ⟨w.heap.size, 0, none⟩)) ∧ RdAt w' w.heap.size s 0 ∧ w'.heap.size = w.heap.size + 1 ∧ Below w.heap.size w w' := by
 have hA := belowAlloc w (.cells #[.string s, .int .i64 0] 183)
 have h1 := (MapKept.heap_alloc w (.cells #[.string s, .int .i64 0] 183)).1
 have h2 := allocSize w (.cells #[.string s, .int .i64 0] 183)
 have HA : Hid _ := hA
 have H1 : Hid _ := h1
 have H2 : Hid _ := h2
 clear hA h1 h2
 go_enter Tryz.func74, Tryz.ntmps74
 go_wp2
 go_ret
 exact ⟨rfl, H1.out, H2.out, HA.out⟩
def listE (s : List UInt8) : List (List UInt8) × Int := match listR s with
 | .ok l [] => (l, 0)
 | .ok _ (_ :: _) => ([], 6)
 | .form => ([], 6)
 | .short => ([], 5)
def ListRetE (B : Nat) (le : List (List UInt8) × Int) (e : Ending) (w' : World) : Prop := ∃ a c, e = .returned (.tuple #[.slice a le.1.length c, .int .i64 le.2]) ∧ w'.ownsRow B 9 1 (.slice a le.1.length c) le.1.length ((le.1.map ofL).map Value.string)
theorem ownTextsH {w : World} {B : Nat} {a : Option Addr} {c : Nat} {L : List (List UInt8)} (h : w.ownsRow B 9 1 (.slice a L.length c) L.length ((L.map ofL).map Value.string)) : TextsH w a (L.map ofL) := textsH_own (b := B) (c := c) (by rw [List.length_map]; exact h)
set_option maxHeartbeats 8000000 in
theorem save_list (s : ByteArray) (w : World) (hs : s.size ≤ 1099511627776) :
  Calls Tryz.prog 31 #[.string s] w fun e w' => ListRetE w.heap.size (listE (dl s)) e w' ∧ Below w.heap.size w w' := by
 have HL : Hid (listE (dl s) = match listR (dl s) with
  | .ok l [] => (l, 0)
  | .ok _ (_ :: _) => ([], 6)
  | .form => ([], 6)
  | .short => ([], 5)) := rfl
 generalize listE (dl s) = le at HL ⊢
 go_enter Tryz.func31, Tryz.ntmps31
 go_wp2_with fail
 refine Calls.mono (code_Read s w) ?_
 rintro r w1 ⟨rfl, hr1, hz1, hb1⟩
 have HR1 : Hid (RdAt w1 w.heap.size s 0) := hr1
 have HZ1 : Hid _ := hz1
 have HB1 : Hid _ := hb1
 clear hr1 hz1 hb1
 go_wp2_with fail
 refine Calls.mono (rd_List w.heap.size s w1 HR1.out hs) ?_
 rintro r w2 ⟨hg, hw2⟩
 have HB2 : Hid (Below w.heap.size w w2) := by
  have h1 := HB1.out
  have hz := HZ1.out
  exact ⟨hw2.os.trans h1.os, hw2.tape.trans h1.tape, hw2.output.trans h1.output, Nat.le_trans h1.size hw2.size, fun k hk => (hw2.block k (by omega) (by simp; omega)).trans (h1.block k hk)⟩
 clear hw2 HR1 HB1
 have hsz := ofL_size
 cases hq : listR (dl s) with
 | ok ts l =>
  rw [hq] at hg
  obtain ⟨⟨a, c, rfl, ht⟩, hr⟩ := hg
  have ht := ownsRow_base ht (b' := w.heap.size) (by have := HZ1.out; omega)
  have HR : Hid (RdAt w2 w.heap.size (ofL l) 0) := hr
  have HT : Hid _ := ht
  cases l with
  | nil =>
   obtain rfl : le = (ts, 0) := by have := HL.out; rw [hq] at this; exact this
   clear hr ht hq HL
   go_wp2_with fail
   refine Calls.mono (rd_Err _ (ofL []) 0 _ HR.out) ?_
   rintro r w' ⟨rfl, rfl⟩
   go_wp2_with fail
   refine Calls.mono (rd_Left _ (ofL []) 0 _ HR.out) ?_
   rintro r w' ⟨rfl, rfl⟩
   have h0 : (ofL []).size = 0 := rfl
   go_wp2_with fail
   refine Calls.mono (rd_Err _ (ofL []) 0 _ HR.out) ?_
   rintro r w' ⟨rfl, rfl⟩
   go_wp2
   go_ret2
   exact ⟨⟨a, c, rfl, HT.out⟩, HB2.out⟩
  | cons x l =>
   obtain rfl : le = ([], 6) := by have := HL.out; rw [hq] at this; exact this
   clear hr ht hq HL
   go_wp2_with fail
   refine Calls.mono (rd_Err _ (ofL (x :: l)) 0 _ HR.out) ?_
   rintro r w' ⟨rfl, rfl⟩
   go_wp2_with fail
   refine Calls.mono (rd_Left _ (ofL (x :: l)) 0 _ HR.out) ?_
   rintro r w' ⟨rfl, rfl⟩
   have h0 : ((ofL (x :: l)).size : Int) > 0 := by rw [ofL_size, List.length_cons]; omega
   go_wp2
   go_ret2
   exact ⟨⟨none, 0, rfl, World.ownsRow_nil _ _ _ _⟩, HB2.out⟩
 | form =>
  rw [hq] at hg
  obtain ⟨rfl, hr⟩ := hg
  obtain rfl : le = ([], 6) := by have := HL.out; rw [hq] at this; exact this
  clear hq HL
  go_wp2_with fail
  refine Calls.mono (rd_Err _ ByteArray.empty 6 _ hr) ?_
  rintro r w' ⟨rfl, rfl⟩
  go_wp2_with fail
  refine Calls.mono (rd_Err _ ByteArray.empty 6 _ hr) ?_
  rintro r w' ⟨rfl, rfl⟩
  go_wp2
  go_ret2
  exact ⟨⟨none, 0, rfl, World.ownsRow_nil _ _ _ _⟩, HB2.out⟩
 | short =>
  rw [hq] at hg
  obtain ⟨rfl, hr⟩ := hg
  obtain rfl : le = ([], 5) := by have := HL.out; rw [hq] at this; exact this
  clear hq HL
  go_wp2_with fail
  refine Calls.mono (rd_Err _ ByteArray.empty 5 _ hr) ?_
  rintro r w' ⟨rfl, rfl⟩
  go_wp2_with fail
  refine Calls.mono (rd_Err _ ByteArray.empty 5 _ hr) ?_
  rintro r w' ⟨rfl, rfl⟩
  go_wp2
  go_ret2
  exact ⟨⟨none, 0, rfl, World.ownsRow_nil _ _ _ _⟩, HB2.out⟩
end Go.Proofs.W
