/- A PART OF THE PROOF THAT SAVETEXTS HOLDS FOR EVERY INPUT OF BULK AT MOST 1048576. No condition beyond the given statement. This part: WCode. -/
import Derived.Test.YtciahohaonhdgaaGreatDoorWHead
import Derived.Test.YtciahohaonhdgaaGreatDoorNodesLaw
import Derived.Deep.LoopGhost
import Derived.Laws.BytesArg
import Derived.Laws.IdiomStrings
import Derived.Laws.Bits64b
import Derived.Test.YtciahohaonhdgaaGreatDoorRegRG
namespace Go.Proofs.W
open Go Go.Proofs Go.RowKit Go.Op
set_option maxRecDepth 1000000
def ofL (l : List UInt8) : ByteArray := ⟨l.toArray⟩
theorem ofL_data (s : ByteArray) : ofL s.data.toList = s := by cases s; rfl
theorem ofL_size (l : List UInt8) : (ofL l).size = l.length := by simp [ofL, ByteArray.size]
theorem ofL_app (a b : List UInt8) : ofL a ++ ofL b = ofL (a ++ b) := by
 apply ByteArray.ext
 simp [ofL]
def cellsB (l : List UInt8) : List Value := l.map fun b => .int .u8 (b.toNat : Int)
theorem cellsB_len (l : List UInt8) : (cellsB l).length = l.length := by simp [cellsB]
theorem numB_len : ∀ (k n : Nat), 0 < k → n < 128 ^ k → (numB n).length ≤ k
 | 0, _, h, _ => absurd h (by decide)
 | k + 1, n, _, h => by
  by_cases hs : n < 128
  ·rw [numB_small hs]; simp
  ·rw [numB_big hs, List.length_cons]
   have hk : 0 < k := by
    rcases Nat.eq_zero_or_pos k with h0 | h0
    ·subst h0; omega
    ·exact h0
   have := numB_len k (n / 128) hk (by rw [Nat.pow_succ] at h; omega)
   omega
theorem numB_len64 {n : Nat} (h : n < 18446744073709551616) : (numB n).length ≤ 10 := numB_len 10 n (by decide) (Nat.lt_of_lt_of_le h (by decide))
theorem or128 {k : Nat} (h : k < 256) : bits .or .u8 (k : Int) 128 = ((k % 128 + 128 : Nat) : Int) := by
 have H : (List.range 256).all (fun k => decide (bits .or .u8 (k : Int) 128 = ((k % 128 + 128 : Nat) : Int))) = true := by kernel_rfl
 exact of_decide_eq_true (List.all_eq_true.1 H k (List.mem_range.2 h))
theorem byte_more (m : Nat) : bits .or .u8 ((m : Int) % 256) 128 = ((UInt8.ofNat (m % 128 + 128)).toNat : Int) := by
 have e : ((m : Int) % 256) = ((m % 256 : Nat) : Int) := by omega
 rw [e, or128 (Nat.mod_lt _ (by decide)), toNat_ofNat (by omega)]
 omega
theorem byte_last {m : Nat} (h : m < 128) : ((m : Int) % 256) = ((UInt8.ofNat m).toNat : Int) := by
 rw [toNat_ofNat (by omega)]
 omega
theorem ownB_text {w : World} {base n : Nat} {v : Value} {l : List UInt8} (h : w.ownsRow base 5 1 v n (cellsB l)) (hne : l ≠ []) : ∃ g c, v = .slice (some ⟨g, 0, none⟩) n c ∧ (Go.convert 99 9 (.slice (some ⟨g, 0, none⟩) n c)).run Tryz.prog w = .ok (.string (ofL l)) w := by
 have hl : l.length = n := by have := h.1; rw [cellsB_len] at this; omega
 rcases h.2 with ⟨_, h0⟩ | ⟨g, cap, cur, rfl, hg, hh, _, _, _, ht⟩
 ·exact absurd (List.eq_nil_of_length_eq_zero (by omega)) hne
 ·refine ⟨g, cap, rfl, ?_⟩
  have := run_convert_bytes_back (P := Tryz.prog) w 99 9 5 ⟨g, 0, none⟩ cap l Tryz.underlying99 Tryz.underlying5 Tryz.underlying9 (fun j hj => by
   rw [Addr.add_lit, Nat.zero_add]
   have h1 : (cellsB l)[j]? = some (.int .u8 (l[j].toNat : Int)) := by simp [cellsB, hj]
   rw [← ht, List.getElem?_take] at h1
   split at h1
   ·rw [Array.getElem?_toList] at h1
    simp [World.cell?, hh, h1]
   ·cases h1)
  rw [hl] at this
  exact this
theorem info_byte : ∃ i, Tryz.prog.info? 5 = some i ∧ i.zero = some (.int .u8 0) ∧ i.size = 1 ∧ i.bytes = 1 := info_parts (show (Tryz.prog.info? 5).map (fun i => (i.zero, i.size, i.bytes)) = some (some (.int .u8 0), 1, 1) by kernel_rfl)
set_option maxHeartbeats 4000000 in
theorem code_Num (n : Nat) (w : World) (hn : n < 18446744073709551616) :
  Calls Tryz.prog 78 #[.int .u64 n] w fun e w' => e = .returned (.string (ofL (numB n))) ∧ Below w.heap.size w w' := by
 obtain ⟨io, hio, hz0, hz1, hz2⟩ := info_byte
 go_enter Tryz.func78, Tryz.ntmps78
 go_wp2
 go_loopg [0, 3] n (fun kx s0 s3 wr => ∃ (m : Nat) (L : List UInt8) (c : Nat) (a : Option Addr), s0 = .int .u64 m ∧ s3 = .slice a L.length c ∧ m ≤ n ∧ m ≤ kx ∧ Hid (L ++ numB m = numB n ∧ wr.ownsRow w.heap.size 5 1 (.slice a L.length c) L.length (cellsB L) ∧ Below w.heap.size w wr))
 case atStart =>
  exact ⟨n, [], 0, none, rfl, rfl, Nat.le_refl _, Nat.le_refl _, rfl, World.ownsRow_nil _ _ _ _, Below.refl _ _⟩
 case round =>
  obtain ⟨m, L, c, a, rfl, rfl, hmn, hmk, REL⟩ := hrel
  have hLl : L.length ≤ 10 := by
   have h1 := REL.out.1
   have h2 := numB_len64 hn
   rw [← h1, List.length_append] at h2
   omega
  obtain ⟨r1, r2, r3⟩ := REL.out
  have hm64 : m < 18446744073709551616 := by omega
  by_cases hge : (m : Int) ≥ 128
  ·go_wp2_with (at_builtin; refine wpList_append_src _ rfl (.tmp 6) (.tmp 10) 99 rfl w.heap.size 5 io _ 1 _ Tryz.underlying99 hio hz0 hz1 hz2 rfl (by decide) _ L.length _ rfl (r2.alloc _) _ 1 [.int .u8 (UInt8.ofNat (m % 128 + 128)).toNat] rfl (.inr ⟨_, _, rfl, rfl, ?src⟩) ?one ?len3 ?bytes3 ?base3 ?_)
   case src =>
    intro j u hu
    rw [Addr.add_lit, cell_new2 _ _ rfl, byte_more]
    simpa using hu
   case one =>
    intro u hu
    obtain rfl := List.mem_singleton.1 hu
    rfl
   case len3 => unfold maxLen; omega
   case bytes3 => omega
   case base3 => have := r3.size; rw [allocSize]; omega
   intro v' w' hown' hg _
   have hb7 : Below w.heap.size w w' := (r3.alloc r3.size _).grown hg (by rw [allocSize]; have := r3.size; omega) (fun k hk => (r2.lt k hk).1)
   have hown : w'.ownsRow w.heap.size 5 1 v' (L ++ [UInt8.ofNat (m % 128 + 128)]).length (cellsB (L ++ [UInt8.ofNat (m % 128 + 128)])) := by
    unfold cellsB
    rw [List.length_append, List.map_append]
    exact hown'
   obtain ⟨ta, tc, rfl⟩ := ownShape hown
   have HR : Hid ((L ++ [UInt8.ofNat (m % 128 + 128)]) ++ numB (m / 128) = numB n ∧ w'.ownsRow w.heap.size 5 1 (.slice ta (L ++ [UInt8.ofNat (m % 128 + 128)]).length tc) (L ++ [UInt8.ofNat (m % 128 + 128)]).length (cellsB (L ++ [UInt8.ofNat (m % 128 + 128)])) ∧ Below w.heap.size w w') := by
    refine ⟨?_, hown, hb7⟩
    rw [← r1, numB_big (show ¬ m < 128 by omega), List.append_assoc, List.singleton_append]
   clear hown hown' hg hb7 r1 r2 r3 REL
   go_wp2
   go_roundg (m / 128)
   case measure => omega
   case rel => exact ⟨m / 128, _, tc, ta, by go_num, rfl, by omega, Nat.le_refl _, HR.out⟩
  ·go_wp2_with (at_builtin; refine wpList_append_src _ rfl (.tmp 14) (.tmp 17) 99 rfl w.heap.size 5 io _ 1 _ Tryz.underlying99 hio hz0 hz1 hz2 rfl (by decide) _ L.length _ rfl (r2.alloc _) _ 1 [.int .u8 (UInt8.ofNat m).toNat] rfl (.inr ⟨_, _, rfl, rfl, ?src⟩) ?one ?len3 ?bytes3 ?base3 ?_)
   case src =>
    intro j u hu
    have e : ((m : Int) % 256) = (m : Int) := by omega
    rw [e] at hu
    exact hu
   case one =>
    rfl
   case len3 => unfold maxLen; omega
   case bytes3 => omega
   case base3 => have := r3.size; omega
   intro v' w' hown' hg _
   have hb7 : Below w.heap.size w w' := (r3.alloc r3.size _).grown hg (by rw [allocSize]; have := r3.size; omega) (fun k hk => (r2.lt k hk).1)
   have hown : w'.ownsRow w.heap.size 5 1 v' (L.length + 1) (cellsB (numB n)) := by
    rw [← r1, numB_small (show m < 128 by omega)]
    unfold cellsB
    rw [List.map_append]
    exact hown'
   obtain ⟨g, tc, rfl, hcv⟩ := ownB_text hown (numB_ne n)
   have HB : Hid _ := hb7
   clear hown hown' hg hb7 r1 r2 r3 REL
   go_wp2
   go_ret
   exact ⟨rfl, HB.out⟩
end Go.Proofs.W
namespace Go.Proofs.W
open Go Go.Proofs Go.RowKit
set_option maxRecDepth 1000000
def NV (n : Nat) (i : Nat) (v : Value) (W : World) : Prop := match i with
 | 0 => v = .int .u64 n
 | 1 => v = .int .u64 ((n : Int) % 128)
 | 2 => v = .int .u64 (128 + (n : Int) % 128)
 | 3 => v = .int .u8 ((UInt8.ofNat (n % 128 + 128)).toNat : Int)
 | 4 => ∃ g c, v = .slice (some ⟨g, 0, none⟩) 1 c ∧ W.heap[g]? = some (.cells #[.int .u8 ((UInt8.ofNat (n % 128 + 128)).toNat : Int)] 5 (0, 0))
 | 5 => v = .string (ofL [UInt8.ofNat (n % 128 + 128)])
 | 6 => v = .int .u64 n
 | 7 => v = .int .u64 ((n / 128 : Nat) : Int)
 | 8 => v = .string (ofL (numB (n / 128)))
 | _ => True
theorem NV.below {n : Nat} {W W' : World} (hb : Below W.heap.size W W') (j : Nat) (u : Value) (h : NV n j u W) : NV n j u W' := by
 unfold NV at h ⊢
 split at h
 any_goals exact h
 obtain ⟨g, c, e, h1⟩ := h
 exact ⟨g, c, e, (hb.block g (Array.getElem?_eq_some_iff.1 h1).1).trans h1⟩
theorem one_text (w : World) (g c : Nat) (b : UInt8) (h : w.heap[g]? = some (.cells #[.int .u8 (b.toNat : Int)] 5 (0, 0))) : (Go.convert 99 9 (.slice (some ⟨g, 0, none⟩) 1 c)).run Tryz.prog w = .ok (.string (ofL [b])) w := by
 have := run_convert_bytes_back (P := Tryz.prog) w 99 9 5 ⟨g, 0, none⟩ c [b] Tryz.underlying99 Tryz.underlying5 Tryz.underlying9 (fun j hj => by
  have : j = 0 := by simp at hj; omega
  subst this
  simp [World.cell?, h, Addr.add_lit])
 exact this
set_option maxHeartbeats 8000000 in
theorem R01_Num : ∀ (n : Nat) (w : World), n < 18446744073709551616 → Calls Tryz.prog 81 #[.int .u64 n] w fun e w' => e = .returned (.string (ofL (numB n))) ∧ Below w.heap.size w w' := by
 intro n
 induction n using Nat.strongRecOn with
 | ind n ih =>
 intro w hn
 by_cases hlt : (n : Int) < 128
 ·have hbl : ((n : Int) % 256) = ((UInt8.ofNat n).toNat : Int) := byte_last (by omega)
  have hcv := one_text (w.alloc (.cells #[.int .u8 ((UInt8.ofNat n).toNat : Int)] 5)) w.heap.size 1 (UInt8.ofNat n) (MapKept.heap_alloc _ _).1
  rw [← hbl] at hcv
  have hA := belowAlloc w (.cells #[.int .u8 ((n : Int) % 256)] 5)
  have he : (n : Int) % 256 = (n : Int) := by omega
  rw [he] at hcv hA
  go_enter Tryz.func81, Tryz.ntmps81
  go_wp2
  go_ret
  rw [numB_small (by omega)]
  exact ⟨rfl, hA⟩
 have w1 : IntKind.u64.wrap (128 + (n : Int) % 128) = 128 + (n : Int) % 128 := IntWalk.u64_in _ (by omega)
 have w2 : IntKind.u8.wrap (128 + (n : Int) % 128) = ((n : Int) % 128 + 128) % 256 := by
  simp [IntKind.wrap, IntKind.bits, IntKind.signed]
  omega
 have w3 : IntKind.u64.wrap ((n : Int) / 128) = (n : Int) / 128 := IntWalk.u64_in _ (by omega)
 go_enter Tryz.func81, Tryz.ntmps81
 go_wp2_with fail
 refine wp_region_gd 9 9 19 (by kernel_rfl) ?ok ?forced rfl (fun _ => NV n) (fun W => Below w.heap.size w W) (belowDrew1 _) ?step ?fin
 case ok => kernel_rfl
 case forced => kernel_rfl
 case step =>
  intro i o hi ho L A W hLi hpre hF hJ hV
  have s0 : A.tmps[0]? = some (.int .u64 n) := hF.at (by kernel_rfl) rfl
  have hWs := hJ.size
  match i, hi with
  | 0, _ =>
   cases ho
   refine ⟨wanted_none rfl, fun K hK => rg_val (v := .int .u64 n) ?_ (hK _ _ (fun j u _ => NV.below (Below.refl _ _) j u) rfl hJ)⟩
   simp [execOp, Act.eval, go_sem, s0]
  | 1, _ =>
   cases ho
   have sx := hF.slot (i := 0) rfl (by simp) (hV 0 (hpre ⟨0, .data⟩ (by simp) rfl))
   refine ⟨wanted_none rfl, fun K hK => rg_val (v := .int .u64 ((n : Int) % 128)) ?_ (hK _ _ (fun j u _ => NV.below (Below.refl _ _) j u) rfl hJ)⟩
   simp [execOp, Act.eval, go_sem, sx, Int.tmod_eq_emod_of_nonneg (show (0 : Int) ≤ (n : Int) by omega)]
  | 2, _ =>
   cases ho
   have sx := hF.slot (i := 1) rfl (by simp) (hV 1 (hpre ⟨1, .data⟩ (by simp) rfl))
   refine ⟨wanted_none rfl, fun K hK => rg_val (v := .int .u64 (128 + (n : Int) % 128)) ?_ (hK _ _ (fun j u _ => NV.below (Below.refl _ _) j u) rfl hJ)⟩
   simp [execOp, Act.eval, go_sem, sx, w1]
  | 3, _ =>
   cases ho
   have sx := hF.slot (i := 2) rfl (by simp) (hV 2 (hpre ⟨2, .data⟩ (by simp) rfl))
   refine ⟨wanted_none rfl, fun K hK => rg_val (v := .int .u8 ((UInt8.ofNat (n % 128 + 128)).toNat : Int)) ?_ (hK _ _ (fun j u _ => NV.below (Below.refl _ _) j u) rfl hJ)⟩
   simp [execOp, Act.eval, go_sem, sx, w2]
  | 4, _ =>
   cases ho
   have sx := hF.slot (i := 3) rfl (by simp) (hV 3 (hpre ⟨3, .data⟩ (by simp) rfl))
   refine ⟨wanted_none rfl, fun K hK => rg_val (w' := W.alloc (.cells #[.int .u8 ((UInt8.ofNat (n % 128 + 128)).toNat : Int)] 5)) (v := .slice (some ⟨W.heap.size, 0, none⟩) 1 1) ?_ (hK _ _ (fun j u _ => NV.below (belowAlloc _ _) j u) ⟨_, _, rfl, (MapKept.heap_alloc _ _).1⟩ (hJ.trans ((belowAlloc _ _).mono hWs)))⟩
   simp [execOp, Act.eval, go_sem, sx]
  | 5, _ =>
   cases ho
   obtain ⟨g, c, e4, h4⟩ := hV 4 (hpre ⟨4, .data⟩ (by simp) rfl)
   have sx := hF.slot (i := 4) rfl (by simp) e4
   have hcv := one_text W g c (UInt8.ofNat (n % 128 + 128)) h4
   refine ⟨wanted_none rfl, fun K hK => rg_val (v := .string (ofL [(UInt8.ofNat (n % 128 + 128))])) ?_ (hK _ _ (fun j u _ => NV.below (Below.refl _ _) j u) rfl hJ)⟩
   simp [execOp, Act.eval, go_sem, sx, hcv]
  | 6, _ =>
   cases ho
   refine ⟨wanted_none rfl, fun K hK => rg_val (v := .int .u64 n) ?_ (hK _ _ (fun j u _ => NV.below (Below.refl _ _) j u) rfl hJ)⟩
   simp [execOp, Act.eval, go_sem, s0]
  | 7, _ =>
   cases ho
   have sx := hF.slot (i := 6) rfl (by simp) (hV 6 (hpre ⟨6, .data⟩ (by simp) rfl))
   refine ⟨wanted_none rfl, fun K hK => rg_val (v := .int .u64 ((n / 128 : Nat) : Int)) ?_ (hK _ _ (fun j u _ => NV.below (Below.refl _ _) j u) rfl hJ)⟩
   simp [execOp, Act.eval, go_sem, sx, Int.tdiv_eq_ediv_of_nonneg (show (0 : Int) ≤ (n : Int) by omega), w3]
  | 8, _ =>
   cases ho
   have sx := hF.slot (i := 7) rfl (by simp) (hV 7 (hpre ⟨7, .data⟩ (by simp) rfl))
   refine ⟨wanted_none rfl, fun K hK => rg_enter (f := 81) (args := #[.int .u64 ((n / 128 : Nat) : Int)]) (w' := W) ?_ (ih (n / 128) (by omega) W (by omega)) ?_ ?_ ?_⟩
   ·simp [Act.eval, go_sem, sx]
   ·rintro v w'' ⟨e, hb⟩
    cases e
    exact hK _ _ (fun j u _ => NV.below hb j u) rfl (hJ.trans (hb.mono hWs))
   ·rintro chain w'' ⟨e, _⟩
    cases e
   ·rintro w'' ⟨e, _⟩
    cases e
 case fin =>
  intro A W hF hJ hV
  have e5 : A.tmps.getD 14 undef = .string (ofL [UInt8.ofNat (n % 128 + 128)]) := hV 5 (by omega)
  have e8 : A.tmps.getD 17 undef = .string (ofL (numB (n / 128))) := hV 8 (by omega)
  have hsum : (ofL [UInt8.ofNat (n % 128 + 128)]).size + (ofL (numB (n / 128))).size ≤ 9223372036854775807 := by
   rw [ofL_size, ofL_size]
   have := numB_len64 (n := n / 128) (by omega)
   simp only [List.length_singleton]
   omega
  obtain ⟨x5, hx5⟩ : ∃ x, x = ofL [UInt8.ofNat (n % 128 + 128)] := ⟨_, rfl⟩
  obtain ⟨x8, hx8⟩ : ∃ x, x = ofL (numB (n / 128)) := ⟨_, rfl⟩
  rw [← hx5] at e5 hsum
  rw [← hx8] at e8 hsum
  rw [hF.lit [9, 10, 11, 12, 13, 14, 15, 16, 17, 18, 2] (by kernel_rfl)]
  simp only [relaid, List.foldl_cons, List.foldl_nil, e5, e8]
  generalize A.tmps.getD 9 undef = y9
  generalize A.tmps.getD 10 undef = y10
  generalize A.tmps.getD 11 undef = y11
  generalize A.tmps.getD 12 undef = y12
  generalize A.tmps.getD 13 undef = y13
  generalize A.tmps.getD 15 undef = y15
  generalize A.tmps.getD 16 undef = y16
  generalize A.tmps.getD 18 undef = y18
  generalize A.tmps.getD 2 undef = y2
  simp only [List.setIfInBounds_toArray, List.set_cons_succ, List.set_cons_zero, List.drop_succ_cons]
  clear hV hF e5 e8
  have HJ : Hid _ := hJ
  clear hJ
  have HX : Hid (x5 ++ x8 = ofL (numB n)) := by
   show _ = _
   rw [hx5, hx8, numB_big (n := n) (by omega), ofL_app]
   rfl
  clear hx5 hx8
  go_wp2
  go_ret
  rw [HX.out]
  exact ⟨rfl, HJ.out⟩
theorem sizeL (s : ByteArray) : s.data.toList.length = s.size := Array.length_toList
theorem textB_of (s : ByteArray) : ofL (numB s.size) ++ s = ofL (textB s.data.toList) := by
 unfold textB
 rw [← ofL_app, ofL_data, sizeL]
set_option maxHeartbeats 4000000 in
theorem R01_Text (s : ByteArray) (w : World) (hs : s.size ≤ 9223372036854775000) : Calls Tryz.prog 82 #[.string s] w fun e w' => e = .returned (.string (ofL (textB s.data.toList))) ∧ Below w.heap.size w w' := by
 have hn := R01_Num s.size w (by omega)
 have hsum : (ofL (numB s.size)).size + s.size ≤ 9223372036854775807 := by
  rw [ofL_size]
  have := numB_len64 (n := s.size) (by omega)
  omega
 go_enter Tryz.func82, Tryz.ntmps82
 go_wp2_with fail
 refine hn.mono ?_
 rintro e w1 ⟨rfl, hb⟩
 go_wp2
 go_ret
 rw [textB_of]
 exact ⟨rfl, hb⟩
set_option maxHeartbeats 4000000 in
theorem code_Text (s : ByteArray) (w : World) (hs : s.size ≤ 9223372036854775000) : Calls Tryz.prog 80 #[.string s] w fun e w' => e = .returned (.string (ofL (textB s.data.toList))) ∧ Below w.heap.size w w' := by
 have hn := code_Num s.size w (by omega)
 have hsum : (ofL (numB s.size)).size + s.size ≤ 9223372036854775807 := by
  rw [ofL_size]
  have := numB_len64 (n := s.size) (by omega)
  omega
 go_enter Tryz.func80, Tryz.ntmps80
 go_wp2_with fail
 refine hn.mono ?_
 rintro e w1 ⟨rfl, hb⟩
 go_wp2
 go_ret
 rw [textB_of]
 exact ⟨rfl, hb⟩
end Go.Proofs.W
namespace Go.Proofs.W
open Go Go.Proofs Go.RowKit Go.Op
set_option maxRecDepth 1000000
def dl (s : ByteArray) : List UInt8 := s.data.toList
theorem dl_len (s : ByteArray) : (dl s).length = s.size := sizeL s
theorem ofL_dl (s : ByteArray) : ofL (dl s) = s := ofL_data s
theorem dl_ofL (l : List UInt8) : dl (ofL l) = l := by simp [dl, ofL]
def listT (xs : List ByteArray) : List UInt8 := listB (xs.map dl)
def preT (xs : List ByteArray) (i : Nat) : List UInt8 := numB xs.length ++ ((xs.take i).map dl).flatMap textB
theorem preT_zero (xs : List ByteArray) : preT xs 0 = numB xs.length := by simp [preT]
theorem preT_all (xs : List ByteArray) : preT xs xs.length = listT xs := by simp [preT, listT, listB]
theorem preT_succ {xs : List ByteArray} {i : Nat} {x : ByteArray} (h : xs[i]? = some x) : preT xs (i + 1) = preT xs i ++ textB (dl x) := by
 unfold preT
 rw [List.take_add_one, h, Option.toList_some, List.map_append, List.flatMap_append]
 simp
theorem preT_le (xs : List ByteArray) (i : Nat) : (preT xs i).length ≤ (listT xs).length := by
 have h : ((xs.take i).map dl).flatMap textB ++ ((xs.drop i).map dl).flatMap textB = (xs.map dl).flatMap textB := by
  rw [← List.flatMap_append, ← List.map_append, List.take_append_drop]
 unfold preT listT listB
 rw [← h]
 simp only [List.length_append, List.length_map]
 omega
theorem preT_item {xs : List ByteArray} {i : Nat} {x : ByteArray} (h : xs[i]? = some x) : (preT xs i).length + (textB (dl x)).length ≤ (listT xs).length ∧ x.size ≤ (textB (dl x)).length := by
 have h1 := preT_le xs (i + 1)
 rw [preT_succ h, List.length_append] at h1
 refine ⟨h1, ?_⟩
 unfold textB
 rw [List.length_append, dl_len]
 omega
theorem listT_len (xs : List ByteArray) : xs.length ≤ (listT xs).length := by
 have := flat_len (xs.map dl)
 unfold listT listB
 rw [List.length_append]
 simp only [List.length_map] at this
 omega
set_option maxHeartbeats 400000 in
theorem R01_List (a : Option Addr) (c : Nat) (xs : List ByteArray) (w : World) (h : TextsH w a xs) (hb : (listT xs).length ≤ 70368744177664) :
  Calls Tryz.prog 33 #[.slice a xs.length c] w fun e w' => e = .returned (.string (ofL (listT xs))) ∧ Below w.heap.size w w' := by
 have hxl : xs.length ≤ 70368744177664 := Nat.le_trans (listT_len xs) hb
 have HB : Hid _ := hb
 clear hb
 have hn := R01_Num xs.length w (by omega)
 go_enter Tryz.func33, Tryz.ntmps33
 go_wp2_with fail
 refine hn.mono ?_
 rintro e w1 ⟨rfl, hb1⟩
 clear hn
 have HB1 : Hid _ := hb1
 clear hb1
 go_wp2
 go_loopg [3, 4] xs.length (fun kx s3 s4 wr => ∃ i : Nat, s3 = .string (ofL (preT xs i)) ∧ s4 = .int .i64 i ∧ i ≤ xs.length ∧ xs.length - i ≤ kx ∧ Hid (Below w.heap.size w wr))
 case atStart => exact ⟨0, by rw [preT_zero], rfl, Nat.zero_le _, Nat.le_refl _, HB1.out⟩
 case round =>
  obtain ⟨i, rfl, rfl, hin, hkx, REL⟩ := hrel
  by_cases hlt : i < xs.length
  ·obtain ⟨b, o, rfl, hN⟩ : ∃ b o, a = some ⟨b, o, none⟩ ∧ TextsAt w b o xs := h.resolve_left (by omega)
   obtain ⟨x, hx⟩ : ∃ x, xs[i]? = some x := ⟨_, List.getElem?_eq_getElem hlt⟩
   have e0 := (hN.below REL.out).cell i x hx
   have hiz : (i : Int) < (xs.length : Int) := by omega
   obtain ⟨q1, q2⟩ := preT_item hx
   have hq := HB.out
   have hR := R01_Text x wr (by omega)
   have hsum : (ofL (preT xs i)).size + (ofL (textB x.data.toList)).size ≤ 9223372036854775807 := by
    rw [ofL_size, ofL_size]
    unfold dl at q1
    omega
   have HE : Hid (Value.string (ofL (preT xs (i + 1))) = Value.string (ofL (preT xs i) ++ ofL (textB x.data.toList))) := by
    show _ = _
    rw [preT_succ hx, ofL_app]
    rfl
   have HR : Hid _ := hR
   clear hR q1 q2 hq hN hx
   go_wp2_with fail
   refine Calls.mono HR.out ?_
   rintro e w2 ⟨rfl, hb2⟩
   have HB2 : Hid (Below w.heap.size w w2) := belowTrans REL.out hb2
   clear HR hb2 e0 REL
   generalize ofL (preT xs i) = p0 at hsum HE ⊢
   generalize ofL (textB x.data.toList) = p1 at hsum HE ⊢
   go_wp2
   go_roundg (xs.length - (i + 1))
   case measure => omega
   case rel => exact ⟨i + 1, HE.out.symm, by go_num, by omega, Nat.le_refl _, HB2.out⟩
  ·have hiz : ¬ (i : Int) < (xs.length : Int) := by omega
   have hi : i = xs.length := by omega
   subst hi
   go_wp2
   go_ret
   rw [preT_all]
   exact ⟨rfl, REL.out⟩
end Go.Proofs.W
