/- A PART OF THE PROOF THAT WORKMAKES HOLDS FOR EVERY INPUT OF BULK AT MOST 1048576. No condition beyond the given statement. This part: WR02. -/
import Derived.Test.YthodcfgoeffbdaaGreatDoorWHead
import Derived.Test.YthodcfgoeffbdaaGreatDoorNodesLaw
import Derived.Deep.LoopGhost
import Derived.Test.YthodcfgoeffbdaaGreatDoorWFile
namespace Go.Proofs.W
open Go Go.Proofs Go.RowKit
set_option maxRecDepth 1000000

/-- the letters of names -/
def lets : List Nat := [97, 98, 99, 100, 101, 102, 103, 104, 105, 106, 107, 108, 109, 110, 111, 112, 113, 114, 115, 116, 117, 118, 119, 120, 121, 122, 48, 49, 50, 51, 52, 53, 54, 55, 56, 57, 46, 95, 45]
def letsB : ByteArray := ⟨#[97, 98, 99, 100, 101, 102, 103, 104, 105, 106, 107, 108, 109, 110, 111, 112, 113, 114, 115, 116, 117, 118, 119, 120, 121, 122, 48, 49, 50, 51, 52, 53, 54, 55, 56, 57, 46, 95, 45]⟩
theorem letsB_size : letsB.size = 39 := rfl
theorem letsB_get {i : Nat} (h : i < letsB.size) : (letsB[i]'h).toNat = lets.getD i 0 := by
  have : ∀ i : Fin letsB.size, (letsB[i.1]'i.2).toNat = lets.getD i.1 0 := by decide
  exact this ⟨i, h⟩
theorem badR_lets : ∀ c, c < 256 → (badR c = false ↔ ∃ i, i < 39 ∧ lets.getD i 0 = c) := by
  have h1 : ∀ c : Fin 256, badR c.1 = !lets.contains c.1 := by decide
  intro c hc
  rw [h1 ⟨c, hc⟩]
  simp only [Bool.not_eq_false', List.contains_iff_mem]
  constructor
  · intro h
    obtain ⟨i, hi, he⟩ := List.getElem_of_mem h
    have hi' : i < 39 := hi
    exact ⟨i, hi', by rw [List.getD_eq_getElem?_getD, List.getElem?_eq_getElem hi]; exact he⟩
  · rintro ⟨i, hi, rfl⟩
    have hi' : i < lets.length := hi
    rw [List.getD_eq_getElem?_getD, List.getElem?_eq_getElem hi']
    exact List.getElem_mem hi'

set_option maxHeartbeats 4000000 in
theorem R02_letter (k : Nat) (hk : k < 256) (w : World) : Calls Tryz.prog 180 #[.int .u8 (k : Int)] w fun e w' => e = .returned (.bool (!badR k)) ∧ w' = w := by
  go_enter Tryz.func180, Tryz.ntmps180
  go_wp2
  go_loop [4] (fun x => ∃ i : Nat, i ≤ 39 ∧ x = .int .i64 i ∧ ∀ j, j < i → lets.getD j 0 ≠ k) (fun x => 39 - (intOf x).toNat)
  case atStart => exact ⟨0, Nat.zero_le _, rfl, fun j hj => absurd hj (Nat.not_lt_zero _)⟩
  case round =>
    obtain ⟨i, hi, rfl, hno⟩ := hrel
    by_cases hlt : i < 39
    · have hlt' : (i : Int) < 39 := by omega
      have hnn : ¬ (i : Int) < 0 := by omega
      have hnn0 : (0 : Int) ≤ (i : Int) := by omega
      go_wp2
      · rename_i hq _
        have hq2 : (((letsB[i]'hlt).toNat : Int) == (k : Int)) = true := hq
        rw [letsB_get hlt] at hq2
        go_ret
        refine ⟨?_, rfl⟩
        have hb : badR k = false := (badR_lets k hk).2 ⟨i, hlt, by have := of_decide_eq_true hq2; omega⟩
        rw [hb]
        rfl
      · rename_i hq
        have hq2 : (((letsB[i]'hlt).toNat : Int) == (k : Int)) = false := hq
        rw [letsB_get hlt] at hq2
        go_round
        case rel => exact ⟨i + 1, by omega, by push_cast; rfl, fun j hj => by
          by_cases e : j = i
          · subst e; have := of_decide_eq_false hq2; omega
          · exact hno j (by omega)⟩
        case measure => simp [intOf]; omega
    · have hlt' : ¬ (i : Int) < 39 := by omega
      go_wp2
      go_ret
      refine ⟨?_, rfl⟩
      have : badR k = true := by
        cases h : badR k with
        | true => rfl
        | false =>
          obtain ⟨j, hj, e⟩ := (badR_lets k hk).1 h
          exact absurd e (hno j (by omega))
      rw [this]; rfl

theorem get!_eq (s : ByteArray) (i : Nat) (h : i < s.size) : s.get! i = s[i]'h := by
  cases s with
  | mk d => simp [ByteArray.get!, ByteArray.getElem_eq_getElem_data, show i < d.size from h]

set_option maxHeartbeats 4000000 in
theorem R02_Right (s : ByteArray) (w : World) (hs : s.size < 9223372036854775808) : Calls Tryz.prog 124 #[.string s] w fun e w' => e = .returned (.bool (nameR s)) ∧ w' = w := by
  go_enter Tryz.func124, Tryz.ntmps124
  go_wp2
  go_loop [3] (fun x => ∃ i : Nat, i ≤ s.size ∧ x = .int .i64 i ∧ ∀ j, j < i → badR (s.get! j).toNat = false) (fun x => s.size - (intOf x).toNat)
  case atStart => exact ⟨0, Nat.zero_le _, rfl, fun j hj => absurd hj (Nat.not_lt_zero _)⟩
  case round =>
    obtain ⟨i, hi, rfl, hno⟩ := hrel
    by_cases hlt : i < s.size
    · have hlt' : (i : Int) < (s.size : Int) := by omega
      have hnn : ¬ (i : Int) < 0 := by omega
      have hnn0 : (0 : Int) ≤ (i : Int) := by omega
      have hcall := R02_letter (s[i]'hlt).toNat (UInt8.toNat_lt _) w
      have hget := get!_eq s i hlt
      cases hb : badR (s[i]'hlt).toNat with
      | true =>
        rw [hb] at hcall
        go_wp2_with (go_at_call 180; refine hcall.mono ?_; rintro e w' ⟨rfl, rfl⟩)
        go_ret
        refine ⟨?_, rfl⟩
        have hf : nameR s = false := by
          cases hn : nameR s with
          | false => rfl
          | true =>
            have := ((nameR_iff s).1 hn).2.2.2.2 i (Nat.zero_le _) hlt
            rw [hget, hb] at this
            cases this
        rw [hf]
        rfl
      | false =>
        rw [hb] at hcall
        go_wp2_with (go_at_call 180; refine hcall.mono ?_; rintro e w' ⟨rfl, rfl⟩)
        go_round
        case rel => exact ⟨i + 1, by omega, by push_cast; rfl, fun j hj => by
          by_cases e : j = i
          · subst e; rw [hget]; exact hb
          · exact hno j (by omega)⟩
        case measure => simp [intOf]; omega
    · have hlt' : ¬ (i : Int) < (s.size : Int) := by omega
      have hgood : goodFrom s 0 := fun j _ hj => hno j (by omega)
      cases h1 : decide ((1 : Int) ≤ (s.size : Int)) <;> cases h2 : decide ((s.size : Int) ≤ 40) <;> cases h3 : (s.toList == [46]) <;> cases h4 : (s.toList == [46, 46])
      all_goals
        go_wp2
        go_ret
        refine ⟨?_, rfl⟩
        rw [nameR_good hgood, h1, h2, h3, h4]
        rfl
end Go.Proofs.W
namespace Go.Proofs.W
open Go Go.Proofs Go.RowKit
open Go.Proofs.Np (cutB)
set_option maxRecDepth 1000000

set_option maxHeartbeats 16000000 in
/-- R05.Names at a path -/
theorem R05_Names (p : ByteArray) (w : World) (hp : pathR p = true) :
    Calls Tryz.prog 72 #[.string p] w fun e w' => (∃ v, e = .returned v ∧ OwnT w.heap.size w' v (splitP p)) ∧ Below w.heap.size w w' := by
  obtain ⟨q1, q2, q3, q4⟩ := pathR_names hp
  rw [q4]
  have hsz : ¬ (200 : Int) < (p.size : Int) := by omega
  have Q2 : Hid _ := q2
  have Q3 : Hid _ := q3
  have Q1 : Hid _ := q1
  clear q2 q3 q4 q1 hp
  go_enter Tryz.func72, Tryz.ntmps72
  go_wp2
  clear hsz
  go_loopg [3, 4, 5] (p.size + 1) (fun kx s3 s4 s5 wr => ∃ (i q : Nat) (a : Option Addr) (c : Nat) (out : List ByteArray), s3 = .slice a out.length c ∧ s4 = .int .i64 q ∧ s5 = .int .i64 i ∧ i ≤ p.size + 1 ∧ q ≤ i ∧ p.size + 1 - i ≤ kx ∧ Hid (CutTo p i q out ∧ (i = p.size + 1 → q = p.size + 1) ∧ OwnT w.heap.size wr (.slice a out.length c) out ∧ Below w.heap.size w wr))
  case atStart => exact ⟨0, 0, none, 0, [], rfl, rfl, rfl, by omega, Nat.le_refl _, by omega, CutTo.start p, fun h => absurd h (by omega), OwnT.nil _ _, Below.refl _ _⟩
  case round =>
    obtain ⟨i, q, a, c, out, rfl, rfl, rfl, hi, hqi, hkx, REL⟩ := hrel
    have hsz := Q1.out
    have hnn : ¬ (i : Int) < 0 := by omega
    have hnn0 : (0 : Int) ≤ (i : Int) := by omega
    have hqn : ¬ (q : Int) < 0 := by omega
    have hqn0 : (0 : Int) ≤ (q : Int) := by omega
    have hqi' : (q : Int) ≤ (i : Int) := by omega
    by_cases hlt : i < p.size
    · have h1 : (i : Int) ≤ (p.size : Int) := by omega
      have h2 : (i : Int) < (p.size : Int) := by omega
      have hget := get!_eq p i hlt
      by_cases h47 : p[i]'hlt = 47
      · have hb : ((p[i]'hlt).toNat : Int) = 47 := by rw [h47]; rfl
        obtain ⟨r1, r2, r3, r4⟩ := REL.out
        obtain ⟨s1, s2⟩ := r1.put hlt h47
        have hn := Q3.out _ s2
        have hcall := R02_Right (p.extract q i) wr (by rw [ByteArray.size_extract]; omega)
        rw [hn] at hcall
        have hlen : (out ++ [p.extract q i]).length ≤ 201 := by
          rcases s1.cut with ⟨_, e⟩ | ⟨_, e⟩
          · have := congrArg List.length e
            rw [List.length_append] at this
            have := Q2.out
            omega
          · rw [← e]; have := Q2.out; omega
        rw [List.length_append, List.length_singleton] at hlen
        have HC : Hid _ := hcall
        have HS : Hid _ := s1
        clear hcall s1 s2 hn r1 r2 r3 r4 h47
        go_wp2_with fail
        refine Calls.mono HC.out ?_
        rintro e w2 ⟨rfl, rfl⟩
        obtain ⟨r1, r2, r3, r4⟩ := REL.out
        have hsr := r4.size
        go_wp2_with (at_builtin; refine wpList_append_texts _ rfl (.tmp 31) (.tmp 36) rfl w.heap.size _ out rfl (r3.kept (belowAlloc _ _)) _ [p.extract q i] rfl (srcOne _ _ _) ?len ?base ?_)
        case len => simp; omega
        case base => rw [show (w2.alloc _).heap.size = w2.heap.size + 1 by simp]; omega
        intro v1 w1 hown1 hg1
        obtain ⟨a1, c1, rfl, _⟩ := hown1.shape
        have HB : Hid _ := belowGrown (belowTrans r4 (belowAlloc _ _)) (Nat.le_refl _) (by simp; omega) (r3.kept (belowAlloc _ _)) hg1
        have HO : Hid _ := hown1
        clear hown1 hg1 r1 r2 r3 r4 REL
        go_wp2
        go_roundg (p.size + 1 - (i + 1))
        case measure => omega
        case rel => exact ⟨i + 1, i + 1, _, _, _, rfl, by go_num, by go_num, by omega, Nat.le_refl _, Nat.le_refl _, HS.out, fun h => by omega, HO.out, HB.out⟩
      · have hb : ¬ ((p[i]'hlt).toNat : Int) = 47 := fun e => h47 (UInt8.toNat_inj.1 (by show _ = 47; omega))
        obtain ⟨r1, r2, r3, r4⟩ := REL.out
        have HS : Hid _ := r1.on hlt h47
        have HO : Hid _ := r3
        have HB : Hid _ := r4
        clear r1 r2 r3 r4 REL h47
        go_wp2
        go_roundg (p.size + 1 - (i + 1))
        case measure => omega
        case rel => exact ⟨i + 1, q, a, c, out, rfl, rfl, by go_num, by omega, by omega, Nat.le_refl _, HS.out, fun h => absurd h (by omega), HO.out, HB.out⟩
    · by_cases he : i = p.size
      · subst he
        have h1 : (p.size : Int) ≤ (p.size : Int) := Int.le_refl _
        have h2 : ¬ (p.size : Int) < (p.size : Int) := by omega
        obtain ⟨r1, r2, r3, r4⟩ := REL.out
        obtain ⟨s1, s2⟩ := r1.last
        have hn := Q3.out _ s2
        have hcall := R02_Right (p.extract q p.size) wr (by rw [ByteArray.size_extract]; omega)
        rw [hn] at hcall
        have hlen : (out ++ [p.extract q p.size]).length ≤ 201 := by
          rw [← s1.all rfl]; have := Q2.out; omega
        rw [List.length_append, List.length_singleton] at hlen
        have HC : Hid _ := hcall
        have HS : Hid _ := s1
        clear hcall s1 s2 hn r1 r2 r3 r4
        go_wp2_with fail
        refine Calls.mono HC.out ?_
        rintro e w2 ⟨rfl, rfl⟩
        obtain ⟨r1, r2, r3, r4⟩ := REL.out
        have hsr := r4.size
        go_wp2_with (at_builtin; refine wpList_append_texts _ rfl (.tmp 31) (.tmp 36) rfl w.heap.size _ out rfl (r3.kept (belowAlloc _ _)) _ [p.extract q p.size] rfl (srcOne _ _ _) ?len ?base ?_)
        case len => simp; omega
        case base => rw [show (w2.alloc _).heap.size = w2.heap.size + 1 by simp]; omega
        intro v1 w1 hown1 hg1
        obtain ⟨a1, c1, rfl, _⟩ := hown1.shape
        have HB : Hid _ := belowGrown (belowTrans r4 (belowAlloc _ _)) (Nat.le_refl _) (by simp; omega) (r3.kept (belowAlloc _ _)) hg1
        have HO : Hid _ := hown1
        clear hown1 hg1 r1 r2 r3 r4 REL
        go_wp2
        go_roundg (p.size + 1 - (p.size + 1))
        case measure => omega
        case rel => exact ⟨p.size + 1, p.size + 1, _, _, _, rfl, by go_num, by go_num, by omega, Nat.le_refl _, Nat.le_refl _, HS.out, fun h => by omega, HO.out, HB.out⟩
      · have h1 : ¬ (i : Int) ≤ (p.size : Int) := by omega
        obtain ⟨r1, r2, r3, r4⟩ := REL.out
        have hall := r1.all (r2 (by omega))
        have hlen : ¬ (16 : Int) < (out.length : Int) := by rw [← hall]; have := Q2.out; omega
        have HR : Hid (OwnT w.heap.size wr (.slice a out.length c) (cutB p)) := by show OwnT _ _ _ _; rw [hall]; exact r3
        have HB : Hid _ := r4
        clear r1 r2 r3 r4 REL hall
        go_wp2
        go_ret
        exact ⟨⟨_, rfl, HR.out⟩, HB.out⟩
end Go.Proofs.W
namespace Go.Proofs.W
open Go Go.Proofs Go.RowKit Go.Op
open Go.Proofs.Np (cutB)
set_option maxRecDepth 1000000

theorem splitP_pos {p : ByteArray} (h : pathR p = true) : 0 < (splitP p).length ∧ (splitP p).length ≤ 16 := by
  obtain ⟨_, h2, _, h4⟩ := pathR_names h
  refine ⟨?_, by rw [h4]; exact h2⟩
  cases e : splitP p with
  | nil => rw [splitP_nil.1 e] at h; cases h
  | cons _ _ => simp

set_option maxHeartbeats 16000000 in
/-- R05.Less at two paths -/
theorem R05_Less (x y : ByteArray) (w : World) (hx : pathR x = true) (hy : pathR y = true) :
    Calls Tryz.prog 33 #[.string x, .string y] w fun e w' => e = .returned (.bool (pathLess x y)) ∧ Below w.heap.size w w' := by
  obtain ⟨px, px2⟩ := splitP_pos hx
  obtain ⟨py, py2⟩ := splitP_pos hy
  have hn1 := R05_Names x w hx
  have HN : Hid _ := hn1
  have HD : Hid (∀ {i : Nat} {a b : ByteArray}, (splitP x).take i = (splitP y).take i → (splitP x)[i]? = some a → (splitP y)[i]? = some b → a ≠ b → pathLess x y = bytesLess a.toList b.toList) := fun h ha hb hne => less_diff hx h ha hb hne
  have HE : Hid (∀ {i : Nat}, (splitP x).take i = (splitP y).take i → (i = (splitP x).length ∨ i = (splitP y).length) → pathLess x y = decide ((splitP x).length < (splitP y).length)) := fun h he => less_end hx h he
  have HY : Hid _ := fun w => R05_Names y w hy
  clear hn1 hx hy
  generalize pathLess x y = res at HD HE ⊢
  generalize splitP x = xs at *
  generalize splitP y = ys at *
  go_enter Tryz.func33, Tryz.ntmps33
  go_wp2_with fail
  refine Calls.mono HN.out ?_
  rintro e w2 ⟨⟨v, rfl, ho1⟩, hb2⟩
  obtain ⟨a1, c1, rfl, hT1⟩ := ho1.H
  have HT1 : Hid (∀ w', Below w2.heap.size w2 w' → TextsH w' a1 xs) := fun w' hb => hT1.below hb
  have HB2 : Hid _ := hb2
  have hn2 := HY.out w2
  have HN2 : Hid _ := hn2
  clear hn2 hb2 ho1 hT1
  go_wp2_with fail
  refine Calls.mono HN2.out ?_
  rintro e w3 ⟨⟨v, rfl, ho2⟩, hb3⟩
  obtain ⟨a2, c2, rfl, hT2⟩ := ho2.H
  have hT1 := HT1.out w3 hb3
  have HB3 : Hid (Below w.heap.size w w3) := belowTrans HB2.out hb3
  clear hb3 ho2 HT1
  have hx0 : ¬ xs = [] := List.ne_nil_of_length_pos px
  have hx1 : ((xs.length : Int) == 0) = false := by
    cases h : ((xs.length : Int) == 0) with
    | false => rfl
    | true => have := beq_iff_eq.1 h; omega
  go_wp2
  go_loopg [7] xs.length (fun kx s7 wr => ∃ i : Nat, s7 = .int .i64 i ∧ i ≤ xs.length ∧ i ≤ ys.length ∧ xs.length - i ≤ kx ∧ Hid (xs.take i = ys.take i ∧ Below w3.heap.size w3 wr))
  case atStart => exact ⟨0, rfl, Nat.zero_le _, Nat.zero_le _, Nat.le_refl _, rfl, Below.refl _ _⟩
  case round =>
    obtain ⟨i, rfl, hi, hi2, hkx, REL⟩ := hrel
    by_cases hlt : i < xs.length ∧ i < ys.length
    · obtain ⟨h1, h2⟩ := hlt
      obtain ⟨b, o, rfl, hN⟩ : ∃ b o, a1 = some ⟨b, o, none⟩ ∧ TextsAt w3 b o xs := hT1.resolve_left (by omega)
      obtain ⟨b2, o2, rfl, hN2⟩ : ∃ b o, a2 = some ⟨b, o, none⟩ ∧ TextsAt w3 b o ys := hT2.resolve_left (by omega)
      obtain ⟨X, hd⟩ : ∃ X, xs[i]? = some X := ⟨_, List.getElem?_eq_getElem h1⟩
      obtain ⟨Y, hd2⟩ : ∃ Y, ys[i]? = some Y := ⟨_, List.getElem?_eq_getElem h2⟩
      have e0 := (hN.below REL.out.2).cell i _ hd
      have e1 := (hN2.below REL.out.2).cell i _ hd2
      have hiz1 : (i : Int) < (xs.length : Int) := by omega
      have hiz2 : (i : Int) < (ys.length : Int) := by omega
      have hnn : ¬ (i : Int) < 0 := by omega
      have hnn0 : (0 : Int) ≤ (i : Int) := by omega
      have HQ : Hid (∀ k, Below w3.heap.size w3 (wr.drewN k)) := fun k => belowTrans REL.out.2 (belowDrew _ _)
      have HXY : Hid _ := toList_eq_iff X Y
      have H1 : Hid _ := hd
      have H2 : Hid _ := hd2
      clear hN hN2 hd hd2
      cases hq : (X.toList == Y.toList)
      · have hne : X ≠ Y := fun e => by have := HXY.out; rw [hq, decide_eq_true e] at this; cases this
        have hr := HD.out REL.out.1 H1.out H2.out hne
        have HR : Hid _ := hr
        clear hr hne
        go_wp2_with fail
        go_quiet (fail)
        go_wp2_with fail
        go_quiet (fail)
        go_wp2
        go_ret
        exact ⟨by rw [HR.out]; rfl, belowTrans HB3.out (belowTrans (HQ.out _) (belowDrew _ _))⟩
      · have he : X = Y := by have := HXY.out; rw [hq] at this; exact of_decide_eq_true this.symm
        go_wp2_with fail
        go_quiet (fail)
        go_wp2
        go_roundg (xs.length - (i + 1))
        case measure => omega
        case rel => exact ⟨i + 1, by go_num, by omega, by omega, Nat.le_refl _, by rw [List.take_add_one, List.take_add_one, REL.out.1, H1.out, H2.out, he], HQ.out _⟩
    · have hr := HE.out REL.out.1 (by omega)
      have HR : Hid _ := hr
      have HB : Hid _ := belowTrans HB3.out REL.out.2
      clear hr
      by_cases h1 : i < xs.length
      · have hiz1 : (i : Int) < (xs.length : Int) := by omega
        have hiz2 : ¬ (i : Int) < (ys.length : Int) := by omega
        go_wp2
        go_ret
        refine ⟨?_, HB.out⟩
        rw [HR.out]
        simp
      · have hiz1 : ¬ (i : Int) < (xs.length : Int) := by omega
        go_wp2
        go_ret
        refine ⟨?_, HB.out⟩
        rw [HR.out]
        simp
end Go.Proofs.W
