/- A PART OF THE PROOF THAT ONE CALL OF A LAW OF LAYER 46 (which of any patches have a line with any word) returns true, whatever the input; the input reads as it did. No condition beyond the given statement. This part: WLawLF. -/
import Derived.Test.YtklmbhogclaieaaGreatDoorWFind
import Derived.Test.YtklmbhogclaieaaGreatDoorWLight
import Derived.Test.YtklmbhogclaieaaGreatDoorAwLT
namespace Go.Proofs.W
open Go Go.Proofs Go.RowKit
open Go.Proofs.Wc (HasM)
set_option maxRecDepth 1000000

/-- what the law gathers: a name for each line with the word -/
def wantL (word name : ByteArray) (ls : List ByteArray) : List ByteArray := ls.flatMap fun s => if withinB s word then [name] else []
def wantO (word name : ByteArray) (os : List OpV) : List ByteArray := os.flatMap fun o => wantL word name o.lines
def wantP (word : ByteArray) (ps : List PatchV) : List ByteArray := ps.flatMap fun p => wantO word p.name p.ops

theorem flatMap_take {α β : Type} (f : α → List β) (xs : List α) (i : Nat) (h : i < xs.length) : (xs.take (i + 1)).flatMap f = (xs.take i).flatMap f ++ f xs[i] := by
  rw [List.take_succ_eq_append_getElem h, List.flatMap_append]
  simp
theorem flatMap_len {α β : Type} (f : α → List β) (n : Nat) (xs : List α) (h : ∀ x ∈ xs, (f x).length ≤ n) : (xs.flatMap f).length ≤ xs.length * n := by
  induction xs with
  | nil => simp
  | cons x r ih =>
    have h1 := h x (by simp)
    have h2 := ih fun y hy => h y (by simp [hy])
    rw [List.flatMap_cons, List.length_append, List.length_cons, Nat.add_mul]
    omega
theorem wantL_len (word name : ByteArray) (ls : List ByteArray) : (wantL word name ls).length ≤ ls.length := by
  have := flatMap_len (fun s => if withinB s word then [name] else []) 1 ls (fun x _ => by split <;> simp)
  unfold wantL
  omega

theorem setB_congr {xs ys : List ByteArray} (h : ∀ z, z ∈ xs ↔ z ∈ ys) : setB xs = setB ys := by
  unfold setB
  congr 1
  refine rise_ext (rise_setS _) (rise_setS _) fun z => ?_
  rw [mem_setS, mem_setS, List.mem_map, List.mem_map]
  constructor
  · rintro ⟨y, hy, rfl⟩; exact ⟨y, (h y).1 hy, rfl⟩
  · rintro ⟨y, hy, rfl⟩; exact ⟨y, (h y).2 hy, rfl⟩

/-- THE PLAIN LAW -/
theorem found_want (word : ByteArray) (ps : List PatchV) : setB (foundB word ps) = setB (wantP word ps) := by
  refine setB_congr fun z => ?_
  unfold foundB wantP wantO wantL found1 hasP hasW
  simp only [List.mem_flatMap, List.any_eq_true]
  constructor
  · rintro ⟨p, hp, hz⟩
    split at hz
    · rename_i hx
      obtain ⟨o, ho, s, hs, hx⟩ := hx
      exact ⟨p, hp, o, ho, s, hs, by rw [if_pos hx]; exact hz⟩
    · cases hz
  · rintro ⟨p, hp, o, ho, s, hs, hz⟩
    refine ⟨p, hp, ?_⟩
    split at hz
    · rename_i hx
      rw [if_pos]
      · exact hz
      · exact ⟨o, ho, s, hs, hx⟩
    · cases hz

theorem wantO_len {word name : ByteArray} {os : List OpV} (h : ∀ o ∈ os, o.lines.length ≤ 60) : (wantO word name os).length ≤ os.length * 60 :=
  flatMap_len _ 60 os fun o ho => Nat.le_trans (wantL_len word name o.lines) (h o ho)
theorem wantP_len {word : ByteArray} {ps : List PatchV} (h : ∀ p ∈ ps, p.ops.length ≤ 30 ∧ ∀ o ∈ p.ops, o.lines.length ≤ 60) : (wantP word ps).length ≤ ps.length * 1800 :=
  flatMap_len _ 1800 ps fun p hp => by
    have := wantO_len (word := word) (name := p.name) (h p hp).2
    have := (h p hp).1
    omega
theorem light_ops {X : PatchV} (h : PatchLight X) : X.ops.length ≤ 30 ∧ ∀ o ∈ X.ops, o.lines.length ≤ 60 :=
  ⟨h.2.1, fun o ho => by
    obtain ⟨j, hj, rfl⟩ := List.getElem_of_mem ho
    exact ((h.2.2.2.2.2 j _ (List.getElem?_eq_getElem hj)).2).1⟩
theorem light_all {ps : List PatchV} (h : PatchesLight ps) : ∀ p ∈ ps, PatchLight p := fun p hp => by
  obtain ⟨j, hj, rfl⟩ := List.getElem_of_mem hp
  exact h.2 j _ (List.getElem?_eq_getElem hj)

set_option maxHeartbeats 32000000 in
theorem lawLF (a : Option Addr) (c : Nat) (ps : List PatchV) (word : ByteArray) (w : World) (h : PatchesH w a ps) (hlen : ps.length < 9223372036854775808) (hm : HasM w) :
    Calls Tryz.prog 4 #[.slice a ps.length c, .string word] w fun e w' => e = .returned (.bool true) ∧ Below w.heap.size w w' := by
  have haw : ∀ W, HasM W → _ := fun W hW => Go.Proofs.Wc.awakeL_calls W hW
  go_enter Tryz.func4, Tryz.ntmps4
  go_wp2_with fail
  refine (L14_Light a c ps w h hlen).mono ?_
  rintro e w1 ⟨⟨t, rfl, ht⟩, hb1⟩
  have hm1 := hm.below hb1
  have h1 := h.below hb1
  cases t with
  | false =>
    go_wp2_with fail
    refine (haw _ hm1).mono ?_
    rintro e w2 ⟨rfl, hb2⟩
    go_wp2
    go_ret
    exact ⟨rfl, belowTrans hb1 hb2⟩
  | true =>
    have hli : PatchesLight ps := by first | exact ht rfl | exact ht trivial
    by_cases hw3 : (300 : Int) < (word.size : Int)
    · go_wp2_with fail
      refine (haw _ hm1).mono ?_
      rintro e w2 ⟨rfl, hb2⟩
      go_wp2
      go_ret
      exact ⟨rfl, belowTrans hb1 hb2⟩
    · have hla := light_all hli
      have hl20 := hli.1
      go_wp2
      go_loopw [5, 6] (fun sv iv w' => Below w1.heap.size w1 w' ∧ ∃ i : Nat, i ≤ ps.length ∧ iv = .int .i64 i ∧ OwnT w1.heap.size w' sv (wantP word (ps.take i))) (fun _ iv _ => ps.length - (intOf iv).toNat)
      case atStart => exact ⟨Below.refl _ _, 0, Nat.zero_le _, rfl, OwnT.nil _ _⟩
      case round =>
        obtain ⟨hB, i, hi, rfl, hown⟩ := hrel
        obtain ⟨wo, rfl⟩ : ∃ wo : World, wo = wr := ⟨_, rfl⟩
        by_cases hlt : i < ps.length
        · obtain ⟨b, o, rfl, hN⟩ : ∃ b o, a = some ⟨b, o, none⟩ ∧ PatchesAt w1 b o ps := h1.resolve_left (by omega)
          have hd : ps[i]? = some ps[i] := List.getElem?_eq_getElem hlt
          have hpX := hla _ (List.getElem_mem hlt)
          have hfx : wantP word (ps.take (i + 1)) = wantP word (ps.take i) ++ wantO word ps[i].name ps[i].ops := flatMap_take _ ps i hlt
          have hPl : (wantP word (ps.take i)).length ≤ (ps.take i).length * 1800 := wantP_len fun p hp => light_ops (hla p (List.mem_of_mem_take hp))
          have htl : (ps.take i).length ≤ ps.length := by rw [List.length_take]; omega
          have hlt' : (i : Int) < (ps.length : Int) := by omega
          have hnn : ¬ (i : Int) < 0 := by omega
          have hnn0 : (0 : Int) ≤ (i : Int) := by omega
          generalize ps[i] = X at hd hpX hfx
          obtain ⟨hops, hol⟩ := light_ops hpX
          generalize wantP word (ps.take i) = P0 at hown hfx hPl
          have hcell : ∀ W, Below w1.heap.size w1 W → _ := fun W hb => (hN.below hb).cell i X hd
          have hsub : ∀ W, Below w1.heap.size w1 W → _ := fun W hb => (hN.below hb).sub i X hd
          go_wp2
          go_loopw [5, 7] (fun sv kv w' => Below w1.heap.size w1 w' ∧ ∃ k : Nat, k ≤ X.ops.length ∧ kv = .int .i64 k ∧ OwnT w1.heap.size w' sv (P0 ++ wantO word X.name (X.ops.take k))) (fun _ kv _ => X.ops.length - (intOf kv).toNat)
          case atStart => exact ⟨hB, 0, Nat.zero_le _, rfl, by simpa [wantO] using hown⟩
          case round =>
            clear hown
            obtain ⟨hBm, k, hk, rfl, hown⟩ := hrel
            obtain ⟨wm, rfl⟩ : ∃ wm : World, wm = wr := ⟨_, rfl⟩
            obtain ⟨c0, c1, c2⟩ := hcell wm hBm
            by_cases hkl : k < X.ops.length
            · obtain ⟨b2, o2, hoa, hN2⟩ : ∃ b o, X.oa = some ⟨b, o, none⟩ ∧ OpsAt wm b o X.ops := (hsub wm hBm).2.1.resolve_left (by omega)
              rw [hoa] at c2
              have hd2 : X.ops[k]? = some X.ops[k] := List.getElem?_eq_getElem hkl
              have hfx2 : wantO word X.name (X.ops.take (k + 1)) = wantO word X.name (X.ops.take k) ++ wantL word X.name X.ops[k].lines := flatMap_take _ X.ops k hkl
              have hOl : (wantO word X.name (X.ops.take k)).length ≤ (X.ops.take k).length * 60 := wantO_len fun o ho => hol o (List.mem_of_mem_take ho)
              have htl2 : (X.ops.take k).length ≤ X.ops.length := by rw [List.length_take]; omega
              have hlO := hol _ (List.getElem_mem hkl)
              have hszO := lines_small hpX (List.getElem_mem hkl)
              have hkl' : (k : Int) < (X.ops.length : Int) := by omega
              have hkn : ¬ (k : Int) < 0 := by omega
              have hkn0 : (0 : Int) ≤ (k : Int) := by omega
              generalize X.ops[k] = Y at hd2 hfx2 hlO hszO
              generalize wantO word X.name (X.ops.take k) = O0 at hown hfx2 hOl
              go_wp2
              go_loopw [5, 8] (fun sv jv w' => Below w1.heap.size w1 w' ∧ ∃ j : Nat, j ≤ Y.lines.length ∧ jv = .int .i64 j ∧ OwnT w1.heap.size w' sv (P0 ++ O0 ++ wantL word X.name (Y.lines.take j))) (fun _ jv _ => Y.lines.length - (intOf jv).toNat)
              case atStart => exact ⟨hBm, 0, Nat.zero_le _, rfl, by simpa [wantL] using hown⟩
              case round =>
                clear hown c0 c1 c2
                obtain ⟨hBi, j, hj, rfl, hown⟩ := hrel
                obtain ⟨c0, c1, c2⟩ := hcell wr hBi
                obtain ⟨b3, o3, hoa3, hN3⟩ : ∃ b o, X.oa = some ⟨b, o, none⟩ ∧ OpsAt wr b o X.ops := (hsub wr hBi).2.1.resolve_left (by omega)
                rw [hoa] at hoa3 c2
                cases hoa3
                obtain ⟨-, -, -, -, -, -, -, -, -, -, -, -, -, -, -, d5⟩ := hN3.cell k Y hd2
                have htx := (hN3.sub k Y hd2).2.1
                by_cases hjl : j < Y.lines.length
                · obtain ⟨b4, o4, hla4, hN4⟩ : ∃ b o, Y.la = some ⟨b, o, none⟩ ∧ TextsAt wr b o Y.lines := htx.resolve_left (by omega)
                  rw [hla4] at d5
                  have hd4 : Y.lines[j]? = some Y.lines[j] := List.getElem?_eq_getElem hjl
                  have hfx4 : wantL word X.name (Y.lines.take (j + 1)) = wantL word X.name (Y.lines.take j) ++ (if withinB Y.lines[j] word then [X.name] else []) := flatMap_take (fun s => if withinB s word then [X.name] else []) Y.lines j hjl
                  have hLl := wantL_len word X.name (Y.lines.take j)
                  have htl4 : (Y.lines.take j).length ≤ Y.lines.length := by rw [List.length_take]; omega
                  have hszZ := hszO _ (List.getElem_mem hjl)
                  have hjl' : (j : Int) < (Y.lines.length : Int) := by omega
                  have hjn : ¬ (j : Int) < 0 := by omega
                  have hjn0 : (0 : Int) ≤ (j : Int) := by omega
                  generalize Y.lines[j] = Z at hd4 hfx4 hszZ
                  have cz := hN4.cell j Z hd4
                  generalize wantL word X.name (Y.lines.take j) = L0 at hown hfx4 hLl
                  have hwith := R46_Within Z word wr (by omega) (by omega)
                  cases hq : withinB Z word with
                  | false =>
                    have hres : wantL word X.name (Y.lines.take (j + 1)) = L0 := by rw [hfx4, hq]; simp
                    rw [hq] at hwith
                    go_wp2_with (go_at_call 18; refine hwith.mono ?_; rintro e w2 ⟨rfl, rfl⟩)
                    go_roundw
                    case rel => exact ⟨hBi, j + 1, by omega, by push_cast; rfl, by rw [hres]; exact hown⟩
                    case measure => simp [intOf]; omega
                  | true =>
                    have hres : wantL word X.name (Y.lines.take (j + 1)) = L0 ++ [X.name] := by rw [hfx4, hq]; simp
                    rw [hq] at hwith
                    go_wp2_with (first
                      | (go_at_call 18; refine hwith.mono ?_; rintro e w2 ⟨rfl, rfl⟩)
                      | (at_builtin; refine wpList_append_texts _ rfl (.tmp 62) (.tmp 68) rfl w1.heap.size _ (P0 ++ O0 ++ L0) rfl (hown.kept (belowAlloc _ _)) _ [X.name] rfl (srcOne _ _ _) ?len ?base ?_))
                    case len => simp; omega
                    case base => have := hBi.size; simp; omega
                    intro v1 w3 hown1 hg1
                    have hb4 := belowGrown (belowTrans hBi (belowAlloc _ _)) (Nat.le_refl _) (by have := hBi.size; simp; omega) (hown.kept (belowAlloc _ _)) hg1
                    have hown2 : OwnT w1.heap.size w3 v1 (P0 ++ O0 ++ (L0 ++ [X.name])) := by simpa using hown1
                    clear hown1
                    go_wp2
                    go_roundw
                    case rel => exact ⟨hb4, j + 1, by omega, by push_cast; rfl, by rw [hres]; exact hown2⟩
                    case measure => simp [intOf]; omega
                · have hjl' : ¬ (j : Int) < (Y.lines.length : Int) := by omega
                  obtain rfl : j = Y.lines.length := by omega
                  rw [List.take_length] at hown
                  have hown2 : OwnT w1.heap.size wr u5 (P0 ++ wantO word X.name (X.ops.take (k + 1))) := by rw [hfx2, ← List.append_assoc]; exact hown
                  go_wp2
                  go_roundw
                  case rel => exact ⟨hBi, k + 1, by omega, by push_cast; rfl, hown2⟩
                  case measure => simp [intOf]; omega
            · have hkl' : ¬ (k : Int) < (X.ops.length : Int) := by omega
              obtain rfl : k = X.ops.length := by omega
              rw [List.take_length] at hown
              go_wp2
              go_roundw
              case rel => exact ⟨hBm, i + 1, by omega, by push_cast; rfl, by rw [hfx]; exact hown⟩
              case measure => simp [intOf]; omega
        · have hlt' : ¬ (i : Int) < (ps.length : Int) := by omega
          obtain rfl : i = ps.length := by omega
          rw [List.take_length] at hown
          have hPl : (wantP word ps).length ≤ ps.length * 1800 := wantP_len fun p hp => light_ops (hla p hp)
          have hB1 := belowTrans hb1 hB
          obtain ⟨na, nc, rfl, hnH⟩ := hown.H
          go_wp2_with fail
          refine (haw _ (hm1.below hB)).mono ?_
          rintro e w2 ⟨rfl, hb2⟩
          have hB2 := belowTrans hB1 hb2
          have hf := log_Find a c ps word w2 (h.below hB2) hli (hm.below hB2)
          rw [found_want] at hf
          go_wp2_with fail
          refine hf.mono ?_
          rintro e w3 ⟨⟨v3, rfl, hv3⟩, hb3⟩
          have hB3 := belowTrans hB2 hb3
          obtain ⟨sa, sc, rfl, hsH⟩ := hv3.H
          have hst := R02_Set na nc (wantP word ps) w3 (hnH.below (belowTrans hb2 hb3)) (by omega)
          go_wp2_with fail
          refine hst.mono ?_
          rintro e w4 ⟨⟨v4, rfl, hv4⟩, hb4⟩
          have hB4 := belowTrans hB3 hb4
          obtain ⟨ra, rc, rfl, hrH⟩ := hv4.H
          have hsl := setB_length (wantP word ps)
          have hsame := R01_Same sa ra sc rc (setB (wantP word ps)) (setB (wantP word ps)) w4 (hsH.below hb4) hrH (by omega)
          rw [decide_eq_true rfl] at hsame
          go_wp2_with fail
          refine hsame.mono ?_
          rintro e w5 ⟨rfl, hb5⟩
          go_wp2
          go_ret
          exact ⟨rfl, belowTrans hB4 hb5⟩
end Go.Proofs.W
