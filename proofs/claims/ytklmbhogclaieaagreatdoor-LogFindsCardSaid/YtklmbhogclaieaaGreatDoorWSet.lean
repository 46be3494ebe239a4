/- A PART OF THE PROOF THAT ONE CALL OF A LAW OF LAYER 46 (which of any patches have a line with any word) returns true, whatever the input; the input reads as it did. No condition beyond the given statement. This part: WSet. -/
import Derived.Test.YtklmbhogclaieaaGreatDoorWHead
import Derived.Test.YtklmbhogclaieaaGreatDoorWShelf
import Derived.Test.YtklmbhogclaieaaGreatDoorSetLaw
import Derived.Shelf.SlicesQ.Load
namespace Go.Proofs.W
open Go Go.Proofs Go.RowKit
set_option maxRecDepth 1000000

theorem putRow_block {α : Type} [Inhabited α] (enc : α → Value) (w : World) (blk off : Nat) (d : Array α) (b : Nat) (h : b ≠ blk) : (Sort.putRow enc w blk off d).heap[b]? = w.heap[b]? := by
  simp [Sort.putRow, Sort.mapBlock, Array.getElem?_modify, Ne.symm h]
theorem putRow_size {α : Type} [Inhabited α] (enc : α → Value) (w : World) (blk off : Nat) (d : Array α) : (Sort.putRow enc w blk off d).heap.size = w.heap.size := by
  simp [Sort.putRow, Sort.mapBlock]
theorem grow_block (w : World) (os : Array Obj) (b : Nat) (h : b < w.heap.size) : (Sort.grow w os).heap[b]? = w.heap[b]? := by
  show (w.heap ++ os)[b]? = _
  rw [Array.getElem?_append_left h]

theorem textsAt_of_holds {w : World} {g : Nat} {ls : List L8} (hlt : g < w.heap.size) (h : Sort.Holds encStr w g 0 ls.toArray) : TextsAt w g 0 (ls.map ofL8) :=
  ⟨hlt, fun j x hj => by
    rw [List.getElem?_map] at hj
    obtain ⟨l, hl, rfl⟩ := Option.map_eq_some_iff.1 hj
    obtain ⟨hjl, e⟩ := List.getElem?_eq_some_iff.1 hl
    obtain ⟨h1, _⟩ := h j (by simpa using hjl)
    rw [h1, ← e]
    simp [hjl]
    rfl⟩
theorem holds_prefix {w : World} {g : Nat} {ls ms : List L8} (h : Sort.Holds encStr w g 0 (ls ++ ms).toArray) : Sort.Holds encStr w g 0 ls.toArray := fun j hj => by
  have hj' : j < ls.length := by simpa using hj
  obtain ⟨h1, h2⟩ := h j (by simp; omega)
  refine ⟨?_, h2⟩
  rw [h1]
  have e1 : (ls ++ ms).toArray[j]! = ls[j] := by simp [List.getElem_append_left, hj', show j < ls.length + ms.length by omega]
  have e2 : ls.toArray[j]! = ls[j] := by simp [hj']
  rw [e1, e2]

set_option maxHeartbeats 4000000 in
theorem name_Set_nil (w : World) : Calls Tryz.prog 54 #[.slice none 0 0] w fun e w' => e = .returned (.slice none 0 0) ∧ w' = w := by
  go_enter Tryz.func54, Tryz.ntmps54
  go_wp2_with fail
  refine (Tryz.slices_Clone_string_nil 0 0 w).mono ?_
  rintro e w1 ⟨rfl, rfl⟩
  go_wp2_with fail
  refine (Tryz.slices_Sort_string_none none 0 _).mono ?_
  rintro e w2 ⟨rfl, rfl⟩
  go_wp2_with fail
  refine (Tryz.slices_Compact_string_empty none 0 _).mono ?_
  rintro e w3 ⟨rfl, rfl⟩
  go_wp2
  go_ret
  exact ⟨rfl, rfl⟩

set_option maxHeartbeats 4000000 in
theorem name_Set (v : Value) (xs : List ByteArray) (w : World) (h : TextSl w v xs) (hlen : xs.length ≤ 4398046511104) :
    Calls Tryz.prog 54 #[v] w fun e w' => (∃ v', e = .returned v' ∧ TextNew w.heap.size w' v' (setB xs)) ∧ Below w.heap.size w w' := by
  rcases h with ⟨rfl, rfl⟩ | ⟨b, o, c, rfl, ht⟩
  · go_enter Tryz.func54, Tryz.ntmps54
    go_wp2_with fail
    refine (Tryz.slices_Clone_string_nil 0 0 w).mono ?_
    rintro e w1 ⟨rfl, rfl⟩
    go_wp2_with fail
    refine (Tryz.slices_Sort_string_none none 0 _).mono ?_
    rintro e w2 ⟨rfl, rfl⟩
    go_wp2_with fail
    refine (Tryz.slices_Compact_string_empty none 0 _).mono ?_
    rintro e w3 ⟨rfl, rfl⟩
    go_wp2
    go_ret
    exact ⟨⟨_, rfl, .inl ⟨rfl, rfl⟩⟩, Below.refl _ _⟩
  · have hcl := Tryz.slices_Clone_string b o xs.length c xs w (Nat.le_refl _) (by omega) (fun j hj => by
      have := ht.cell j xs[j] (List.getElem?_eq_getElem hj)
      rw [List.getD_eq_getElem?_getD, List.getElem?_eq_getElem hj]
      exact this)
    rw [List.take_length] at hcl
    go_enter Tryz.func54, Tryz.ntmps54
    go_wp2_with fail
    refine hcl.mono ?_
    rintro e w1 ⟨v1, rfl, hown, hne, hb1⟩
    obtain ⟨_, ⟨h0, _⟩ | ⟨g, cap, cur, rfl, hg, hh, hcc, _, hs, htk⟩⟩ := hown
    · exact absurd h0 hne
    have hglt : g < w1.heap.size := (Array.getElem?_eq_some_iff.1 hh).1
    have hH : Sort.Holds encStr w1 g 0 (xs.map l8).toArray := fun j hj => by
      have hj' : j < xs.length := by simpa using hj
      have h1 : cur[j]? = some (.string xs[j]) := by
        have h2 : (cur.toList.take (xs.length * 1))[j]? = some (.string xs[j]) := by rw [htk]; simp [hj']
        rw [List.getElem?_take_of_lt (by omega)] at h2
        rw [← Array.getElem?_toList]; exact h2
      refine ⟨?_, by simp [World.frozen?, hh]⟩
      have e1 : (xs.map l8).toArray[j]! = l8 xs[j] := by simp [hj']
      rw [e1]
      simp [World.cell?, hh, h1]
      exact (ofL8_l8 xs[j]).symm
    have hsort := Tryz.slices_Sort_string g 0 cap (xs.map l8) w1 hH hglt (by simp; omega)
    rw [List.length_map] at hsort
    go_wp2_with fail
    refine hsort.mono ?_
    rintro e w2 ⟨rfl, n, os, hw2⟩
    obtain ⟨ms, hms⟩ : ∃ ms, ((xs.map l8).mergeSort fun x y => decide (x ≤ y)) = ms := ⟨_, rfl⟩
    have hml : ms.length = xs.length := by rw [← hms, List.length_mergeSort, List.length_map]
    have hset : Lib.compact ms = setS (xs.map l8) := by rw [← hms]; exact compact_sort _
    rw [hms] at hw2
    have hH2 : Sort.Holds encStr w2 g 0 ms.toArray := by
      rw [hw2]
      refine Sort.holds_grow encStr _ os g 0 _ (by rw [putRow_size]; exact hglt) ?_
      exact Sort.holds_putRow encStr (Sort.ahead w1 n) g 0 (xs.map l8).toArray ms.toArray hH (by simp [hml])
    have hcom := Tryz.slices_Compact_string g 0 cap ms w2 hH2 (by omega) (by omega)
    rw [hml] at hcom
    rw [hset] at hcom
    have hs2 : w2.heap.size = w1.heap.size + os.size := by rw [hw2, Sort.size_grow, putRow_size]; rfl
    have HW2 : Hid (w2 = Sort.grow (Sort.putRow encStr (Sort.ahead w1 n) g 0 ms.toArray) os) := hw2
    clear hw2
    go_wp2_with fail
    refine hcom.mono ?_
    rintro e w3 ⟨rfl, q, hw3⟩
    have hs3 : w3.heap.size = w2.heap.size := by rw [hw3, putRow_size]; rfl
    have HW3 : Hid (w3 = Sort.putRow encStr (Sort.ahead w2 q) g 0 (setS (xs.map l8) ++ List.replicate (xs.length - (setS (xs.map l8)).length) []).toArray) := hw3
    have hH3 : Sort.Holds encStr w3 g 0 (setS (xs.map l8) ++ List.replicate (xs.length - (setS (xs.map l8)).length) []).toArray := by
      rw [hw3]
      refine Sort.holds_putRow encStr (Sort.ahead w2 q) g 0 ms.toArray _ hH2 ?_
      have hl := setB_length xs
      unfold setB at hl
      rw [List.length_map] at hl
      simp [hml]
      omega
    clear hw3
    go_wp2
    go_ret
    refine ⟨⟨_, rfl, .inr ⟨g, cap, ?_, hg, textsAt_of_holds (by omega) (holds_prefix hH3), Nat.le_trans (setB_length xs) hcc⟩⟩, ?_⟩
    · simp [setB]
    · refine belowStep hb1 ⟨?_, ?_, ?_, by omega, fun k hk => ?_⟩
      · rw [HW3.out, HW2.out]; rfl
      · rw [HW3.out, HW2.out]; rfl
      · rw [HW3.out, HW2.out]; rfl
      · have hkg : k ≠ g := by omega
        have hk1 : k < w1.heap.size := Nat.lt_of_lt_of_le hk hb1.size
        rw [HW3.out, putRow_block _ _ _ _ _ _ hkg]
        show w2.heap[k]? = _
        rw [HW2.out, grow_block _ _ _ (by rw [putRow_size]; exact hk1), putRow_block _ _ _ _ _ _ hkg]
        rfl
end Go.Proofs.W
namespace Go.Proofs.W
open Go Go.Proofs Go.RowKit
set_option maxRecDepth 1000000

/-- pairs of texts at a place -/
structure PairsAt (w : World) (b o : Nat) (xs : List (ByteArray × ByteArray)) : Prop where
  lt : b < w.heap.size
  cell : ∀ (j : Nat) (x : ByteArray × ByteArray), xs[j]? = some x → w.cell? ⟨b, o + j * 2, none⟩ = some (.string x.1) ∧ w.cell? ⟨b, o + j * 2 + 1, none⟩ = some (.string x.2)
theorem PairsAt.below {w w' : World} {b o : Nat} {xs : List (ByteArray × ByteArray)} (h : PairsAt w b o xs) (hb : Below w.heap.size w w') : PairsAt w' b o xs :=
  ⟨Nat.lt_of_lt_of_le h.lt hb.size, fun j d hd => by
    have hc : ∀ i, w'.cell? ⟨b, i, none⟩ = w.cell? ⟨b, i, none⟩ := fun i => World.cell?_of_block (hb.block b h.lt)
    simp only [hc]
    exact h.cell j d hd⟩
def flatP (xs : List (ByteArray × ByteArray)) : List ByteArray := xs.flatMap fun d => [d.1, d.2]
theorem flatP_length : ∀ xs, (flatP xs).length = 2 * xs.length
  | [] => rfl
  | x :: r => by have := flatP_length r; unfold flatP at this ⊢; rw [List.flatMap_cons, List.length_append, this]; simp; omega
theorem flatP_take (xs : List (ByteArray × ByteArray)) (i : Nat) (h : i < xs.length) : flatP (xs.take (i + 1)) = flatP (xs.take i) ++ [xs[i].1, xs[i].2] := by
  unfold flatP
  rw [List.take_succ_eq_append_getElem h, List.flatMap_append]
  simp
theorem srcTwo (w : World) (s u : ByteArray) (t : TypeId) : SrcT (w.alloc (.cells #[.string s, .string u] t)) (.slice (some ⟨w.heap.size, 0, none⟩) 2 2) [s, u] :=
  .inr ⟨_, _, rfl, fun j x hj => by
    rw [Addr.add_lit, cell_newBlock]
    match j, hj with
    | 0, hj => rw [← Option.some.inj hj]; rfl
    | 1, hj => rw [← Option.some.inj hj]; rfl⟩

set_option maxHeartbeats 8000000 in
theorem event_names (b o c : Nat) (ps : List (ByteArray × ByteArray)) (w : World) (h : PairsAt w b o ps) (hlen : ps.length ≤ 1000000) :
    Calls Tryz.prog 166 #[.slice (some ⟨b, o, none⟩) ps.length c] w fun e w' => (∃ v', e = .returned v' ∧ TextNew w.heap.size w' v' (setB (flatP ps))) ∧ Below w.heap.size w w' := by
  go_enter Tryz.func166, Tryz.ntmps166
  go_wp2
  go_loopw [3, 8] (fun sv iv w' => Below w.heap.size w w' ∧ ∃ i : Nat, i ≤ ps.length ∧ iv = .int .i64 i ∧ OwnT w.heap.size w' sv (flatP (ps.take i))) (fun _ iv _ => ps.length - (intOf iv).toNat)
  case atStart => exact ⟨Below.refl _ w, 0, Nat.zero_le _, rfl, OwnT.nil _ _⟩
  case round =>
    obtain ⟨hB, i, hi, rfl, hown⟩ := hrel
    by_cases hlt : i < ps.length
    · have hd : ps[i]? = some ps[i] := List.getElem?_eq_getElem hlt
      have hlt' : (i : Int) < (ps.length : Int) := by omega
      have hnn : ¬ (i : Int) < 0 := by omega
      have hnn0 : (0 : Int) ≤ (i : Int) := by omega
      have hfx := flatP_take ps i hlt
      have hfl := flatP_length (ps.take i)
      have htl : (ps.take i).length = i := by rw [List.length_take]; omega
      obtain ⟨X, hX⟩ : ∃ X, ps[i] = X := ⟨_, rfl⟩
      rw [hX] at hd hfx
      obtain ⟨c0, c1⟩ := (h.below hB).cell i _ hd
      have hsz := hB.size
      generalize hQ : flatP (ps.take i) = Q at hown hfx hfl
      go_wp2_with (at_builtin; refine wpList_append_texts _ rfl (.tmp 12) (.tmp 13) rfl w.heap.size _ Q rfl (hown.kept (belowAlloc _ _)) _ [X.1, X.2] rfl (srcTwo _ _ _ _) ?len ?base ?_)
      case len => first | omega | (simp; omega)
      case base => first | omega | (simp; omega)
      intro v1 w1 hown1 hg1
      have hb1 := belowGrown (belowTrans hB (belowAlloc _ _)) (Nat.le_refl _) (by simp; omega) (hown.kept (belowAlloc _ _)) hg1
      go_wp2
      go_roundw
      case rel => exact ⟨hb1, i + 1, by omega, by push_cast; rfl, by rw [hfx]; exact hown1⟩
      case measure => simp [intOf]; omega
    · have hlt' : ¬ (i : Int) < (ps.length : Int) := by omega
      obtain rfl : i = ps.length := by omega
      rw [List.take_length] at hown
      have hfl := flatP_length ps
      have hset := name_Set _ _ wr hown.sl (by omega)
      go_wp2_with (go_at_call 54; refine hset.mono ?_; rintro e w' ⟨⟨v', rfl, hv'⟩, hb'⟩)
      go_ret
      exact ⟨⟨_, rfl, TextNew.mono hv' hB.size⟩, belowTrans hB hb'⟩

set_option maxHeartbeats 4000000 in
theorem event_names_nil (w : World) : Calls Tryz.prog 166 #[.slice none 0 0] w fun e w' => e = .returned (.slice none 0 0) ∧ Below w.heap.size w w' := by
  have hset := name_Set_nil w
  go_enter Tryz.func166, Tryz.ntmps166
  go_wp2
  go_loopw [3, 8] (fun sv iv w' => sv = .slice none 0 0 ∧ iv = .int .i64 0 ∧ w' = w) (fun _ _ _ => 0)
  case atStart => exact ⟨rfl, rfl, rfl⟩
  case round =>
    obtain ⟨rfl, rfl, rfl⟩ := hrel
    go_wp2_with (go_at_call 54; refine hset.mono ?_; rintro e w' ⟨rfl, rfl⟩)
    go_ret
    exact ⟨rfl, Below.refl _ _⟩
end Go.Proofs.W
