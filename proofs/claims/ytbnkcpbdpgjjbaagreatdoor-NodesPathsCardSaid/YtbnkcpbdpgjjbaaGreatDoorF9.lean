/- A PART OF THE PROOF THAT ONE CALL OF A LAW OF LAYER 18 (of nodes that may be, each path leads there) returns true, whatever the input; the input reads as it did. No condition beyond the given statement. This part: F9. -/
import Derived.Test.YtbnkcpbdpgjjbaaGreatDoorF18
import Derived.Test.YtbnkcpbdpgjjbaaGreatDoorF13a
import Derived.Laws.AppendOwnNone
namespace Go.Proofs.Np
open Go Go.Proofs Go.RowKit
set_option maxRecDepth 1000000

set_option maxHeartbeats 4000000 in
theorem root17 (w : World) : Calls Tryz.prog 17 #[] w fun e w' => e = .returned (.agg #[.string ⟨#[]⟩, .int .i64 0]) ∧ Below w.heap.size w w' := by
  go_enter Tryz.func17, Tryz.ntmps17
  go_wp2
  refine bodyPost_ret_by (v := .agg #[.string ⟨#[]⟩, .int .i64 0]) ?_ rfl ⟨rfl, belowAlloc w _⟩
  exact results_cell_row rfl _ _ w.heap.size 26 _ _ _ rfl (heap_alloc_new w _) Tryz.underlying26 rfl (by kernel_rfl)

theorem lookGo_hit {ns : List Nd} {s : ByteArray} {r : List ByteArray} {a : Int} {p : ByteArray} {n : Int} {k : Nat} {d : Nd} (hk : idxI (liesAt p n s) ns = (k : Nat)) (hd : ns[k]? = some d) : lookGo ns (s :: r) a p n = lookGo ns r k d.sp d.sn := by
  rw [lookGo, hk]
  simp [hd]
theorem lookGo_miss {ns : List Nd} {s : ByteArray} {r : List ByteArray} {a : Int} {p : ByteArray} {n : Int} (hk : idxI (liesAt p n s) ns = -1) : lookGo ns (s :: r) a p n = -1 := by
  rw [lookGo, hk]
  simp

/-- all as it was, but for one block -/
structure But (D : Nat) (w w' : World) : Prop where
  size : w.heap.size ≤ w'.heap.size
  block : ∀ k, k < w.heap.size → k ≠ D → w'.heap[k]? = w.heap[k]?

theorem set2 {w : World} {D : Nat} {x y : Value} {t : TypeId} (h : w.heap[D]? = some (.cells #[x, y] t)) (u v : Value) :
    ((w.setCell ⟨D, 0, none⟩ u).setCell ⟨D, 1, none⟩ v).heap[D]? = some (.cells #[u, v] t) ∧ (∀ k, k ≠ D → ((w.setCell ⟨D, 0, none⟩ u).setCell ⟨D, 1, none⟩ v).heap[k]? = w.heap[k]?) ∧
    ((w.setCell ⟨D, 0, none⟩ u).setCell ⟨D, 1, none⟩ v).heap.size = w.heap.size ∧ ((w.setCell ⟨D, 0, none⟩ u).setCell ⟨D, 1, none⟩ v).os = w.os ∧ ((w.setCell ⟨D, 0, none⟩ u).setCell ⟨D, 1, none⟩ v).tape = w.tape ∧ ((w.setCell ⟨D, 0, none⟩ u).setCell ⟨D, 1, none⟩ v).output = w.output := by
  refine ⟨by simp [World.setCell, Array.getElem?_modify, h], fun k hk => by simp [World.setCell, Array.getElem?_modify, Ne.symm hk], by simp [World.setCell], rfl, rfl, rfl⟩

theorem splitS_length (p : ByteArray) : (splitS pathR p).length ≤ p.size + 1 := by
  unfold splitS
  split
  · exact cutB_length p
  · exact Nat.zero_le _

set_option maxHeartbeats 4000000 in
theorem look9 (b o c : Nat) (ns : List Nd) (p : ByteArray) (w : World) (h : NodesAt w b o ns) (hlen : ns.length < 9223372036854775808) (hs : p.size < 4294967281) (hm : HasM w) :
    Calls Tryz.prog 9 #[.slice (some ⟨b, o, none⟩) ns.length c, .string p] w fun e w' => e = .returned (.int .i64 (lookS pathR ns p)) ∧ Below w.heap.size w w' := by
  obtain ⟨R, hR⟩ : ∃ R, lookS pathR ns p = R := ⟨_, rfl⟩
  rw [hR]
  have hroot := root17 w
  go_enter Tryz.func9, Tryz.ntmps9
  go_wp2_with fail
  refine hroot.mono ?_
  rintro e w1 ⟨rfl, hb1⟩
  go_wp2_with fail
  have hb2 := belowTrans hb1 (belowAlloc w1 (.cells #[.string ⟨#[]⟩, .int .i64 0] 26))
  have hD : (w1.alloc (.cells #[.string ⟨#[]⟩, .int .i64 0] 26)).heap[w1.heap.size]? = some (.cells #[.string ⟨#[]⟩, .int .i64 0] 26) := heap_alloc_new w1 _
  have hDs : w1.heap.size < (w1.alloc (.cells #[.string ⟨#[]⟩, .int .i64 0] 26)).heap.size := by simp
  have hwD : w.heap.size ≤ w1.heap.size := hb1.size
  generalize w1.alloc (.cells #[.string ⟨#[]⟩, .int .i64 0] 26) = wa at hb2 hD hDs ⊢
  generalize w1.heap.size = D at hD hDs hwD ⊢
  clear hb1 hroot w1
  refine (split19 p wa hs (hm.below hb2)).mono ?_
  rintro e w2 ⟨⟨v, rfl, ht⟩, hb3⟩
  have hb4 := belowTrans hb2 hb3
  have hD2 : w2.heap[D]? = some (.cells #[.string ⟨#[]⟩, .int .i64 0] 26) := (hb3.block D hDs).trans hD
  have hD2s : D < w2.heap.size := Nat.lt_of_lt_of_le hDs hb3.size
  obtain ⟨ta, rfl, hta⟩ : ∃ ta, v = .slice ta (splitS pathR p).length (splitS pathR p).length ∧ ((splitS pathR p).length = 0 ∨ ∃ tb, ta = some ⟨tb, 0, none⟩ ∧ D < tb ∧ TextsAt w2 tb 0 (splitS pathR p)) := by
    rcases ht with ⟨h1, rfl⟩ | ⟨tb, rfl, h1, h2⟩
    · exact ⟨none, by rw [h1]; rfl, .inl (by rw [h1]; rfl)⟩
    · exact ⟨_, rfl, .inr ⟨tb, rfl, by omega, h2⟩⟩
  unfold lookS at hR
  have hxl := splitS_length p
  clear ht
  generalize splitS pathR p = xs at hta hR hxl ⊢
  go_wp2
  go_loopw [5, 13] (fun sa si w' => Below w.heap.size w w' ∧ But D w2 w' ∧ ∃ (i : Nat) (a : Int) (dp : ByteArray) (dn : Int), i ≤ xs.length ∧ si = .int .i64 i ∧ sa = .int .i64 a ∧ w'.heap[D]? = some (.cells #[.string dp, .int .i64 dn] 26) ∧ lookGo ns (xs.drop i) a dp dn = R)
    (fun _ si _ => match si with | .int _ i => (xs.length - i.toNat) | _ => 0)
  case atStart => exact ⟨hb4, ⟨Nat.le_refl _, fun _ _ _ => rfl⟩, 0, -1, ByteArray.empty, 0, Nat.zero_le _, rfl, rfl, hD2, hR⟩
  case round =>
    obtain ⟨hB, hbut, i, a, dp, dn, hi, rfl, rfl, hDr, hgo⟩ := hrel
    have hD0 : wr.cell? ⟨D, 0, none⟩ = some (.string dp) := by simp [World.cell?, hDr]
    have hD1 : wr.cell? ⟨D, 1, none⟩ = some (.int .i64 dn) := by simp [World.cell?, hDr]
    by_cases hlt : i < xs.length
    · obtain h0 | ⟨tb, rfl, htb, htx⟩ := hta
      · omega
      have hxi : xs[i]? = some xs[i] := List.getElem?_eq_getElem hlt
      have hx : wr.cell? ⟨tb, i, none⟩ = some (.string xs[i]) := by
        have := htx.cell i _ hxi
        rw [Nat.zero_add] at this
        rw [World.cell?_of_block (hbut.block tb htx.lt (by omega))]
        exact this
      have hlt' : (i : Int) < (xs.length : Int) := by omega
      have hnn : ¬ (i : Int) < 0 := by omega
      have hcon := at14 b o c ns dp dn xs[i] wr (h.below hB) hlen
      have hdrop : xs.drop i = xs[i] :: xs.drop (i + 1) := List.drop_eq_getElem_cons hlt
      rw [hdrop] at hgo
      rcases idxI_cases (liesAt dp dn xs[i]) ns with hr | ⟨k, d, hr, hd, -⟩
      · rw [hr] at hcon
        rw [lookGo_miss hr] at hgo
        subst hgo
        go_wp2_with (go_at_call 14; refine hcon.mono ?_; rintro e w3 ⟨rfl, hb'⟩)
        go_ret
        exact ⟨rfl, belowTrans hB hb'⟩
      · rw [hr] at hcon
        rw [lookGo_hit hr hd] at hgo
        have hkl : k < ns.length := (List.getElem?_eq_some_iff.1 hd).1
        have hk0 : ¬ (k : Int) < 0 := by omega
        have hk1 : (k : Int) < (ns.length : Int) := by omega
        have hcells : ∀ w3, Below wr.heap.size wr w3 → w3.cell? ⟨b, o + k * 10, none⟩ = some (.string d.sp) ∧ w3.cell? ⟨b, o + k * 10 + 1, none⟩ = some (.int .i64 d.sn) := fun w3 hb' => by
          obtain ⟨c0, c1, -⟩ := (h.below (belowTrans hB hb')).cell k d hd
          exact ⟨c0, c1⟩
        have hst : ∀ w3, Below wr.heap.size wr w3 → w3.heap[D]? = some (.cells #[.string dp, .int .i64 dn] 26) ∧ w3.cell? ⟨D, 0, none⟩ = some (.string dp) ∧ w3.cell? ⟨D, 1, none⟩ = some (.int .i64 dn) ∧ w3.frozen? ⟨D, 0, none⟩ = false ∧ w3.frozen? ⟨D, 1, none⟩ = false := fun w3 hb' => by
          have hh : w3.heap[D]? = some (.cells #[.string dp, .int .i64 dn] 26) := (hb'.block D (Nat.lt_of_lt_of_le hD2s hbut.size)).trans hDr
          exact ⟨hh, by simp [World.cell?, hh], by simp [World.cell?, hh], by simp [World.frozen?, hh], by simp [World.frozen?, hh]⟩
        go_wp2_with (go_at_call 14; refine hcon.mono ?_; rintro e w3 ⟨rfl, hb'⟩; obtain ⟨e0, e1⟩ := hcells w3 hb'; obtain ⟨g0, g1, g2, g3, g4⟩ := hst w3 hb')
        obtain ⟨s1, s2, s3, s4, s5, s6⟩ := set2 g0 (.string d.sp) (.int .i64 d.sn)
        have hbw := belowTrans hB hb'
        go_roundw
        case rel => exact ⟨⟨s4.trans hbw.os, s5.trans hbw.tape, s6.trans hbw.output, by rw [s3]; exact hbw.size, fun q hq => by rw [s2 q (by omega)]; exact hbw.block q hq⟩,
          ⟨by rw [s3]; exact Nat.le_trans hbut.size hb'.size, fun q hq hne => by rw [s2 q hne, hb'.block q (Nat.lt_of_lt_of_le hq hbut.size)]; exact hbut.block q hq hne⟩, i + 1, k, d.sp, d.sn, by omega, by push_cast; rfl, rfl, s1, hgo⟩
        case measure =>
          show xs.length - ((i : Int) + 1).toNat < xs.length - (i : Int).toNat
          omega
    · have hlt' : ¬ (i : Int) < (xs.length : Int) := by omega
      have hdrop : xs.drop i = [] := List.drop_of_length_le (by omega)
      rw [hdrop, lookGo] at hgo
      subst hgo
      go_wp2
      go_ret
      exact ⟨rfl, hB⟩
end Go.Proofs.Np
namespace Go.Proofs.Np
open Go Go.Proofs Go.RowKit
set_option maxRecDepth 1000000

theorem pathGo_root {ns : List Nd} {k : Nat} {p : ByteArray} {n : Int} {names : List ByteArray} (h : sameId p n ⟨#[]⟩ 0 = true) : pathGo ns k p n names = some names := by
  unfold pathGo
  rw [if_pos (show isRoot p n = true from h)]
theorem pathGo_miss {ns : List Nd} {k : Nat} {p : ByteArray} {n : Int} {names : List ByteArray} (h : sameId p n ⟨#[]⟩ 0 = false) (hi : idxI (selfIs p n) ns = -1) : pathGo ns (k + 1) p n names = none := by
  unfold pathGo
  have h' : ¬ isRoot p n = true := by rw [show isRoot p n = false from h]; simp
  rw [if_neg h']
  simp [hi]
theorem pathGo_end {ns : List Nd} {k i : Nat} {d : Nd} {p : ByteArray} {n : Int} {names : List ByteArray} (h : sameId p n ⟨#[]⟩ 0 = false) (hi : idxI (selfIs p n) ns = (i : Nat)) (hd : ns[i]? = some d) (hg : ¬ (d.gone = ByteArray.empty ∧ names.length < 16)) : pathGo ns (k + 1) p n names = none := by
  unfold pathGo
  have h' : ¬ isRoot p n = true := by rw [show isRoot p n = false from h]; simp
  rw [if_neg h']
  simp only [hi, Int.toNat_natCast, hd]
  have e : decide (0 ≤ (i : Int)) = true := by simp
  rw [e]
  simp only
  rw [if_neg hg]
theorem pathGo_up {ns : List Nd} {k i : Nat} {d : Nd} {p : ByteArray} {n : Int} {names : List ByteArray} (h : sameId p n ⟨#[]⟩ 0 = false) (hi : idxI (selfIs p n) ns = (i : Nat)) (hd : ns[i]? = some d) (hg : d.gone = ByteArray.empty ∧ names.length < 16) : pathGo ns (k + 1) p n names = pathGo ns k d.pp d.pn (d.nm :: names) := by
  conv => lhs; unfold pathGo
  have h' : ¬ isRoot p n = true := by rw [show isRoot p n = false from h]; simp
  rw [if_neg h']
  simp only [hi, Int.toNat_natCast, hd]
  have e : decide (0 ≤ (i : Int)) = true := by simp
  rw [e]
  simp only
  rw [if_pos hg]

theorem joinAt_le : ∀ l : List (List UInt8), (∀ x ∈ l, x.length ≤ 100) → (joinAt 47 l).length ≤ 101 * l.length
  | [], _ => by simp [joinAt]
  | [x], h => by have := h x (by simp); simp [joinAt]; omega
  | x :: y :: r, h => by
    have h1 := h x (by simp)
    have ih := joinAt_le (y :: r) fun z hz => h z (by simp [hz])
    simp only [joinAt, List.length_append, List.length_cons] at ih ⊢
    omega
theorem joinB_le (names : List ByteArray) (h : ∀ x ∈ names, x.size ≤ 100) : (joinB names).size ≤ 101 * names.length := by
  have := joinAt_le (names.map (·.data.toList)) fun x hx => by
    obtain ⟨y, hy, rfl⟩ := List.mem_map.1 hx
    have h1 := h y hy
    have h2 : y.data.toList.length = y.size := Array.length_toList
    omega
  rw [List.length_map] at this
  have e : (joinB names).size = (joinAt 47 (names.map (·.data.toList))).length := by
    unfold joinB bytes
    exact List.size_toArray
  omega

theorem root17k (D : Nat) (x y : Value) (W : World) (h0 : W.cell? ⟨D, 0, none⟩ = some x) (h1 : W.cell? ⟨D, 1, none⟩ = some y) :
    Calls Tryz.prog 17 #[] W fun e w' => e = .returned (.agg #[.string ⟨#[]⟩, .int .i64 0]) ∧ Below W.heap.size W w' ∧ w'.cell? ⟨D, 0, none⟩ = some x ∧ w'.cell? ⟨D, 1, none⟩ = some y :=
  (root17 W).mono fun _e _w' ⟨he, hb⟩ => ⟨he, hb, (World.cell?_of_block (hb.block D (World.block_lt_of_cell? W _ h0))).trans h0, (World.cell?_of_block (hb.block D (World.block_lt_of_cell? W _ h1))).trans h1⟩

/-- the names so far -/
def NamesAt (D : Nat) (w : World) (v : Value) (xs : List ByteArray) : Prop := (xs = [] ∧ v = .slice none 0 0) ∨ ∃ g c, v = .slice (some ⟨g, 0, none⟩) xs.length c ∧ D < g ∧ TextsAt w g 0 xs ∧ xs.length ≤ c
theorem NamesAt.sl {D : Nat} {w : World} {v : Value} {xs : List ByteArray} (h : NamesAt D w v xs) : TextSl w v xs := by
  rcases h with h | ⟨g, c, h1, _, h2, h3⟩
  · exact .inl h
  · exact .inr ⟨g, 0, c, h1, h2, h3⟩

theorem NamesAt.below {D : Nat} {w w' : World} {v : Value} {xs : List ByteArray} (h : NamesAt D w v xs) (hb : Below w.heap.size w w') : NamesAt D w' v xs := by
  rcases h with h | ⟨g, c, h1, h2, h3, h4⟩
  · exact .inl h
  · exact .inr ⟨g, c, h1, h2, h3.below hb, h4⟩
theorem NamesAt.len {D : Nat} {w : World} {v : Value} {xs : List ByteArray} (h : NamesAt D w v xs) : ∃ a c, v = .slice a xs.length c ∧ ((xs = [] ∧ a = none ∧ c = 0) ∨ ∃ g, a = some ⟨g, 0, none⟩ ∧ D < g ∧ TextsAt w g 0 xs ∧ xs.length ≤ c) := by
  rcases h with ⟨rfl, rfl⟩ | ⟨g, c, rfl, h2, h3, h4⟩
  · exact ⟨none, 0, rfl, .inl ⟨rfl, rfl, rfl⟩⟩
  · exact ⟨_, c, rfl, .inr ⟨g, rfl, h2, h3, h4⟩⟩
theorem ownOne (w : World) (s : ByteArray) (base : Nat) (h : base ≤ w.heap.size) : (w.alloc (.cells #[.string s] 9)).ownsRow base 9 1 (.slice (some ⟨w.heap.size, 0, none⟩) 1 1) 1 [.string s] :=
  ⟨rfl, .inr ⟨w.heap.size, 1, #[.string s], rfl, h, heap_alloc_new w _, Nat.le_refl _, by decide, rfl, rfl⟩⟩
theorem ownTexts {w : World} {base m : Nat} {v : Value} {xs : List ByteArray} (hx : xs.length = m) (hne : xs ≠ []) (h : w.ownsRow base 9 1 v m (xs.map Value.string)) : ∃ g c, v = .slice (some ⟨g, 0, none⟩) xs.length c ∧ base ≤ g ∧ TextsAt w g 0 xs ∧ xs.length ≤ c := by
  obtain ⟨_, ⟨_, h0⟩ | ⟨g, cap, cur, rfl, hg, hh, hc, _, hs, ht⟩⟩ := h
  · subst hx
    exact absurd (List.eq_nil_of_length_eq_zero h0) hne
  · subst hx
    refine ⟨g, cap, rfl, hg, ⟨(Array.getElem?_eq_some_iff.1 hh).1, fun j x hj => ?_⟩, hc⟩
    have hjl : j < xs.length := (List.getElem?_eq_some_iff.1 hj).1
    have h1 : cur.toList[j]? = some (.string x) := by
      have h2 : (cur.toList.take (xs.length * 1))[j]? = some (.string x) := by rw [ht]; simp [hj]
      rw [List.getElem?_take_of_lt (by omega)] at h2
      exact h2
    have h3 : cur[j]? = some (.string x) := by rw [← Array.getElem?_toList]; exact h1
    simp [World.cell?, hh, h3]
/-- the world's block D, as cells and as one that may be written -/
theorem blockD {w : World} {D : Nat} {x y : Value} {t : TypeId} (h : w.heap[D]? = some (.cells #[x, y] t)) : w.cell? ⟨D, 0, none⟩ = some x ∧ w.cell? ⟨D, 1, none⟩ = some y ∧ w.frozen? ⟨D, 0, none⟩ = false ∧ w.frozen? ⟨D, 1, none⟩ = false :=
  ⟨by simp [World.cell?, h], by simp [World.cell?, h], by simp [World.frozen?, h], by simp [World.frozen?, h]⟩
/-- behind the store -/
theorem setBelow {w w5 : World} {D : Nat} {x y : Value} {t : TypeId} (hb : Below w.heap.size w w5) (hD : w.heap.size ≤ D) (h : w5.heap[D]? = some (.cells #[x, y] t)) (u v : Value) :
    Below w.heap.size w ((w5.setCell ⟨D, 0, none⟩ u).setCell ⟨D, 1, none⟩ v) := by
  obtain ⟨s1, s2, s3, s4, s5, s6⟩ := set2 h u v
  exact ⟨s4.trans hb.os, s5.trans hb.tape, s6.trans hb.output, by rw [s3]; exact hb.size, fun q hq => by rw [s2 q (by omega)]; exact hb.block q hq⟩
theorem setTexts {w5 : World} {D g : Nat} {x y : Value} {t : TypeId} {xs : List ByteArray} (h : w5.heap[D]? = some (.cells #[x, y] t)) (u v : Value) (hg : D < g) (ht : TextsAt w5 g 0 xs) : TextsAt ((w5.setCell ⟨D, 0, none⟩ u).setCell ⟨D, 1, none⟩ v) g 0 xs := by
  obtain ⟨s1, s2, s3, s4, s5, s6⟩ := set2 h u v
  exact ⟨by rw [s3]; exact ht.lt, fun j x hj => by rw [World.cell?_of_block (s2 g (by omega))]; exact ht.cell j x hj⟩

set_option maxHeartbeats 8000000 in
theorem path8 (b o c : Nat) (ns : List Nd) (p : ByteArray) (n : Int) (w : World) (h : NodesAt w b o ns) (hlen : ns.length < 9223372036854775808) (hm : HasM w) (hnm : ∀ d ∈ ns, d.nm.size ≤ 100) :
    Calls Tryz.prog 8 #[.slice (some ⟨b, o, none⟩) ns.length c, .agg #[.string p, .int .i64 n]] w fun e w' => e = .returned (.string (pathS pathR ns p n)) ∧ Below w.heap.size w w' := by
  obtain ⟨R, hR⟩ : ∃ R, pathS pathR ns p n = R := ⟨_, rfl⟩
  rw [hR]
  unfold pathS at hR
  obtain ⟨G, hG⟩ : ∃ G, pathGo ns 17 p n [] = G := ⟨_, rfl⟩
  rw [hG] at hR
  have hm26 := guard26
  have he26 := eq26
  obtain ⟨i0, hi0, hz0, hz1, hz2⟩ := info_parts (show (Tryz.prog.info? 9).map (fun i => (i.zero, i.size, i.bytes)) = some (some (.string ⟨#[]⟩), 1, 16) by kernel_rfl)
  go_enter Tryz.func8, Tryz.ntmps8
  go_wp2
  go_loopw [5] (fun sv w' => Below w.heap.size w w' ∧ ∃ (names : List ByteArray) (dp : ByteArray) (dn : Int), names.length ≤ 16 ∧ (∀ x ∈ names, x.size ≤ 100) ∧ NamesAt w.heap.size w' sv names ∧ w'.heap[w.heap.size]? = some (.cells #[.string dp, .int .i64 dn] 26) ∧ pathGo ns (17 - names.length) dp dn names = G)
    (fun sv _ => match sv with | .slice _ k _ => (17 - k) | _ => 0)
  case atStart => exact ⟨belowAlloc w _, [], p, n, by simp, by simp, .inl ⟨rfl, rfl⟩, heap_alloc_new w _, hG⟩
  case round =>
    obtain ⟨hB, names, dp, dn, hl, hsz, hN, hD, hgo⟩ := hrel
    obtain ⟨hD0, hD1, -, -⟩ := blockD hD
    have hDs : w.heap.size < wr.heap.size := (Array.getElem?_eq_some_iff.1 hD).1
    have hBd : Below w.heap.size w wr.drew := belowTrans hB ⟨rfl, rfl, rfl, Nat.le_refl _, fun _ _ => rfl⟩
    have hNd : NamesAt w.heap.size wr.drew u5 names := hN.below ⟨rfl, rfl, rfl, Nat.le_refl _, fun _ _ => rfl⟩
    cases hroot : sameId dp dn ⟨#[]⟩ 0 with
    | true =>
      rw [pathGo_root hroot] at hgo
      subst hgo
      simp only at hR
      go_wp2
      go_region_held3 (fun w' => w'.cell? ⟨w.heap.size, 0, none⟩ = some (.string dp) ∧ w'.cell? ⟨w.heap.size, 1, none⟩ = some (.int .i64 dn)) (first | go_keep | exact ⟨by assumption, by assumption⟩)
        (first | (go_at_call 17; refine (root17k w.heap.size (.string dp) (.int .i64 dn) _ (by simp [*]) (by simp [*])).mono ?_; rintro e w' ⟨rfl, hb, k0, k1⟩))
      have hBw := belowTrans hBd hb
      have hNw := hNd.below hb
      go_wp2_with fail
      have hle := joinB_le names hsz
      refine (join18 _ names w' hNw.sl (by omega) (by omega) (hm.below hBw)).mono ?_
      rintro e w2 ⟨rfl, hb2⟩
      go_wp2
      go_ret
      exact ⟨rfl, belowTrans hBw hb2⟩
    | false =>
      go_wp2
      go_region_held3 (fun w' => w'.cell? ⟨w.heap.size, 0, none⟩ = some (.string dp) ∧ w'.cell? ⟨w.heap.size, 1, none⟩ = some (.int .i64 dn)) (first | go_keep | exact ⟨by assumption, by assumption⟩)
        (first | (go_at_call 17; refine (root17k w.heap.size (.string dp) (.int .i64 dn) _ (by simp [*]) (by simp [*])).mono ?_; rintro e w' ⟨rfl, hb, k0, k1⟩))
      have hBw := belowTrans hBd hb
      have hNw := hNd.below hb
      have hDw : w'.heap[w.heap.size]? = some (.cells #[.string dp, .int .i64 dn] 26) := (hb.block w.heap.size hDs).trans hD
      have e17 : 17 - names.length = (16 - names.length) + 1 := by omega
      rw [e17] at hgo
      have hcon := find13 b o c ns dp dn w' (h.below hBw) hlen
      clear hNd hN hB hBd hD hb
      rcases idxI_cases (selfIs dp dn) ns with hr | ⟨i, d, hr, hd, -⟩
      · rw [hr] at hcon
        rw [pathGo_miss hroot hr] at hgo
        subst hgo
        simp only at hR
        go_wp2_with (go_at_call 13; refine hcon.mono ?_; rintro e w3 ⟨rfl, hb'⟩)
        go_ret
        exact ⟨by rw [← hR]; rfl, belowTrans hBw hb'⟩
      · rw [hr] at hcon
        have hil : i < ns.length := (List.getElem?_eq_some_iff.1 hd).1
        have hk0 : ¬ (i : Int) < 0 := by omega
        have hk1 : (i : Int) < (ns.length : Int) := by omega
        obtain ⟨va, vc, rfl, hv⟩ := hNw.len
        clear hNw
        have hcells : ∀ w3, Below w'.heap.size w' w3 → w3.cell? ⟨b, o + i * 10 + 6, none⟩ = some (.string d.gone) ∧ w3.cell? ⟨b, o + i * 10 + 5, none⟩ = some (.string d.nm) := fun w3 hb' => by
          obtain ⟨-, -, -, -, -, c5, c6, -⟩ := (h.below (belowTrans hBw hb')).cell i d hd
          exact ⟨c6, c5⟩
        cases hg : d.gone.toList.isEmpty with
        | false =>
          have hge : ¬ (d.gone = ByteArray.empty ∧ names.length < 16) := fun hx => by
            rw [isEmpty_iff, decide_eq_true hx.1] at hg
            cases hg
          rw [pathGo_end hroot hr hd hge] at hgo
          subst hgo
          simp only at hR
          go_wp2_with (go_at_call 13; refine hcon.mono ?_; rintro e w3 ⟨rfl, hb'⟩; obtain ⟨c6, c5⟩ := hcells w3 hb')
          go_ret
          exact ⟨by rw [← hR]; rfl, belowTrans hBw hb'⟩
        | true =>
          have hgt : d.gone = ByteArray.empty := by
            rw [isEmpty_iff] at hg
            exact of_decide_eq_true hg
          by_cases h16 : names.length < 16
          · rw [pathGo_up hroot hr hd ⟨hgt, h16⟩] at hgo
            have h16' : ¬ (16 : Int) ≤ (names.length : Int) := by omega
            have hle1 : (d.nm :: names).length ≤ 16 := by simp; omega
            have hsz1 : ∀ x ∈ d.nm :: names, x.size ≤ 100 := fun x hx => by
              rcases List.mem_cons.1 hx with rfl | hx
              · exact hnm d (List.mem_of_getElem? hd)
              · exact hsz x hx
            have hgo1 : pathGo ns (17 - (d.nm :: names).length) d.pp d.pn (d.nm :: names) = G := by
              rw [List.length_cons, show 17 - (names.length + 1) = 16 - names.length from Nat.add_sub_add_right 16 1 names.length]
              exact hgo
            have hDlt : w.heap.size < w'.heap.size := (Array.getElem?_eq_some_iff.1 hDw).1
            -- what holds behind the append
            have fin : ∀ w5, Below w.heap.size w w5 → w5.heap[w.heap.size]? = some (.cells #[.string dp, .int .i64 dn] 26) → (w5.cell? ⟨b, o + i * 10 + 3, none⟩ = some (.string d.pp) ∧ w5.cell? ⟨b, o + i * 10 + 4, none⟩ = some (.int .i64 d.pn)) ∧ (w5.cell? ⟨w.heap.size, 0, none⟩ = some (.string dp) ∧ w5.cell? ⟨w.heap.size, 1, none⟩ = some (.int .i64 dn) ∧ w5.frozen? ⟨w.heap.size, 0, none⟩ = false ∧ w5.frozen? ⟨w.heap.size, 1, none⟩ = false) := fun w5 hb5 hd5 => by
              obtain ⟨-, -, -, c3, c4, -⟩ := (h.below hb5).cell i d hd
              exact ⟨⟨c3, c4⟩, blockD hd5⟩
            have hD3 : ∀ w3, Below w'.heap.size w' w3 → w3.heap[w.heap.size]? = some (.cells #[.string dp, .int .i64 dn] 26) := fun w3 hb' => (hb'.block w.heap.size hDlt).trans hDw
            rcases hv with ⟨rfl, rfl, rfl⟩ | ⟨g, rfl, hgD, htx, hcap⟩
            · go_wp2_with (first
                | (go_at_call 13; refine hcon.mono ?_; rintro e w3 ⟨rfl, hb'⟩; obtain ⟨c6, c5⟩ := hcells w3 hb')
                | (at_builtin; refine wpList_append_own_none rfl _ _ 28 rfl (w.heap.size + 1) 9 i0 1 Tryz.underlying28 hi0 _ _ _ rfl (ownOne w3 d.nm (w.heap.size + 1) (Nat.le_trans hDlt hb'.size)) rfl ?_; have hb5 := belowTrans (belowTrans hBw hb') (belowAlloc w3 (.cells #[.string d.nm] 9)); have hd5 := ((belowAlloc w3 (.cells #[.string d.nm] 9)).block w.heap.size (Nat.lt_of_lt_of_le hDlt hb'.size)).trans (hD3 w3 hb'); obtain ⟨⟨c3, c4⟩, d0, d1, d2, d3⟩ := fin _ hb5 hd5))
              have ht5 : TextsAt (w3.alloc (.cells #[.string d.nm] 9)) w3.heap.size 0 [d.nm] := by
                have := textsAt_new w3 [d.nm]
                exact this
              go_roundw
              case rel => exact ⟨setBelow hb5 (Nat.le_refl _) hd5 _ _, [d.nm], d.pp, d.pn, by simp, hsz1, .inr ⟨_, 1, rfl, Nat.lt_of_lt_of_le hDlt hb'.size, setTexts hd5 _ _ (Nat.lt_of_lt_of_le hDlt hb'.size) ht5, Nat.le_refl _⟩, (set2 hd5 _ _).1, hgo1⟩
              case measure => simp
            · have hnlt : names.length < 16 := h16
              go_wp2_with (first
                | (go_at_call 13; refine hcon.mono ?_; rintro e w3 ⟨rfl, hb'⟩; obtain ⟨c6, c5⟩ := hcells w3 hb')
                | (at_builtin; refine wpList_append_own _ rfl _ _ 28 rfl (w.heap.size + 1) 9 i0 (.string ⟨#[]⟩) 1 16 Tryz.underlying28 hi0 hz0 hz1 hz2 rfl (by decide) _ _ _ rfl (ownOne w3 d.nm (w.heap.size + 1) (Nat.le_trans hDlt hb'.size)) ⟨g, 0, none⟩ names.length vc (names.map Value.string) rfl (by simp) ?c1 ?c2 ?c3 ?c4 ?c5 ?_))
              case c1 =>
                intro j u hj
                rw [List.getElem?_map] at hj
                obtain ⟨x, hx, rfl⟩ := Option.map_eq_some_iff.1 hj
                have hcx := (htx.below (belowTrans hb' (belowAlloc w3 (.cells #[.string d.nm] 9)))).cell j x hx
                rw [Addr.add_lit]
                exact hcx
              case c2 =>
                intro u hu
                obtain ⟨x, _, rfl⟩ := List.mem_map.1 hu
                rfl
              case c3 => unfold maxLen; omega
              case c4 => omega
              case c5 =>
                have := Nat.le_trans hDlt hb'.size
                simp; omega
              intro v' w5 hown' hgrow _
              have h3lt : w.heap.size < w3.heap.size := Nat.lt_of_lt_of_le hDlt hb'.size
              have hb4 := belowTrans (belowTrans hBw hb') (belowAlloc w3 (.cells #[.string d.nm] 9))
              have hd4 := ((belowAlloc w3 (.cells #[.string d.nm] 9)).block w.heap.size h3lt).trans (hD3 w3 hb')
              have h4s : (w3.alloc (.cells #[.string d.nm] 9)).heap.size = w3.heap.size + 1 := by simp
              have hd5 : w5.heap[w.heap.size]? = some (.cells #[.string dp, .int .i64 dn] 26) := (hgrow.block w.heap.size (by omega) (by simp [Value.ownBlock]; omega)).trans hd4
              have hb5 : Below w.heap.size w w5 := ⟨hgrow.os.trans hb4.os, hgrow.tape.trans hb4.tape, hgrow.output.trans hb4.output, Nat.le_trans hb4.size hgrow.size, fun q hq => (hgrow.block q (by omega) (by simp [Value.ownBlock]; omega)).trans (hb4.block q hq)⟩
              obtain ⟨g5, c5', rfl, hg5, ht5, hc5⟩ := ownTexts (xs := d.nm :: names) (m := 1 + names.length) (by simp; omega) (by simp) hown'
              obtain ⟨⟨c3, c4⟩, d0, d1, d2, d3⟩ := fin _ hb5 hd5
              clear hgrow hown'
              go_wp2
              go_roundw
              case rel => exact ⟨setBelow hb5 (Nat.le_refl _) hd5 _ _, d.nm :: names, d.pp, d.pn, hle1, hsz1, .inr ⟨_, c5', rfl, hg5, setTexts hd5 _ _ hg5 ht5, hc5⟩, (set2 hd5 _ _).1, hgo1⟩
              case measure =>
                show 17 - (d.nm :: names).length < 17 - names.length
                simp only [List.length_cons]
                omega
          · have h16' : (16 : Int) ≤ (names.length : Int) := by omega
            rw [pathGo_end hroot hr hd (fun hx => h16 hx.2)] at hgo
            subst hgo
            simp only at hR
            go_wp2_with (go_at_call 13; refine hcon.mono ?_; rintro e w3 ⟨rfl, hb'⟩; obtain ⟨c6, c5⟩ := hcells w3 hb')
            all_goals go_ret
            all_goals exact ⟨by rw [← hR]; rfl, belowTrans hBw hb'⟩
end Go.Proofs.Np
