/- A PART OF THE PROOF THAT ONE CALL OF A LAW OF LAYER 18 (of nodes that may be, each path leads there) returns true, whatever the input; the input reads as it did. No condition beyond the given statement. This part: F3. -/
import Derived.Test.YtbnkcpbdpgjjbaaGreatDoorF4
import Derived.Test.YtbnkcpbdpgjjbaaGreatDoorF9
import Derived.Test.YtbnkcpbdpgjjbaaGreatDoorR6A
namespace Go.Proofs.Np
open Go Go.Proofs Go.RowKit
set_option maxRecDepth 1000000

/-- what the law asks of its input, else it is done -/
def Fit (ns : List Nd) (k : Nat) : Prop := ∀ i d, i < k → ns[i]? = some d → isRoot d.sp d.sn = false ∧ idxI (selfIs d.sp d.sn) ns = (i : Nat) ∧ (d.gone = ByteArray.empty → idxI (liesAt d.pp d.pn d.nm) ns = (i : Nat))

def AwakeSays : Prop := ∀ w : World, Calls Tryz.prog 5 #[] w fun e w' => e = .returned (.bool true) ∧ Below w.heap.size w w'

structure Hide (p : Prop) : Prop where
  out : p

theorem pathGo_small {ns : List Nd} (hnm : ∀ d ∈ ns, d.nm.size ≤ 100) : ∀ (k : Nat) (p : ByteArray) (n : Int) (names L : List ByteArray), pathGo ns k p n names = some L → names.length ≤ 16 → (∀ x ∈ names, x.size ≤ 100) → L.length ≤ 16 ∧ ∀ x ∈ L, x.size ≤ 100
  | k, p, n, names, L, h, hl, hs => by
    unfold pathGo at h
    split at h
    · obtain rfl := Option.some.inj h
      exact ⟨hl, hs⟩
    · match k, h with
      | 0, h => cases h
      | k + 1, h =>
        simp only at h
        split at h
        · rename_i d hd h0
          split at h
          · rename_i hg
            refine pathGo_small hnm k d.pp d.pn (d.nm :: names) L h (by have := hg.2; simp; omega) fun x hx => ?_
            rcases List.mem_cons.1 hx with rfl | hx
            · exact hnm d (List.mem_of_getElem? hd)
            · exact hs x hx
          · cases h
        · cases h
theorem pathS_small {ns : List Nd} (hnm : ∀ d ∈ ns, d.nm.size ≤ 100) (p : ByteArray) (n : Int) : (pathS pathR ns p n).size ≤ 1616 := by
  unfold pathS
  split
  · rename_i L hL
    obtain ⟨h1, h2⟩ := pathGo_small hnm 17 p n [] L hL (by simp) (by simp)
    unfold joinS
    split
    · have := joinB_le L h2
      omega
    · exact Nat.zero_le _
  · exact Nat.zero_le _

set_option maxHeartbeats 16000000 in
theorem law3 (haw : AwakeSays) (a : Option Addr) (c : Nat) (ns : List Nd) (w : World) (h : ns.length = 0 ∨ ∃ b o, a = some ⟨b, o, none⟩ ∧ NodesAt w b o ns) (hlen : ns.length < 9223372036854775808) (hm : HasM w) :
    Calls Tryz.prog 3 #[.slice a ns.length c] w fun e w' => e = .returned (.bool true) ∧ Below w.heap.size w w' := by
  go_enter Tryz.func3, Tryz.ntmps3
  go_wp2_with fail
  refine (light4 a c ns w h hlen).mono ?_
  rintro e w1 ⟨⟨t, rfl, hsz⟩, hb1⟩
  cases t with
  | false =>
    go_wp2_with fail
    refine (haw w1).mono ?_
    rintro e w2 ⟨rfl, hb2⟩
    go_wp2
    go_ret
    exact ⟨rfl, belowTrans hb1 hb2⟩
  | true =>
    have hs0 := hsz rfl
    clear hsz
    go_wp2
    go_loopw [3] (fun x w' => Below w.heap.size w w' ∧ ∃ i : Nat, i ≤ ns.length ∧ x = .int .i64 i ∧ Fit ns i) (fun x _ => match x with | .int _ i => (ns.length - i.toNat) | _ => 0)
    case atStart => exact ⟨hb1, 0, Nat.zero_le _, rfl, fun j d hj => absurd hj (Nat.not_lt_zero _)⟩
    case round =>
      obtain ⟨hB, i, hi, rfl, hfit⟩ := hrel
      by_cases hlt : i < ns.length
      · obtain h0 | ⟨b, o, rfl, hN⟩ := h
        · omega
        have hd : ns[i]? = some ns[i] := List.getElem?_eq_getElem hlt
        have hlt' : (i : Int) < (ns.length : Int) := by omega
        have hnn : ¬ (i : Int) < 0 := by omega
        have hnn0 : (0 : Int) ≤ (i : Int) := by omega
        have hNr := hN.below hB
        obtain ⟨c0, c1, -, c3, c4, c5, c6, -⟩ := hNr.cell i _ hd
        have hm26 := guard26
        have he26 := eq26
        have go : ∀ (hq : isRoot ns[i].sp ns[i].sn = false ∧ idxI (selfIs ns[i].sp ns[i].sn) ns = (i : Nat) ∧ (ns[i].gone = ByteArray.empty → idxI (liesAt ns[i].pp ns[i].pn ns[i].nm) ns = (i : Nat))), Fit ns (i + 1) := fun hq j d hj hd2 => by
          by_cases e : j = i
          · subst e; rw [hd] at hd2; obtain rfl := Option.some.inj hd2; exact hq
          · exact hfit j d (by omega) hd2
        cases hself : sameId ns[i].sp ns[i].sn ⟨#[]⟩ 0 with
        | true =>
          go_wp2_with fail
          go_quiet (fail)
          go_wp2_with fail
          refine (haw _).mono ?_
          rintro e w2 ⟨rfl, hb2⟩
          go_wp2
          go_ret
          exact ⟨rfl, belowTrans hB ⟨hb2.os, hb2.tape, hb2.output, hb2.size, hb2.block⟩⟩
        | false =>
          by_cases hr : idxI (selfIs ns[i].sp ns[i].sn) ns = (i : Nat)
          · cases hg : ns[i].gone.toList.isEmpty with
            | false =>
              have hng : ¬ ns[i].gone = ByteArray.empty := fun e => by
                rw [isEmpty_iff, decide_eq_true e] at hg; cases hg
              go_wp2_with fail
              refine region6B b o c i ns ns[i] 0 wr hNr hlt hlen hd hself hr hg _ rfl rfl rfl _ fun u w2 hb2 => ?_
              rw [behind6_lit]
              go_wp2
              go_roundw
              case rel => exact ⟨belowTrans hB hb2, i + 1, by omega, by push_cast; rfl, go ⟨hself, hr, fun e => absurd e hng⟩⟩
              case measure =>
                show ns.length - ((i : Int) + 1).toNat < ns.length - (i : Int).toNat
                omega
            | true =>
              by_cases hat : idxI (liesAt ns[i].pp ns[i].pn ns[i].nm) ns = (i : Nat)
              · go_wp2_with fail
                refine region6D b o c i ns ns[i] 0 wr hNr hlt hlen hd hself hr hg hat _ rfl rfl rfl _ fun u w2 hb2 => ?_
                rw [behind6_lit]
                go_wp2
                go_roundw
                case rel => exact ⟨belowTrans hB hb2, i + 1, by omega, by push_cast; rfl, go ⟨hself, hr, fun _ => hat⟩⟩
                case measure =>
                  show ns.length - ((i : Int) + 1).toNat < ns.length - (i : Int).toNat
                  omega
              · go_wp2_with fail
                refine region6C b o c i ns ns[i] _ wr hNr hlt hlen hd hself hr hg rfl (by simpa using hat) _ rfl rfl rfl _ fun u w2 hb2 => ?_
                rw [behind6_lit]
                go_wp2_with fail
                refine (haw w2).mono ?_
                rintro e w3 ⟨rfl, hb3⟩
                go_wp2
                go_ret
                exact ⟨rfl, belowTrans (belowTrans hB hb2) hb3⟩
          · go_wp2_with fail
            refine region6A b o c i ns ns[i] _ wr hNr hlt hlen hd hself rfl (by simpa using hr) _ rfl rfl rfl _ fun u w2 hb2 => ?_
            rw [behind6_lit]
            go_wp2_with fail
            refine (haw w2).mono ?_
            rintro e w3 ⟨rfl, hb3⟩
            go_wp2
            go_ret
            exact ⟨rfl, belowTrans (belowTrans hB hb2) hb3⟩
      · have hlt' : ¬ (i : Int) < (ns.length : Int) := by omega
        obtain rfl : i = ns.length := by omega
        have hself : ∀ i d, ns[i]? = some d → idxI (selfIs d.sp d.sn) ns = (i : Nat) := fun i d hd => (hfit i d (List.getElem?_eq_some_iff.1 hd).1 hd).2.1
        have hat : ∀ i d, ns[i]? = some d → d.gone = ByteArray.empty → idxI (liesAt d.pp d.pn d.nm) ns = (i : Nat) := fun i d hd => (hfit i d (List.getElem?_eq_some_iff.1 hd).1 hd).2.2
        have hnr : ∀ (i : Nat) (d : Nd), ns[i]? = some d → isRoot d.sp d.sn = false := fun i d hd => (hfit i d (List.getElem?_eq_some_iff.1 hd).1 hd).1
        have hnm : ∀ d ∈ ns, d.nm.size ≤ 100 := fun d hd => by
          obtain ⟨j, hj, rfl⟩ := List.getElem_of_mem hd
          exact hs0 j _ (List.getElem?_eq_getElem hj)
        clear hfit hi hlt hlt'
        go_wp2
        go_loopw [4] (fun x w' => Below w.heap.size w w' ∧ ∃ k : Nat, k ≤ ns.length ∧ x = .int .i64 k) (fun x _ => match x with | .int _ i => (ns.length - i.toNat) | _ => 0)
        case atStart => exact ⟨hB, 0, Nat.zero_le _, rfl⟩
        case round =>
          obtain ⟨hB2, k, hk, rfl⟩ := hrel
          by_cases hkl : k < ns.length
          · obtain h0 | ⟨b, o, rfl, hN⟩ := h
            · omega
            have hd : ns[k]? = some ns[k] := List.getElem?_eq_getElem hkl
            have hlt' : (k : Int) < (ns.length : Int) := by omega
            have hnn : ¬ (k : Int) < 0 := by omega
            have hnn0 : (0 : Int) ≤ (k : Int) := by omega
            obtain ⟨c0, c1, -⟩ := (hN.below hB2).cell k _ hd
            have hsm := pathS_small hnm ns[k].sp ns[k].sn
            have hpath := path8 b o c ns ns[k].sp ns[k].sn wr (hN.below hB2) hlen (hm.below hB2) hnm
            have hlook := path_look (right := pathR) hself hat hd (hnr k _ hd)
            generalize pathS pathR ns ns[k].sp ns[k].sn = q at hsm hpath hlook
            cases hqe : q.toList.isEmpty with
            | true =>
              go_wp2_with (go_at_call 8; refine hpath.mono ?_; rintro e w2 ⟨rfl, hb2⟩)
              go_roundw
              case rel => exact ⟨belowTrans hB2 hb2, k + 1, by omega, by push_cast; rfl⟩
              case measure =>
                show ns.length - ((k : Int) + 1).toNat < ns.length - (k : Int).toNat
                omega
            | false =>
              have hne : q ≠ ByteArray.empty := fun e => by
                rw [isEmpty_iff, decide_eq_true e] at hqe; cases hqe
              have hlook := hlook hne
              have hlk : ∀ w2, Below wr.heap.size wr w2 → Calls Tryz.prog 9 #[.slice (some ⟨b, o, none⟩) ns.length c, .string q] w2 fun e w' => e = .returned (.int .i64 (k : Int)) ∧ Below w2.heap.size w2 w' := fun w2 hb2 => by
                have := look9 b o c ns q w2 (hN.below (belowTrans hB2 hb2)) hlen (by omega) (hm.below (belowTrans hB2 hb2))
                rw [hlook] at this
                exact this
              go_wp2_with (first
                | (go_at_call 8; refine hpath.mono ?_; rintro e w2 ⟨rfl, hb2⟩)
                | (go_at_call 9; refine (hlk w2 hb2).mono ?_; rintro e w3 ⟨rfl, hb3⟩))
              go_roundw
              case rel => exact ⟨belowTrans (belowTrans hB2 hb2) hb3, k + 1, by omega, by push_cast; rfl⟩
              case measure =>
                show ns.length - ((k : Int) + 1).toNat < ns.length - (k : Int).toNat
                omega
          · have hlt' : ¬ (k : Int) < (ns.length : Int) := by omega
            go_wp2_with fail
            refine (haw _).mono ?_
            rintro e w3 ⟨rfl, hb3⟩
            go_wp2
            go_ret
            exact ⟨rfl, belowTrans hB2 hb3⟩
end Go.Proofs.Np
