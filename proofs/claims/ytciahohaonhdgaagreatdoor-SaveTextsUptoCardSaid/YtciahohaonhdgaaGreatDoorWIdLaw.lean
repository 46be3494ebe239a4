/- A PART OF THE PROOF THAT SAVETEXTS HOLDS FOR EVERY INPUT OF BULK AT MOST 1048576. No condition beyond the given statement. This part: WIdLaw. -/
import Derived.Test.YtciahohaonhdgaaGreatDoorWCode
import Derived.Test.YtciahohaonhdgaaGreatDoorNodesLaw
import Derived.Lib.CutLaws
import Derived.Test.YtciahohaonhdgaaGreatDoorWHead
import Derived.Test.YtciahohaonhdgaaGreatDoorWName
import Derived.Test.YtciahohaonhdgaaGreatDoorRegRG
import Derived.Test.YtciahohaonhdgaaGreatDoorWOwn
namespace Go.Proofs.W
open Go Go.Proofs
set_option maxRecDepth 100000
def idR (p : ByteArray) (n : Int) : Bool := if p.size = 0 then decide (0 ≤ n) && decide (n ≤ 2) else nameR p && decide (0 ≤ n) && decide (n ≤ 1048576)
def hashB : ByteArray := ⟨#[35]⟩
def idT (p : ByteArray) (n : Int) : ByteArray := if idR p n then p ++ hashB ++ ofL (decB n.toNat) else ⟨#[]⟩
def cutP (s : ByteArray) : ByteArray := ofL (Lib.cut s.data.toList [35]).1
def cutN (s : ByteArray) : Int := (numV ((Lib.cut s.data.toList [35]).2.1.take 8) : Int)
def idBad (s : ByteArray) : Bool := decide (s.size = 0) || !decide (idT (cutP s) (cutN s) = s)
def idPp (s : ByteArray) : ByteArray := if idBad s then ⟨#[]⟩ else cutP s
def idPn (s : ByteArray) : Int := if idBad s then 0 else cutN s
def idPe (s : ByteArray) : Int := if idBad s then 6 else 0
theorem idR_range {p : ByteArray} {n : Int} (h : idR p n = true) : 0 ≤ n ∧ n ≤ 1048576 := by
 unfold idR at h
 split at h <;> simp only [Bool.and_eq_true, decide_eq_true_eq] at h <;> omega
theorem cut_hash {l r : List UInt8} (h : (35 : UInt8) ∉ l) : Lib.cut (l ++ 35 :: r) [35] = (l, r, true) := by
 have hix : Lib.index (l ++ 35 :: r) [35] = l.length := by
  refine Lib.index_first (by simp) ?_ ?_
  ·simp [Lib.occAt]
  ·intro j hj
   unfold Lib.occAt
   rw [List.drop_append_of_le_length (by omega), List.drop_eq_getElem_cons hj]
   have : l[j] ≠ 35 := fun e => h (e ▸ List.getElem_mem hj)
   simp only [List.cons_append, List.isPrefixOf, Bool.and_true]
   exact beq_eq_false_iff_ne.2 fun e => this e.symm
 unfold Lib.cut
 rw [hix, if_pos (by omega)]
 simp
theorem no_hash {p : ByteArray} {n : Int} (h : idR p n = true) : (35 : UInt8) ∉ p.data.toList := by
 unfold idR at h
 split at h
 ·rename_i h0
  have : p.data.toList = [] := List.eq_nil_of_length_eq_zero (by rw [Array.length_toList]; exact h0)
  rw [this]; simp
 ·simp only [Bool.and_eq_true] at h
  have hg := ((nameR_iff p).1 h.1.1).2.2.2.2
  intro hm
  obtain ⟨j, hj, e⟩ := List.getElem_of_mem hm
  have hj' : j < p.size := by rw [Array.length_toList] at hj; exact hj
  have h1 := hg j (Nat.zero_le _) hj'
  have h2 : p.get! j = 35 := by
   cases p with
   | mk d => simp [ByteArray.get!, show j < d.size from hj'] ; simpa using e
  rw [h2] at h1
  exact absurd h1 (by decide)
theorem idT_data {p : ByteArray} {n : Int} (h : idR p n = true) : (idT p n).data.toList = p.data.toList ++ 35 :: decB n.toNat := by
 unfold idT
 rw [if_pos h]
 simp [hashB, ofL]
theorem idP_cut {p : ByteArray} {n : Int} (h : idR p n = true) : cutP (idT p n) = p ∧ cutN (idT p n) = n := by
 unfold cutP cutN
 rw [idT_data h, cut_hash (no_hash h)]
 obtain ⟨h0, h1⟩ := idR_range h
 have hl := decB_length 8 n.toNat (by decide) (by omega)
 refine ⟨ofL_data p, ?_⟩
 simp only
 rw [List.take_of_length_le hl, numV_decB]
 omega
theorem idP_ok {p : ByteArray} {n : Int} (h : idR p n = true) : idBad (idT p n) = false := by
 unfold idBad
 obtain ⟨h1, h2⟩ := idP_cut h
 rw [h1, h2]
 have hs : (idT p n).size ≠ 0 := by
  have : (idT p n).size = (idT p n).data.toList.length := by rw [Array.length_toList]; rfl
  rw [this, idT_data h]
  simp
 simp [hs]
theorem idP_back {p : ByteArray} {n : Int} (h : idR p n = true) : idPp (idT p n) = p ∧ idPn (idT p n) = n ∧ idPe (idT p n) = 0 := by
 obtain ⟨h1, h2⟩ := idP_cut h
 unfold idPp idPn idPe
 rw [idP_ok h]
 exact ⟨h1, h2, rfl⟩
theorem idT_size {p : ByteArray} {n : Int} : (idT p n).size ≤ 48 := by
 by_cases h : idR p n = true
 ·have : (idT p n).size = (idT p n).data.toList.length := by rw [Array.length_toList]; rfl
  rw [this, idT_data h]
  obtain ⟨h0, h1⟩ := idR_range h
  have hl := decB_length 7 n.toNat (by decide) (by omega)
  have hp : p.size ≤ 40 := by
   unfold idR at h
   split at h
   ·omega
   ·simp only [Bool.and_eq_true] at h
    exact nameR_size h.1.1
  have : p.data.toList.length = p.size := by rw [Array.length_toList]; rfl
  simp only [List.length_append, List.length_cons]
  omega
 ·unfold idT
  rw [if_neg h]
  exact Nat.zero_le _
theorem numV_lt : ∀ (l : List UInt8) (a : Nat), (∀ k, l.foldl (fun x c => 10 * x + digV c) a < (a + 1) * 10 ^ l.length + k) := by
 intro l
 induction l with
 | nil => intro a k; simp; omega
 | cons c l ih =>
  intro a k
  have hc : digV c ≤ 9 := by unfold digV; split <;> omega
  have := ih (10 * a + digV c) k
  rw [List.foldl_cons, List.length_cons, Nat.pow_succ]
  have h2 : (10 * a + digV c + 1) * 10 ^ l.length ≤ (a + 1) * (10 ^ l.length * 10) := by
   rw [Nat.mul_comm (10 ^ l.length) 10, ← Nat.mul_assoc]
   exact Nat.mul_le_mul_right _ (by omega)
  omega
end Go.Proofs.W
namespace Go.Proofs.W
open Go Go.Proofs Go.RowKit Go.Op
set_option maxRecDepth 1000000
def sameId (q : ByteArray) (a : Int) (p : ByteArray) (n : Int) : Bool := decide (q = p) && decide (a = n)
theorem eqId (p q : ByteArray) (n a : Int) (w : World) : (Op.equalIn 10000 38 (.agg #[.string q, .int .i64 a]) (.agg #[.string p, .int .i64 n])).run Tryz.prog w = .ok (sameId q a p n) w := by
 unfold sameId
 have u3 := Tryz.underlying3
 have u9 := Tryz.underlying9
 have a3 := Tryz.isAgg3
 have z3 := Tryz.sizeOf3
 have a9 := Tryz.isAgg9
 have z9 := Tryz.sizeOf9
 have hS : Tryz.prog.underlying 38 = some (.struct (Tryz.prog.fieldsOf 38)) := by kernel_rfl
 have hp : Tryz.prog.stoodInHeld 38 = false := by kernel_rfl
 rw [show (10000 : Nat) = 9999 + 1 from rfl, run_equalIn_agg w 9999 38 _ _ hS hp]
 simp only [Program.fieldsOf, Tryz.underlying38]
 go_simp
 have hl : ¬ q = p → ¬ q.toList = p.toList := fun h e => h (by
  rw [ByteArray.toList_eq, ByteArray.toList_eq] at e
  exact Go.WideShapes.bytes_inj e)
 by_cases h1 : q = p <;> by_cases h2 : a = n <;> simp [h1, h2]
 all_goals exact hl h1
theorem guardId : Tryz.prog.eqGuardType Tryz.prog.depth 38 = false := by kernel_rfl
end Go.Proofs.W
namespace Go.Proofs.W
open Go Go.Proofs Go.RowKit Go.Op
set_option maxRecDepth 1000000
theorem id_Root (w : World) : Calls Tryz.prog 135 #[] w fun e w' => e = .returned (.agg #[.string ⟨#[]⟩, .int .i64 0]) ∧ Below w.heap.size w w' := by
 have hA := belowAlloc w (.cells #[.string ⟨#[]⟩, .int .i64 0] 38)
 have HA : Hid _ := hA
 clear hA
 go_enter Tryz.func135, Tryz.ntmps135
 go_wp2
 refine bodyPost_ret (by simp [results, Tryz.results135, go_sem]; try rfl) rfl ?_
 exact ⟨rfl, HA.out⟩
theorem id_Begin (w : World) : Calls Tryz.prog 136 #[] w fun e w' => e = .returned (.agg #[.string ⟨#[]⟩, .int .i64 1]) ∧ Below w.heap.size w w' := by
 have hA := belowAlloc w (.cells #[.string ⟨#[]⟩, .int .i64 1] 38)
 have HA : Hid _ := hA
 clear hA
 go_enter Tryz.func136, Tryz.ntmps136
 go_wp2
 refine bodyPost_ret (by simp [results, Tryz.results136, go_sem]; try rfl) rfl ?_
 exact ⟨rfl, HA.out⟩
theorem id_End (w : World) : Calls Tryz.prog 137 #[] w fun e w' => e = .returned (.agg #[.string ⟨#[]⟩, .int .i64 2]) ∧ Below w.heap.size w w' := by
 have hA := belowAlloc w (.cells #[.string ⟨#[]⟩, .int .i64 2] 38)
 have HA : Hid _ := hA
 clear hA
 go_enter Tryz.func137, Tryz.ntmps137
 go_wp2
 refine bodyPost_ret (by simp [results, Tryz.results137, go_sem]; try rfl) rfl ?_
 exact ⟨rfl, HA.out⟩
def orB (n : Int) (k : Nat) : Bool := if k = 0 then decide (n = 0) else if k = 1 then (decide (n = 0) || decide (n = 1)) else (decide (n = 0) || decide (n = 1) || decide (n = 2))
def RV (p : ByteArray) (n : Int) (i : Nat) (v : Value) (_ : World) : Prop := match i with
 | 0 => v = .agg #[.string p, .int .i64 n]
 | 1 => v = .agg #[.string ⟨#[]⟩, .int .i64 0]
 | 2 => v = .bool (decide (n = 0))
 | 3 => v = .bool (decide (n = 0))
 | 4 => n ≠ 0 → v = .agg #[.string p, .int .i64 n]
 | 5 => n ≠ 0 → v = .agg #[.string ⟨#[]⟩, .int .i64 1]
 | 6 => n ≠ 0 → v = .bool (decide (n = 1))
 | 7 => v = .bool (orB n 1)
 | 8 => v = .bool (orB n 1)
 | 9 => orB n 1 = false → v = .agg #[.string p, .int .i64 n]
 | 10 => orB n 1 = false → v = .agg #[.string ⟨#[]⟩, .int .i64 2]
 | 11 => orB n 1 = false → v = .bool (decide (n = 2))
 | 12 => v = .bool (orB n 2)
 | _ => True
theorem RV.below {p : ByteArray} {n : Int} {W W' : World} (_ : Below W.heap.size W W') (j : Nat) (u : Value) (h : RV p n j u W) : RV p n j u W' := h
theorem orB_range (n : Int) : orB n 2 = (decide (0 ≤ n) && decide (n ≤ 2)) := by
 unfold orB
 rw [Bool.eq_iff_iff]
 simp
 omega
set_option maxHeartbeats 8000000 in
theorem id_Right (p : ByteArray) (n : Int) (w : World) : Calls Tryz.prog 92 #[.agg #[.string p, .int .i64 n]] w fun e w' => e = .returned (.bool (idR p n)) ∧ Below w.heap.size w w' := by
  have mixed : Tryz.prog.follows .mixedOrders = true := by kernel_rfl
  obtain ⟨W0, hW0⟩ : ∃ W0, W0 = w.alloc (.cells #[.string p, .int .i64 n] 38) := ⟨_, rfl⟩
  have hA : Below w.heap.size w W0 := by rw [hW0]; exact belowAlloc _ _
  have hb : W0.heap[w.heap.size]? = some (.cells #[.string p, .int .i64 n] 38 (0, 0)) := by rw [hW0]; exact (MapKept.heap_alloc _ _).1
  have k0' : W0.cell? ⟨w.heap.size, 0, none⟩ = some (.string p) := by simp [World.cell?, hb]
  have k1' : W0.cell? ⟨w.heap.size, 1, none⟩ = some (.int .i64 n) := by simp [World.cell?, hb]
  have hlt : w.heap.size < W0.heap.size := (Array.getElem?_eq_some_iff.1 hb).1
  have h2 : p.toList.isEmpty = true ↔ p.size = 0 := by
    rw [ByteArray.toList_eq, List.isEmpty_iff, ← List.length_eq_zero_iff, Array.length_toList]
    rfl
  cases h0 : p.toList.isEmpty
  · have hz : ¬ p.size = 0 := fun e => by rw [h2.2 e] at h0; cases h0
    have hid : idR p n = (nameR p && decide (0 ≤ n) && decide (n ≤ 1048576)) := by unfold idR; rw [if_neg hz]
    have HR : Hid _ := name_Right p W0
    rw [hid]
    have HA : Hid _ := hA
    have HK : Hid (∀ w', Below W0.heap.size W0 w' → w'.cell? ⟨w.heap.size, 1, none⟩ = some (.int .i64 n)) := fun w' hb' => by
      have e1 := (hb'.block w.heap.size hlt).trans hb
      simp [World.cell?, e1]
    clear hid h2 hz hA hb k1' hlt
    generalize nameR p = r at HR ⊢
    go_enter Tryz.func92, Tryz.ntmps92
    go_wp2_with fail
    simp only [← hW0]
    refine Calls.mono HR.out ?_
    rintro e w' ⟨rfl, hb'⟩
    have HB : Hid _ := belowTrans HA.out hb'
    have k1 := HK.out w' hb'
    clear hb' hW0
    cases r <;> by_cases q1 : (0 : Int) ≤ n <;> by_cases q2 : n ≤ 1048576
    all_goals first
      | (exfalso; omega)
      | (go_wp2
         go_ret
         exact ⟨by simp [*], HB.out⟩)
  · have hz : p.size = 0 := h2.1 h0
    have hid : idR p n = orB n 2 := by rw [orB_range]; unfold idR; rw [if_pos hz]
    have hp0 : p = ⟨#[]⟩ := ByteArray.ext (Array.eq_empty_of_size_eq_zero hz)
    have hE := eqId
    have hG := guardId
    have hS : ∀ k : Int, sameId p n ⟨#[]⟩ k = decide (n = k) := fun k => by unfold sameId; rw [decide_eq_true hp0, Bool.true_and]
    have hS0 := hS 0
    have hS1 := hS 1
    have hS2 := hS 2
    rw [hid]
    have HA : Hid _ := hA
    have HB0 : Hid _ := hb
    clear hid h2 hz hA hb hS hp0
    have HLT : Hid _ := hlt
    clear hlt
    go_enter Tryz.func92, Tryz.ntmps92
    go_wp2_with fail
    simp only [← hW0]
    clear k0' k1' hW0
    refine wp_region_gx 13 13 32 (by kernel_rfl) ?ok ?forced rfl (fun _ => RV p n) (fun W => Below W0.heap.size W0 W) (belowDrew1 _) ?step ?fin
    case ok => kernel_rfl
    case forced => kernel_rfl
    case step =>
      intro i' o hi' ho L A W hLi hpre hF hJ hV
      have s1 : A.tmps[1]? = some (.pointer (some ⟨w.heap.size, 0, none⟩)) := hF.at (by kernel_rfl) rfl
      have d1 := (hJ.block w.heap.size HLT.out).trans HB0.out
      have k0 : W.cell? ⟨w.heap.size, 0, none⟩ = some (.string p) := by simp [World.cell?, d1]
      have k1 : W.cell? ⟨w.heap.size, 1, none⟩ = some (.int .i64 n) := by simp [World.cell?, d1]
      have hWs := hJ.size
      match i', hi' with
      | 0, _ =>
        cases ho
        refine .inl ⟨wanted_none rfl, fun K hK => rg_val (v := .agg #[.string p, .int .i64 n]) ?_ (hK _ _ (fun j u _ => RV.below (Below.refl _ _) j u) rfl hJ)⟩
        simp [execOp, Act.eval, go_sem, s1, k0, k1]
      | 1, _ =>
        cases ho
        refine .inl ⟨wanted_none rfl, fun K hK => rg_enter (f := 135) (args := #[]) (w' := W) ?_ (id_Root W) ?_ ?_ ?_⟩
        · simp [Act.eval, go_sem]
        · rintro v w'' ⟨e, hb⟩
          cases e
          exact hK _ _ (fun j u _ => RV.below hb j u) rfl (hJ.trans (hb.mono hWs))
        · rintro chain w'' ⟨e, _⟩
          cases e
        · rintro w'' ⟨e, _⟩
          cases e
      | 2, _ =>
        cases ho
        have sx := hF.slot (i := 0) rfl (by simp) (hV 0 (hpre ⟨0, .data⟩ (by simp) rfl))
        have sy := hF.slot (i := 1) rfl (by simp) (hV 1 (hpre ⟨1, .data⟩ (by simp) rfl))
        refine .inl ⟨wanted_none rfl, fun K hK => rg_val (v := .bool (decide (n = 0))) ?_ (hK _ _ (fun j u _ => RV.below (Below.refl _ _) j u) rfl hJ)⟩
        simp [execOp, Act.eval, go_sem, sx, sy, hE, hG, hS0]
      | 3, _ =>
        cases ho
        have sx := hF.slot (i := 2) rfl (by simp) (hV 2 (hpre ⟨2, .data⟩ (by simp) rfl))
        refine .inl ⟨wanted_none rfl, fun K hK => rg_val (v := .bool (decide (n = 0))) ?_ (hK _ _ (fun j u _ => RV.below (Below.refl _ _) j u) rfl hJ)⟩
        simp [execOp, Act.eval, go_sem, sx]
      | 4, _ =>
        cases ho
        by_cases hc : n ≠ 0
        · refine .inl ⟨wantedN hF rfl rfl (by simp) ((hV 3 (hpre ⟨3, .guard⟩ (by simp) rfl)).trans (by simp [hc])), fun K hK => rg_val (v := .agg #[.string p, .int .i64 n]) ?_ (hK _ _ (fun j u _ => RV.below (Below.refl _ _) j u) (fun _ => rfl) hJ)⟩
          simp [execOp, Act.eval, go_sem, s1, k0, k1]
        · exact .inr ⟨unwantedN hF rfl rfl (by simp) ((hV 3 (hpre ⟨3, .guard⟩ (by simp) rfl)).trans (by simp at hc; simp [hc])), fun j u _ h => h, fun h => absurd h hc⟩
      | 5, _ =>
        cases ho
        by_cases hc : n ≠ 0
        · refine .inl ⟨wantedN hF rfl rfl (by simp) ((hV 3 (hpre ⟨3, .guard⟩ (by simp) rfl)).trans (by simp [hc])), fun K hK => rg_enter (f := 136) (args := #[]) (w' := W) ?_ (id_Begin W) ?_ ?_ ?_⟩
          · simp [Act.eval, go_sem]
          · rintro v w'' ⟨e, hb⟩
            cases e
            exact hK _ _ (fun j u _ => RV.below hb j u) (fun _ => rfl) (hJ.trans (hb.mono hWs))
          · rintro chain w'' ⟨e, _⟩
            cases e
          · rintro w'' ⟨e, _⟩
            cases e
        · exact .inr ⟨unwantedN hF rfl rfl (by simp) ((hV 3 (hpre ⟨3, .guard⟩ (by simp) rfl)).trans (by simp at hc; simp [hc])), fun j u _ h => h, fun h => absurd h hc⟩
      | 6, _ =>
        cases ho
        by_cases hc : n ≠ 0
        · have sx := hF.slot (i := 4) rfl (by simp) (hV 4 (hpre ⟨4, .data⟩ (by simp) rfl) hc)
          have sy := hF.slot (i := 5) rfl (by simp) (hV 5 (hpre ⟨5, .data⟩ (by simp) rfl) hc)
          refine .inl ⟨wantedN hF rfl rfl (by simp) ((hV 3 (hpre ⟨3, .guard⟩ (by simp) rfl)).trans (by simp [hc])), fun K hK => rg_val (v := .bool (decide (n = 1))) ?_ (hK _ _ (fun j u _ => RV.below (Below.refl _ _) j u) (fun _ => rfl) hJ)⟩
          simp [execOp, Act.eval, go_sem, sx, sy, hE, hG, hS1]
        · exact .inr ⟨unwantedN hF rfl rfl (by simp) ((hV 3 (hpre ⟨3, .guard⟩ (by simp) rfl)).trans (by simp at hc; simp [hc])), fun j u _ h => h, fun h => absurd h hc⟩
      | 7, _ =>
        cases ho
        have sx := hF.slot (i := 3) rfl (by simp) (hV 3 (hpre ⟨3, .data⟩ (by simp) rfl))
        refine .inl ⟨wanted_none rfl, fun K hK => rg_val (v := .bool (orB n 1)) ?_ (hK _ _ (fun j u _ => RV.below (Below.refl _ _) j u) rfl hJ)⟩
        by_cases hc : n ≠ 0
        · have sy := hF.slot (i := 6) rfl (by simp) (hV 6 (hpre ⟨6, .data⟩ (by simp) rfl) hc)
          simp [execOp, Act.eval, go_sem, sx, sy, orB, hc]
        · simp at hc
          simp [execOp, Act.eval, go_sem, sx, orB, hc]
      | 8, _ =>
        cases ho
        have sx := hF.slot (i := 7) rfl (by simp) (hV 7 (hpre ⟨7, .data⟩ (by simp) rfl))
        refine .inl ⟨wanted_none rfl, fun K hK => rg_val (v := .bool (orB n 1)) ?_ (hK _ _ (fun j u _ => RV.below (Below.refl _ _) j u) rfl hJ)⟩
        simp [execOp, Act.eval, go_sem, sx]
      | 9, _ =>
        cases ho
        by_cases hc : orB n 1 = false
        · refine .inl ⟨wantedN hF rfl rfl (by simp) ((hV 8 (hpre ⟨8, .guard⟩ (by simp) rfl)).trans (by simp [hc])), fun K hK => rg_val (v := .agg #[.string p, .int .i64 n]) ?_ (hK _ _ (fun j u _ => RV.below (Below.refl _ _) j u) (fun _ => rfl) hJ)⟩
          simp [execOp, Act.eval, go_sem, s1, k0, k1]
        · exact .inr ⟨unwantedN hF rfl rfl (by simp) ((hV 8 (hpre ⟨8, .guard⟩ (by simp) rfl)).trans (by simp at hc; simp [hc])), fun j u _ h => h, fun h => absurd h hc⟩
      | 10, _ =>
        cases ho
        by_cases hc : orB n 1 = false
        · refine .inl ⟨wantedN hF rfl rfl (by simp) ((hV 8 (hpre ⟨8, .guard⟩ (by simp) rfl)).trans (by simp [hc])), fun K hK => rg_enter (f := 137) (args := #[]) (w' := W) ?_ (id_End W) ?_ ?_ ?_⟩
          · simp [Act.eval, go_sem]
          · rintro v w'' ⟨e, hb⟩
            cases e
            exact hK _ _ (fun j u _ => RV.below hb j u) (fun _ => rfl) (hJ.trans (hb.mono hWs))
          · rintro chain w'' ⟨e, _⟩
            cases e
          · rintro w'' ⟨e, _⟩
            cases e
        · exact .inr ⟨unwantedN hF rfl rfl (by simp) ((hV 8 (hpre ⟨8, .guard⟩ (by simp) rfl)).trans (by simp at hc; simp [hc])), fun j u _ h => h, fun h => absurd h hc⟩
      | 11, _ =>
        cases ho
        by_cases hc : orB n 1 = false
        · have sx := hF.slot (i := 9) rfl (by simp) (hV 9 (hpre ⟨9, .data⟩ (by simp) rfl) hc)
          have sy := hF.slot (i := 10) rfl (by simp) (hV 10 (hpre ⟨10, .data⟩ (by simp) rfl) hc)
          refine .inl ⟨wantedN hF rfl rfl (by simp) ((hV 8 (hpre ⟨8, .guard⟩ (by simp) rfl)).trans (by simp [hc])), fun K hK => rg_val (v := .bool (decide (n = 2))) ?_ (hK _ _ (fun j u _ => RV.below (Below.refl _ _) j u) (fun _ => rfl) hJ)⟩
          simp [execOp, Act.eval, go_sem, sx, sy, hE, hG, hS2]
        · exact .inr ⟨unwantedN hF rfl rfl (by simp) ((hV 8 (hpre ⟨8, .guard⟩ (by simp) rfl)).trans (by simp at hc; simp [hc])), fun j u _ h => h, fun h => absurd h hc⟩
      | 12, _ =>
        cases ho
        have sx := hF.slot (i := 8) rfl (by simp) (hV 8 (hpre ⟨8, .data⟩ (by simp) rfl))
        refine .inl ⟨wanted_none rfl, fun K hK => rg_val (v := .bool (orB n 2)) ?_ (hK _ _ (fun j u _ => RV.below (Below.refl _ _) j u) rfl hJ)⟩
        by_cases hc : orB n 1 = false
        · have sy := hF.slot (i := 11) rfl (by simp) (hV 11 (hpre ⟨11, .data⟩ (by simp) rfl) hc)
          have h2 : orB n 2 = decide (n = 2) := by unfold orB at hc ⊢; simp at hc ⊢; simp [hc]
          simp [execOp, Act.eval, go_sem, sx, sy, hc, h2]
        · simp at hc
          have h2 : orB n 2 = true := by unfold orB at hc ⊢; simp at hc ⊢; rcases hc with h | h <;> simp [h]
          simp [execOp, Act.eval, go_sem, sx, hc, h2]
    case fin =>
      intro A W hF hJ hV
      have e12 : A.tmps.getD 18 undef = .bool (orB n 2) := hV 12 (by omega)
      rw [hF.lit [6, 7, 8, 9, 10, 11, 12, 13, 14, 15, 16, 17, 18] (by kernel_rfl)]
      simp only [relaid, List.foldl_cons, List.foldl_nil, e12]
      generalize A.tmps.getD 6 undef = y6
      generalize A.tmps.getD 7 undef = y7
      generalize A.tmps.getD 8 undef = y8
      generalize A.tmps.getD 9 undef = y9
      generalize A.tmps.getD 10 undef = y10
      generalize A.tmps.getD 11 undef = y11
      generalize A.tmps.getD 12 undef = y12
      generalize A.tmps.getD 13 undef = y13
      generalize A.tmps.getD 14 undef = y14
      generalize A.tmps.getD 15 undef = y15
      generalize A.tmps.getD 16 undef = y16
      generalize A.tmps.getD 17 undef = y17
      simp only [List.setIfInBounds_toArray, List.set_cons_succ, List.set_cons_zero, List.drop_succ_cons]
      have HB : Hid _ := belowTrans HA.out hJ
      clear hV hF e12 hJ
      go_wp2
      go_ret
      exact ⟨rfl, HB.out⟩
end Go.Proofs.W
namespace Go.Proofs.W
open Go Go.Proofs Go.RowKit Go.Op
set_option maxRecDepth 1000000
def chD (k : Nat) : UInt8 := UInt8.ofNat (48 + k)
theorem digs_at {k : Nat} (h : k < 10) : (ByteArray.mk #[48, 49, 50, 51, 52, 53, 54, 55, 56, 57]).extract k (k + 1) = ofL [chD k] := by
 match k, h with
 | 0, _ => rfl
 | 1, _ => rfl
 | 2, _ => rfl
 | 3, _ => rfl
 | 4, _ => rfl
 | 5, _ => rfl
 | 6, _ => rfl
 | 7, _ => rfl
 | 8, _ => rfl
 | 9, _ => rfl
set_option maxHeartbeats 800000 in
theorem R11_Digits : ∀ (n : Nat) (w : World), n ≤ 1048576 → Calls Tryz.prog 94 #[.int .i64 n] w fun e w' => e = .returned (.string (ofL (decB n))) ∧ Below w.heap.size w w' := by
 intro n
 induction n using Nat.strongRecOn with
 | ind n ih =>
 intro w hn
 by_cases hlt : (n : Int) < 10
 ·have hd := digs_at (k := n) (by omega)
  have HE : Hid (ofL (decB n) = ofL [chD n]) := by show _ = _; rw [decB_small (by omega)]; rfl
  clear ih
  have h1 : (0 : Int) ≤ (n : Int) := by omega
  have h2 : (n : Int) ≤ (n : Int) + 1 := by omega
  have h3 : (n : Int) + 1 ≤ 10 := by omega
  have h4 : ((n : Int) + 1).toNat = n + 1 := by omega
  have h5 : wrap64 ((n : Int) + 1) = (n : Int) + 1 := by unfold wrap64; omega
  go_enter Tryz.func94, Tryz.ntmps94
  go_wp2
  go_ret
  rw [HE.out]
  exact ⟨rfl, Below.refl _ _⟩
 ·have h1 := ih (n / 10) (by omega) w (by omega)
  have h2 := fun w => ih (n % 10) (by omega) w (by omega)
  have HE : Hid (ofL (decB n) = ofL (decB (n / 10)) ++ ofL (decB (n % 10))) := by
   show _ = _
   rw [decB_big (n := n) (by omega), decB_small (n := n % 10) (by omega), ofL_app]
  have hsum : (ofL (decB (n / 10))).size + (ofL (decB (n % 10))).size ≤ 9223372036854775807 := by
   have l1 := decB_length 7 (n / 10) (by decide) (by omega)
   have l2 := decB_length 7 (n % 10) (by decide) (by omega)
   rw [ofL_size, ofL_size]
   omega
  have hq1 : (n : Int) / 10 = ((n / 10 : Nat) : Int) := by omega
  have hq2 : (n : Int) % 10 = ((n % 10 : Nat) : Int) := by omega
  have H1 : Hid _ := h1
  have H2 : Hid _ := h2
  clear ih h1 h2
  generalize n / 10 = q at *
  generalize n % 10 = r at *
  generalize ofL (decB q) = sq at *
  generalize ofL (decB r) = sr at *
  go_enter Tryz.func94, Tryz.ntmps94
  go_wp2_with fail
  refine Calls.mono H1.out ?_
  rintro e w1 ⟨rfl, hb1⟩
  have HB1 : Hid _ := hb1
  clear hb1
  go_wp2_with fail
  refine Calls.mono (H2.out w1) ?_
  rintro e w2 ⟨rfl, hb2⟩
  have HB2 : Hid _ := belowTrans HB1.out hb2
  clear hb2
  go_wp2
  go_ret
  rw [HE.out]
  exact ⟨rfl, HB2.out⟩
set_option maxHeartbeats 800000 in
theorem id_decimal (n : Nat) (w : World) (hn : n ≤ 1048576) : Calls Tryz.prog 93 #[.int .i64 n] w fun e w' => e = .returned (.string (ofL (decB n))) ∧ Below w.heap.size w w' := by
 go_enter Tryz.func93, Tryz.ntmps93
 go_wp2
 go_loopg [0, 3] n (fun kx s0 s3 wr => ∃ (m : Nat) (L : List UInt8), s0 = .int .i64 m ∧ s3 = .string (ofL L) ∧ m ≤ n ∧ m ≤ kx ∧ Hid (decB m ++ L = decB n ∧ Below w.heap.size w wr))
 case atStart => exact ⟨n, [], rfl, rfl, Nat.le_refl _, Nat.le_refl _, by simp, Below.refl _ _⟩
 case round =>
  obtain ⟨m, L, rfl, rfl, hmn, hmk, REL⟩ := hrel
  have hLl : (decB m).length + L.length ≤ 7 := by
   have h1 := decB_length 7 n (by decide) (by omega)
   rw [← REL.out.1, List.length_append] at h1
   exact h1
  by_cases hgt : (m : Int) > 9
  ·have hd := digs_at (k := m % 10) (by omega)
   have HE : Hid (decB (m / 10) ++ (chD (m % 10) :: L) = decB n ∧ Below w.heap.size w wr) := by
    refine ⟨?_, REL.out.2⟩
    rw [← REL.out.1, decB_big (n := m) (by omega), List.append_assoc]
    rfl
   have HS : Hid (ofL (chD (m % 10) :: L) = ofL [chD (m % 10)] ++ ofL L) := by show _ = _; rw [ofL_app]; rfl
   have hq2 : (m : Int) % 10 = ((m % 10 : Nat) : Int) := by omega
   have hq1 : (m : Int) / 10 = ((m / 10 : Nat) : Int) := by omega
   have hlt : m / 10 < m := by omega
   have h1 : (0 : Int) ≤ ((m % 10 : Nat) : Int) := by omega
   have h2 : ((m % 10 : Nat) : Int) ≤ ((m % 10 : Nat) : Int) + 1 := by omega
   have h3 : ((m % 10 : Nat) : Int) + 1 ≤ 10 := by omega
   have h4 : (((m % 10 : Nat) : Int) + 1).toNat = m % 10 + 1 := by omega
   have hsum : (ofL [chD (m % 10)]).size + (ofL L).size ≤ 9223372036854775807 := by
    rw [ofL_size, ofL_size]
    simp only [List.length_singleton]
    omega
   clear hLl REL
   generalize m % 10 = r at *
   generalize m / 10 = q at *
   generalize hs1 : ofL [chD r] = s1 at *
   generalize hs2 : ofL L = s2 at *
   clear hs1 hs2
   go_wp2
   go_roundg q
   case measure => omega
   case rel => exact ⟨q, _, rfl, by rw [HS.out], by omega, Nat.le_refl _, HE.out⟩
  ·have hd := digs_at (k := m) (by omega)
   have HE : Hid (ofL (decB n) = ofL [chD m] ++ ofL L ∧ Below w.heap.size w wr) := by
    refine ⟨?_, REL.out.2⟩
    rw [← REL.out.1, decB_small (n := m) (by omega), ofL_app]
    rfl
   have h1 : (0 : Int) ≤ (m : Int) := by omega
   have h2 : (m : Int) ≤ (m : Int) + 1 := by omega
   have h3 : (m : Int) + 1 ≤ 10 := by omega
   have h4 : ((m : Int) + 1).toNat = m + 1 := by omega
   have hsum : (ofL [chD m]).size + (ofL L).size ≤ 9223372036854775807 := by
    rw [ofL_size, ofL_size]
    simp only [List.length_singleton]
    omega
   clear hLl REL
   generalize hs1 : ofL [chD m] = s1 at *
   generalize hs2 : ofL L = s2 at *
   clear hs1 hs2
   go_wp2
   go_ret
   rw [HE.out.1]
   exact ⟨rfl, HE.out.2⟩
end Go.Proofs.W
namespace Go.Proofs.W
open Go Go.Proofs Go.RowKit
set_option maxRecDepth 1000000
def lets : List Nat := [97, 98, 99, 100, 101, 102, 103, 104, 105, 106, 107, 108, 109, 110, 111, 112, 113, 114, 115, 116, 117, 118, 119, 120, 121, 122, 48, 49, 50, 51, 52, 53, 54, 55, 56, 57, 46, 95, 45]
def letsB : ByteArray := ⟨#[97, 98, 99, 100, 101, 102, 103, 104, 105, 106, 107, 108, 109, 110, 111, 112, 113, 114, 115, 116, 117, 118, 119, 120, 121, 122, 48, 49, 50, 51, 52, 53, 54, 55, 56, 57, 46, 95, 45]⟩
theorem letsB_get {i : Nat} (h : i < letsB.size) : (letsB[i]'h).toNat = lets.getD i 0 := by
 have : ∀ i : Fin letsB.size, (letsB[i.1]'i.2).toNat = lets.getD i.1 0 := by decide
 exact this ⟨i, h⟩
theorem badR_lets : ∀ c, c < 256 → (badR c = false ↔ ∃ i, i < 39 ∧ lets.getD i 0 = c) := by
 have h1 : ∀ c : Fin 256, badR c.1 = !lets.contains c.1 := by decide
 intro c hc
 rw [h1 ⟨c, hc⟩]
 simp only [Bool.not_eq_false', List.contains_iff_mem]
 constructor
 ·intro h
  obtain ⟨i, hi, he⟩ := List.getElem_of_mem h
  have hi' : i < 39 := hi
  exact ⟨i, hi', by rw [List.getD_eq_getElem?_getD, List.getElem?_eq_getElem hi]; exact he⟩
 ·rintro ⟨i, hi, rfl⟩
  have hi' : i < lets.length := hi
  rw [List.getD_eq_getElem?_getD, List.getElem?_eq_getElem hi']
  exact List.getElem_mem hi'
set_option maxHeartbeats 4000000 in
theorem R02_letter (k : Nat) (hk : k < 256) (w : World) : Calls Tryz.prog 85 #[.int .u8 (k : Int)] w fun e w' => e = .returned (.bool (!badR k)) ∧ w' = w := by
 go_enter Tryz.func85, Tryz.ntmps85
 go_wp2
 go_loop [4] (fun x => ∃ i : Nat, i ≤ 39 ∧ x = .int .i64 i ∧ ∀ j, j < i → lets.getD j 0 ≠ k) (fun x => 39 - (intOf x).toNat)
 case atStart => exact ⟨0, Nat.zero_le _, rfl, fun j hj => absurd hj (Nat.not_lt_zero _)⟩
 case round =>
  obtain ⟨i, hi, rfl, hno⟩ := hrel
  by_cases hlt : i < 39
  ·have hlt' : (i : Int) < 39 := by omega
   have hnn : ¬ (i : Int) < 0 := by omega
   have hnn0 : (0 : Int) ≤ (i : Int) := by omega
   go_wp2
   ·rename_i hq _
    have hq2 : (((letsB[i]'hlt).toNat : Int) == (k : Int)) = true := hq
    rw [letsB_get hlt] at hq2
    go_ret
    refine ⟨?_, rfl⟩
    have hb : badR k = false := (badR_lets k hk).2 ⟨i, hlt, by have := of_decide_eq_true hq2; omega⟩
    rw [hb]
    rfl
   ·rename_i hq
    have hq2 : (((letsB[i]'hlt).toNat : Int) == (k : Int)) = false := hq
    rw [letsB_get hlt] at hq2
    go_round
    case rel => exact ⟨i + 1, by omega, by push_cast; rfl, fun j hj => by
     by_cases e : j = i
     ·subst e; have := of_decide_eq_false hq2; omega
     ·exact hno j (by omega)⟩
    case measure => simp [intOf]; omega
  ·have hlt' : ¬ (i : Int) < 39 := by omega
   go_wp2
   go_ret
   refine ⟨?_, rfl⟩
   have : badR k = true := by
    cases h : badR k with
    | true => rfl
    | false =>
     obtain ⟨j, hj, e⟩ := (badR_lets k hk).1 h
     exact absurd e (hno j (by omega))
   rw [this]; rfl
theorem get!_eq (s : ByteArray) (i : Nat) (h : i < s.size) : s.get! i = s[i]'h := by
 cases s with
 | mk d => simp [ByteArray.get!, ByteArray.getElem_eq_getElem_data, show i < d.size from h]
set_option maxHeartbeats 4000000 in
theorem R02_Right (s : ByteArray) (w : World) (hs : s.size < 9223372036854775808) : Calls Tryz.prog 38 #[.string s] w fun e w' => e = .returned (.bool (nameR s)) ∧ w' = w := by
 go_enter Tryz.func38, Tryz.ntmps38
 go_wp2
 go_loop [3] (fun x => ∃ i : Nat, i ≤ s.size ∧ x = .int .i64 i ∧ ∀ j, j < i → badR (s.get! j).toNat = false) (fun x => s.size - (intOf x).toNat)
 case atStart => exact ⟨0, Nat.zero_le _, rfl, fun j hj => absurd hj (Nat.not_lt_zero _)⟩
 case round =>
  obtain ⟨i, hi, rfl, hno⟩ := hrel
  by_cases hlt : i < s.size
  ·have hlt' : (i : Int) < (s.size : Int) := by omega
   have hnn : ¬ (i : Int) < 0 := by omega
   have hnn0 : (0 : Int) ≤ (i : Int) := by omega
   have hcall := R02_letter (s[i]'hlt).toNat (UInt8.toNat_lt _) w
   have hget := get!_eq s i hlt
   cases hb : badR (s[i]'hlt).toNat with
   | true =>
    rw [hb] at hcall
    go_wp2_with (go_at_call 85; refine hcall.mono ?_; rintro e w' ⟨rfl, rfl⟩)
    go_ret
    refine ⟨?_, rfl⟩
    have hf : nameR s = false := by
     cases hn : nameR s with
     | false => rfl
     | true =>
      have := ((nameR_iff s).1 hn).2.2.2.2 i (Nat.zero_le _) hlt
      rw [hget, hb] at this
      cases this
    rw [hf]
    rfl
   | false =>
    rw [hb] at hcall
    go_wp2_with (go_at_call 85; refine hcall.mono ?_; rintro e w' ⟨rfl, rfl⟩)
    go_round
    case rel => exact ⟨i + 1, by omega, by push_cast; rfl, fun j hj => by
     by_cases e : j = i
     ·subst e; rw [hget]; exact hb
     ·exact hno j (by omega)⟩
    case measure => simp [intOf]; omega
  ·have hlt' : ¬ (i : Int) < (s.size : Int) := by omega
   have hgood : goodFrom s 0 := fun j _ hj => hno j (by omega)
   cases h1 : decide ((1 : Int) ≤ (s.size : Int)) <;> cases h2 : decide ((s.size : Int) ≤ 40) <;> cases h3 : (s.toList == [46]) <;> cases h4 : (s.toList == [46, 46])
   all_goals
    go_wp2
    go_ret
    refine ⟨?_, rfl⟩
    rw [nameR_good hgood, h1, h2, h3, h4]
    rfl
end Go.Proofs.W
namespace Go.Proofs.W
open Go Go.Proofs Go.RowKit Go.Op
set_option maxRecDepth 1000000
set_option maxHeartbeats 4000000 in
theorem R11_RightId (p : ByteArray) (n : Int) (w : World) (hs : p.size < 9223372036854775808) : Calls Tryz.prog 12 #[.agg #[.string p, .int .i64 n]] w fun e w' => e = .returned (.bool (idR p n)) ∧ Below w.heap.size w w' := by
  have hA := belowAlloc w (.cells #[.string p, .int .i64 n] 38)
  have hr := R02_Right p (w.alloc (.cells #[.string p, .int .i64 n] 38)) hs
  have h2 : p.toList.isEmpty = true ↔ p.size = 0 := by
    rw [ByteArray.toList_eq, List.isEmpty_iff, ← List.length_eq_zero_iff, Array.length_toList]
    rfl
  cases h0 : p.toList.isEmpty
  · have hz : ¬ p.size = 0 := fun e => by rw [h2.2 e] at h0; cases h0
    have hid : idR p n = (nameR p && decide (0 ≤ n) && decide (n ≤ 1048576)) := by unfold idR; rw [if_neg hz]
    rw [hid]
    clear hid h2 hz
    generalize nameR p = r at hr ⊢
    have HR : Hid _ := hr
    have HA : Hid _ := hA
    clear hr hA
    go_enter Tryz.func12, Tryz.ntmps12
    go_wp2_with fail
    refine Calls.mono HR.out ?_
    rintro e w' ⟨rfl, rfl⟩
    cases r <;> by_cases q1 : (0 : Int) ≤ n <;> by_cases q2 : n ≤ 1048576
    all_goals first
      | (exfalso; omega)
      | (go_wp2
         go_ret
         exact ⟨by simp [*], HA.out⟩)
  · have hz : p.size = 0 := h2.1 h0
    have hid : idR p n = (decide (0 ≤ n) && decide (n ≤ 2)) := by unfold idR; rw [if_pos hz]
    rw [hid]
    clear hid h2 hz hr
    have HA : Hid _ := hA
    clear hA
    by_cases q1 : (0 : Int) ≤ n <;> by_cases q2 : n ≤ 2
    all_goals first
      | (exfalso; omega)
      | (go_enter Tryz.func12, Tryz.ntmps12
         go_wp2
         go_ret
         exact ⟨by simp [*], HA.out⟩)
end Go.Proofs.W
namespace Go.Proofs.W
open Go Go.Proofs Go.RowKit Go.Op
set_option maxRecDepth 1000000
def TX (B : Nat) (p : ByteArray) (n : Int) (i : Nat) (v : Value) (_ : World) : Prop := match i with
 | 0 => v = .pointer (some ⟨B, 0, none⟩)
 | 1 => v = .string p
 | 2 => v = .string (p ++ hashB)
 | 3 => v = .pointer (some ⟨B, 1, none⟩)
 | 4 => v = .int .i64 n
 | 5 => v = .string (ofL (decB n.toNat))
 | _ => True
theorem TX.below {B : Nat} {p : ByteArray} {n : Int} {W W' : World} (_ : Below W.heap.size W W') (j : Nat) (u : Value) (h : TX B p n j u W) : TX B p n j u W' := h
set_option maxHeartbeats 8000000 in
theorem id_Text (p : ByteArray) (n : Int) (w : World) (hps : p.size < 9223372036854775000) : Calls Tryz.prog 46 #[.agg #[.string p, .int .i64 n]] w fun e w' => e = .returned (.string (idT p n)) ∧ Below w.heap.size w w' := by
 obtain ⟨W0, hW0⟩ : ∃ W0, W0 = w.alloc (.cells #[.string p, .int .i64 n] 38) := ⟨_, rfl⟩
 have hA : Below w.heap.size w W0 := by rw [hW0]; exact belowAlloc _ _
 have hb : W0.heap[w.heap.size]? = some (.cells #[.string p, .int .i64 n] 38 (0, 0)) := by rw [hW0]; exact (MapKept.heap_alloc _ _).1
 have hlt : w.heap.size < W0.heap.size := (Array.getElem?_eq_some_iff.1 hb).1
 have HK : Hid (∀ w', Below W0.heap.size W0 w' → w'.cell? ⟨w.heap.size, 0, none⟩ = some (.string p) ∧ w'.cell? ⟨w.heap.size, 1, none⟩ = some (.int .i64 n)) := fun w' hb' => by
  have e1 := (hb'.block w.heap.size hlt).trans hb
  exact ⟨by simp [World.cell?, e1], by simp [World.cell?, e1]⟩
 obtain ⟨k0, k1⟩ := HK.out W0 (Below.refl _ _)
 have HR : Hid _ := id_Right p n W0
 have HA : Hid _ := hA
 have HT : Hid (idT p n = if idR p n then p ++ hashB ++ ofL (decB n.toNat) else ⟨#[]⟩) := rfl
 have HRG := @idR_range p n
 clear hb hlt hA
 generalize idR p n = r at HR HT HRG
 go_enter Tryz.func46, Tryz.ntmps46
 go_wp2_with fail
 simp only [← hW0]
 refine Calls.mono HR.out ?_
 rintro e w1 ⟨rfl, hb1⟩
 have HB1 : Hid _ := belowTrans HA.out hb1
 have HB1J : Hid (∀ W, Below w1.heap.size w1 W → Below W0.heap.size W0 W) := fun W h => belowTrans hb1 h
 clear hb1 hW0 k0 k1 HR
 cases r with
 | false =>
  clear HRG
  go_wp2
  go_ret
  exact ⟨by rw [HT.out]; rfl, HB1.out⟩
 | true =>
  obtain ⟨hn0, hn1⟩ := HRG rfl
  obtain ⟨m, rfl⟩ : ∃ m : Nat, n = (m : Int) := ⟨n.toNat, by omega⟩
  have hm : m ≤ 1048576 := by omega
  have hT2 : Hid (idT p (m : Int) = (p ++ hashB) ++ ofL (decB m)) := HT.out
  clear HRG HT
  have hHB : hashB = ⟨#[35]⟩ := rfl
  have hsz1 : p.size + (⟨#[35]⟩ : ByteArray).size ≤ 9223372036854775807 := by
   show p.size + 1 ≤ _
   omega
  have hsz0 : p.size ≤ 9223372036854775806 := by omega
  have hsz2 : (p ++ hashB).size + (ofL (decB m)).size ≤ 9223372036854775807 := by
   have l1 := decB_length 7 m (by decide) (by omega)
   rw [ofL_size, ByteArray.size_append]
   show p.size + 1 + _ ≤ _
   omega
  go_wp2_with fail
  refine wp_region_gx 6 6 13 (by kernel_rfl) ?ok ?forced rfl (fun _ => TX w.heap.size p (m : Int)) (fun W => Below w1.heap.size w1 W) (belowDrew1 _) ?step ?fin
  case ok => kernel_rfl
  case forced => kernel_rfl
  case step =>
   intro i' oq hi' ho L A W hLi hpre hF hJ hV
   have s1 : A.tmps[1]? = some (.pointer (some ⟨w.heap.size, 0, none⟩)) := hF.at (by kernel_rfl) rfl
   obtain ⟨k0, k1⟩ := HK.out W (HB1J.out W hJ)
   have hWs := hJ.size
   match i', hi' with
   | 0, _ =>
    cases ho
    refine .inl ⟨wanted_none rfl, fun K hK => rg_val (v := .pointer (some ⟨w.heap.size, 0, none⟩)) ?_ (hK _ _ (fun j u _ => TX.below (Below.refl _ _) j u) rfl hJ)⟩
    simp [execOp, Act.eval, go_sem, s1]
   | 1, _ =>
    cases ho
    have sx := hF.slot (i := 0) rfl (by simp) (hV 0 (hpre ⟨0, .data⟩ (by simp) rfl))
    refine .inl ⟨wanted_none rfl, fun K hK => rg_val (v := .string p) ?_ (hK _ _ (fun j u _ => TX.below (Below.refl _ _) j u) rfl hJ)⟩
    simp [execOp, Act.eval, go_sem, sx, k0]
   | 2, _ =>
    cases ho
    have sx := hF.slot (i := 1) rfl (by simp) (hV 1 (hpre ⟨1, .data⟩ (by simp) rfl))
    refine .inl ⟨wanted_none rfl, fun K hK => rg_val (v := .string (p ++ hashB)) ?_ (hK _ _ (fun j u _ => TX.below (Below.refl _ _) j u) rfl hJ)⟩
    simp [execOp, Act.eval, go_sem, sx, hHB, hsz0]
   | 3, _ =>
    cases ho
    refine .inl ⟨wanted_none rfl, fun K hK => rg_val (v := .pointer (some ⟨w.heap.size, 1, none⟩)) ?_ (hK _ _ (fun j u _ => TX.below (Below.refl _ _) j u) rfl hJ)⟩
    simp [execOp, Act.eval, go_sem, s1]
   | 4, _ =>
    cases ho
    have sx := hF.slot (i := 3) rfl (by simp) (hV 3 (hpre ⟨3, .data⟩ (by simp) rfl))
    refine .inl ⟨wanted_none rfl, fun K hK => rg_val (v := .int .i64 (m : Int)) ?_ (hK _ _ (fun j u _ => TX.below (Below.refl _ _) j u) rfl hJ)⟩
    simp [execOp, Act.eval, go_sem, sx, k1]
   | 5, _ =>
    cases ho
    have sx := hF.slot (i := 4) rfl (by simp) (hV 4 (hpre ⟨4, .data⟩ (by simp) rfl))
    refine .inl ⟨wanted_none rfl, fun K hK => rg_enter (f := 93) (args := #[.int .i64 (m : Int)]) (w' := W) ?_ (id_decimal m W hm) ?_ ?_ ?_⟩
    ·simp [Act.eval, go_sem, sx]
    ·rintro v w'' ⟨e, hb⟩
     cases e
     exact hK _ _ (fun j u _ => TX.below hb j u) rfl (hJ.trans (hb.mono hWs))
    ·rintro chain w'' ⟨e, hb⟩
     cases e
    ·rintro w'' ⟨e, hb⟩
     cases e
  case fin =>
   intro A W hF hJ hV
   have e2 : A.tmps.getD 8 undef = .string (p ++ hashB) := hV 2 (by omega)
   have e5 : A.tmps.getD 11 undef = .string (ofL (decB m)) := hV 5 (by omega)
   rw [hF.lit [6, 7, 8, 9, 10, 11] (by kernel_rfl)]
   simp only [relaid, List.foldl_cons, List.foldl_nil, e2, e5]
   generalize A.tmps.getD 6 undef = y6
   generalize A.tmps.getD 7 undef = y7
   generalize A.tmps.getD 9 undef = y9
   generalize A.tmps.getD 10 undef = y10
   simp only [List.setIfInBounds_toArray, List.set_cons_succ, List.set_cons_zero, List.drop_succ_cons]
   have HB : Hid _ := belowTrans HB1.out hJ
   clear hV hF e2 e5 hJ
   generalize p ++ hashB = q1 at *
   generalize ofL (decB m) = q2 at *
   go_wp2
   go_ret
   exact ⟨by rw [hT2.out]; rfl, HB.out⟩
set_option maxHeartbeats 8000000 in
theorem R11_TextId (p : ByteArray) (n : Int) (w : World) (hps : p.size < 9223372036854775000) : Calls Tryz.prog 47 #[.agg #[.string p, .int .i64 n]] w fun e w' => e = .returned (.string (idT p n)) ∧ Below w.heap.size w w' := by
 obtain ⟨W0, hW0⟩ : ∃ W0, W0 = w.alloc (.cells #[.string p, .int .i64 n] 38) := ⟨_, rfl⟩
 have hA : Below w.heap.size w W0 := by rw [hW0]; exact belowAlloc _ _
 have hb : W0.heap[w.heap.size]? = some (.cells #[.string p, .int .i64 n] 38 (0, 0)) := by rw [hW0]; exact (MapKept.heap_alloc _ _).1
 have hlt : w.heap.size < W0.heap.size := (Array.getElem?_eq_some_iff.1 hb).1
 have HK : Hid (∀ w', Below W0.heap.size W0 w' → w'.cell? ⟨w.heap.size, 0, none⟩ = some (.string p) ∧ w'.cell? ⟨w.heap.size, 1, none⟩ = some (.int .i64 n)) := fun w' hb' => by
  have e1 := (hb'.block w.heap.size hlt).trans hb
  exact ⟨by simp [World.cell?, e1], by simp [World.cell?, e1]⟩
 obtain ⟨k0, k1⟩ := HK.out W0 (Below.refl _ _)
 have HR : Hid _ := R11_RightId p n W0 (by omega)
 have HA : Hid _ := hA
 have HT : Hid (idT p n = if idR p n then p ++ hashB ++ ofL (decB n.toNat) else ⟨#[]⟩) := rfl
 have HRG := @idR_range p n
 clear hb hlt hA
 generalize idR p n = r at HR HT HRG
 go_enter Tryz.func47, Tryz.ntmps47
 go_wp2_with fail
 simp only [← hW0]
 refine Calls.mono HR.out ?_
 rintro e w1 ⟨rfl, hb1⟩
 have HB1 : Hid _ := belowTrans HA.out hb1
 have HB1J : Hid (∀ W, Below w1.heap.size w1 W → Below W0.heap.size W0 W) := fun W h => belowTrans hb1 h
 clear hb1 hW0 k0 k1 HR
 cases r with
 | false =>
  clear HRG
  go_wp2
  go_ret
  exact ⟨by rw [HT.out]; rfl, HB1.out⟩
 | true =>
  obtain ⟨hn0, hn1⟩ := HRG rfl
  obtain ⟨m, rfl⟩ : ∃ m : Nat, n = (m : Int) := ⟨n.toNat, by omega⟩
  have hm : m ≤ 1048576 := by omega
  have hT2 : Hid (idT p (m : Int) = (p ++ hashB) ++ ofL (decB m)) := HT.out
  clear HRG HT
  have hHB : hashB = ⟨#[35]⟩ := rfl
  have hsz1 : p.size + (⟨#[35]⟩ : ByteArray).size ≤ 9223372036854775807 := by
   show p.size + 1 ≤ _
   omega
  have hsz0 : p.size ≤ 9223372036854775806 := by omega
  have hsz2 : (p ++ hashB).size + (ofL (decB m)).size ≤ 9223372036854775807 := by
   have l1 := decB_length 7 m (by decide) (by omega)
   rw [ofL_size, ByteArray.size_append]
   show p.size + 1 + _ ≤ _
   omega
  go_wp2_with fail
  refine wp_region_gx 6 6 13 (by kernel_rfl) ?ok ?forced rfl (fun _ => TX w.heap.size p (m : Int)) (fun W => Below w1.heap.size w1 W) (belowDrew1 _) ?step ?fin
  case ok => kernel_rfl
  case forced => kernel_rfl
  case step =>
   intro i' oq hi' ho L A W hLi hpre hF hJ hV
   have s1 : A.tmps[1]? = some (.pointer (some ⟨w.heap.size, 0, none⟩)) := hF.at (by kernel_rfl) rfl
   obtain ⟨k0, k1⟩ := HK.out W (HB1J.out W hJ)
   have hWs := hJ.size
   match i', hi' with
   | 0, _ =>
    cases ho
    refine .inl ⟨wanted_none rfl, fun K hK => rg_val (v := .pointer (some ⟨w.heap.size, 0, none⟩)) ?_ (hK _ _ (fun j u _ => TX.below (Below.refl _ _) j u) rfl hJ)⟩
    simp [execOp, Act.eval, go_sem, s1]
   | 1, _ =>
    cases ho
    have sx := hF.slot (i := 0) rfl (by simp) (hV 0 (hpre ⟨0, .data⟩ (by simp) rfl))
    refine .inl ⟨wanted_none rfl, fun K hK => rg_val (v := .string p) ?_ (hK _ _ (fun j u _ => TX.below (Below.refl _ _) j u) rfl hJ)⟩
    simp [execOp, Act.eval, go_sem, sx, k0]
   | 2, _ =>
    cases ho
    have sx := hF.slot (i := 1) rfl (by simp) (hV 1 (hpre ⟨1, .data⟩ (by simp) rfl))
    refine .inl ⟨wanted_none rfl, fun K hK => rg_val (v := .string (p ++ hashB)) ?_ (hK _ _ (fun j u _ => TX.below (Below.refl _ _) j u) rfl hJ)⟩
    simp [execOp, Act.eval, go_sem, sx, hHB, hsz0]
   | 3, _ =>
    cases ho
    refine .inl ⟨wanted_none rfl, fun K hK => rg_val (v := .pointer (some ⟨w.heap.size, 1, none⟩)) ?_ (hK _ _ (fun j u _ => TX.below (Below.refl _ _) j u) rfl hJ)⟩
    simp [execOp, Act.eval, go_sem, s1]
   | 4, _ =>
    cases ho
    have sx := hF.slot (i := 3) rfl (by simp) (hV 3 (hpre ⟨3, .data⟩ (by simp) rfl))
    refine .inl ⟨wanted_none rfl, fun K hK => rg_val (v := .int .i64 (m : Int)) ?_ (hK _ _ (fun j u _ => TX.below (Below.refl _ _) j u) rfl hJ)⟩
    simp [execOp, Act.eval, go_sem, sx, k1]
   | 5, _ =>
    cases ho
    have sx := hF.slot (i := 4) rfl (by simp) (hV 4 (hpre ⟨4, .data⟩ (by simp) rfl))
    refine .inl ⟨wanted_none rfl, fun K hK => rg_enter (f := 94) (args := #[.int .i64 (m : Int)]) (w' := W) ?_ (R11_Digits m W hm) ?_ ?_ ?_⟩
    ·simp [Act.eval, go_sem, sx]
    ·rintro v w'' ⟨e, hb⟩
     cases e
     exact hK _ _ (fun j u _ => TX.below hb j u) rfl (hJ.trans (hb.mono hWs))
    ·rintro chain w'' ⟨e, hb⟩
     cases e
    ·rintro w'' ⟨e, hb⟩
     cases e
  case fin =>
   intro A W hF hJ hV
   have e2 : A.tmps.getD 8 undef = .string (p ++ hashB) := hV 2 (by omega)
   have e5 : A.tmps.getD 11 undef = .string (ofL (decB m)) := hV 5 (by omega)
   rw [hF.lit [6, 7, 8, 9, 10, 11] (by kernel_rfl)]
   simp only [relaid, List.foldl_cons, List.foldl_nil, e2, e5]
   generalize A.tmps.getD 6 undef = y6
   generalize A.tmps.getD 7 undef = y7
   generalize A.tmps.getD 9 undef = y9
   generalize A.tmps.getD 10 undef = y10
   simp only [List.setIfInBounds_toArray, List.set_cons_succ, List.set_cons_zero, List.drop_succ_cons]
   have HB : Hid _ := belowTrans HB1.out hJ
   clear hV hF e2 e5 hJ
   generalize p ++ hashB = q1 at *
   generalize ofL (decB m) = q2 at *
   go_wp2
   go_ret
   exact ⟨by rw [hT2.out]; rfl, HB.out⟩
end Go.Proofs.W
namespace Go.Proofs.W
open Go Go.Proofs Go.RowKit Go.Op
set_option maxRecDepth 1000000
theorem digV_ix : ∀ c : UInt8, max (Lib.indexByte [48, 49, 50, 51, 52, 53, 54, 55, 56, 57] c) 0 = (digV c : Int) := by
 have h : ∀ c : Fin 256, max (Lib.indexByte [48, 49, 50, 51, 52, 53, 54, 55, 56, 57] (UInt8.ofNat c.1)) 0 = (digV (UInt8.ofNat c.1) : Int) := by decide +kernel
 intro c
 have := h ⟨c.toNat, UInt8.toNat_lt c⟩
 simpa using this
def PX (B : Nat) (t : ByteArray) (nv i dg : Nat) (cb : UInt8) (j : Nat) (v : Value) (_ : World) : Prop := match j with
 | 0 => v = .pointer (some ⟨B, 1, none⟩)
 | 1 => v = .int .i64 (nv : Int)
 | 2 => v = .int .i64 (10 * (nv : Int))
 | 3 => v = .string t
 | 4 => v = .int .i64 i
 | 5 => v = .int .u8 (cb.toNat : Int)
 | 6 => v = .int .i64 (Lib.indexByte (ByteArray.mk #[48, 49, 50, 51, 52, 53, 54, 55, 56, 57]).data.toList (((cb.toNat : Int)).toNat.toUInt8))
 | 7 => v = .int .i64 (dg : Int)
 | _ => True
theorem PX.below {B : Nat} {t : ByteArray} {nv i dg : Nat} {cb : UInt8} {W W' : World} (_ : Below W.heap.size W W') (j : Nat) (u : Value) (h : PX B t nv i dg cb j u W) : PX B t nv i dg cb j u W' := h
theorem numV_bound (l : List UInt8) (i : Nat) (h : i ≤ 8) : numV (l.take i) < 100000000 := by
 have h1 := numV_lt (l.take i) 0 0
 have h2 : (l.take i).length ≤ 8 := by rw [List.length_take]; omega
 have h3 : (10 : Nat) ^ (l.take i).length ≤ 10 ^ 8 := Nat.pow_le_pow_right (by decide) h2
 have h4 : (10 : Nat) ^ 8 = 100000000 := by decide
 unfold numV
 omega
theorem numV_on {l : List UInt8} {i : Nat} {c : UInt8} (h : l[i]? = some c) : numV (l.take (i + 1)) = 10 * numV (l.take i) + digV c := by
 rw [List.take_add_one, h]
 unfold numV
 rw [Option.toList_some, List.foldl_append]
 rfl
theorem take_min (T : List UInt8) {i : Nat} (h : i = min T.length 8) : T.take i = T.take 8 := by
 rcases Nat.le_total T.length 8 with h1 | h1
 ·rw [List.take_of_length_le h1, List.take_of_length_le (by omega)]
 ·rw [h, Nat.min_eq_right h1]
set_option maxHeartbeats 8000000 in
theorem id_Parse (s : ByteArray) (w : World) (hs : s.size < 4294967281) (hm : HasM w) : Calls Tryz.prog 45 #[.string s] w fun e w' => e = .returned (.tuple #[.agg #[.string (idPp s), .int .i64 (idPn s)], .int .i64 (idPe s)]) ∧ Below w.heap.size w w' := by
 have mixed : Tryz.prog.follows .mixedOrders = true := by kernel_rfl
 obtain ⟨W0, hW0⟩ : ∃ W0, W0 = w.alloc (.cells #[.string ⟨#[]⟩, .int .i64 0] 38) := ⟨_, rfl⟩
 have hA : Below w.heap.size w W0 := by rw [hW0]; exact belowAlloc _ _
 have hb : W0.heap[w.heap.size]? = some (.cells #[.string ⟨#[]⟩, .int .i64 0] 38 (0, 0)) := by rw [hW0]; exact (MapKept.heap_alloc _ _).1
 have hlt : w.heap.size < W0.heap.size := (Array.getElem?_eq_some_iff.1 hb).1
 obtain ⟨m, hmm, _⟩ := hm.below hA
 have hcut := Tryz.strings_Cut s ⟨#[35]⟩ m W0 hs hmm
 have hcl : (Lib.cut s.data.toList [35]).1.length ≤ s.size ∧ (Lib.cut s.data.toList [35]).2.1.length ≤ s.size := by
  have : s.data.toList.length = s.size := by rw [Array.length_toList]; rfl
  unfold Lib.cut
  split
  ·simp only [List.length_take, List.length_drop]; omega
  ·simp only [List.length_nil]; omega
 have hcp : (⟨(Lib.cut s.data.toList [35]).1.toArray⟩ : ByteArray) = cutP s := rfl
 have hL2 : Hid (cutN s = (numV ((Lib.cut s.data.toList [35]).2.1.take 8) : Int)) := rfl
 have hcps : (cutP s).size ≤ s.size := by rw [← hcp]; show (Lib.cut s.data.toList [35]).1.toArray.size ≤ _; simpa using hcl.1
 rw [hcp] at hcut
 generalize (Lib.cut s.data.toList [35]).2.2 = flag at hcut
 have HCUT : Hid _ := hcut
 have HA : Hid _ := hA
 have HB0 : Hid _ := hb
 have HLT : Hid _ := hlt
 clear hcut hA hb hlt hmm hm
 generalize hT : (Lib.cut s.data.toList [35]).2.1 = T at *
 generalize hP : cutP s = P at *
 have hTl : T.length ≤ s.size := hcl.2
 clear hcl
 go_enter Tryz.func45, Tryz.ntmps45
 go_wp2_with fail
 simp only [← hW0]
 clear hW0
 refine Calls.mono HCUT.out ?_
 rintro e w1' ⟨rfl, kd, hw1⟩
 have HB1 : Hid (Below W0.heap.size W0 w1') := by rw [hw1]; exact belowDrew _ _
 have HZ1 : Hid (w1'.heap.size = W0.heap.size) := by show _ = _; rw [hw1]; rfl
 clear hw1
 obtain ⟨B, hB⟩ : ∃ B, B = w1'.heap.size := ⟨_, rfl⟩
 obtain ⟨W2, hW2⟩ : ∃ W2, W2 = w1'.alloc (.cells #[.string P, .int .i64 0] 38) := ⟨_, rfl⟩
 have HBB : Hid (W2.heap[B]? = some (.cells #[.string P, .int .i64 0] 38 (0, 0))) := by
  show _ = _
  rw [hW2, hB]
  exact (MapKept.heap_alloc _ _).1
 have HB2 : Hid (Below w1'.heap.size w1' W2) := by show Below _ _ _; rw [hW2]; exact belowAlloc _ _
 have HBW : Hid (w.heap.size < B ∧ Below w.heap.size w W2) := by
  have h1 := HZ1.out
  have h2 := HLT.out
  exact ⟨by omega, belowTrans (belowTrans HA.out HB1.out) HB2.out⟩
 have HR0 : Hid (W2.heap[w.heap.size]? = some (.cells #[.string ⟨#[]⟩, .int .i64 0] 38 (0, 0))) := by
  show _ = _
  have h1 := HZ1.out
  have h2 := HLT.out
  exact (HB2.out.block _ (by omega)).trans ((HB1.out.block _ h2).trans HB0.out)
 obtain ⟨t, ht⟩ : ∃ t : ByteArray, t = ⟨T.toArray⟩ := ⟨_, rfl⟩
 have htl : t.size = T.length := by rw [ht]; exact List.size_toArray
 obtain ⟨K, hK8⟩ : ∃ K : Nat, K = min T.length 8 := ⟨_, rfl⟩
 have hk : min (T.length : Int) 8 = (K : Int) := by omega
 rw [← ht]
 have HTT : Hid _ := ht
 have HK8 : Hid _ := hK8
 have hKt : K ≤ t.size := by omega
 have hKT : Hid (K ≤ T.length ∧ K ≤ 8) := ⟨by omega, by omega⟩
 have hm2 : (t.size : Int) = (T.length : Int) := by omega
 clear ht hK8
 go_wp2_with fail
 simp only [← hB, ← hW2]
 clear hk hB hW2 hm2 htl
 go_loopg [20] K (fun kx s20 wr => ∃ (i : Nat), s20 = .int .i64 i ∧ i ≤ K ∧ K - i ≤ kx ∧ Hid (wr.heap[B]? = some (.cells #[.string P, .int .i64 (numV (T.take i) : Int)] 38 (0, 0)) ∧ Below B W2 wr))
 case atStart => exact ⟨0, rfl, Nat.zero_le _, Nat.le_refl _, HBB.out, Below.refl _ _⟩
 case round =>
  obtain ⟨i, rfl, hi, hkx, REL⟩ := hrel
  by_cases hlt : i < K
  ·have hiz : (i : Int) < (K : Int) := by omega
   obtain ⟨cb, hcb0⟩ : ∃ cb, T[i]? = some cb := ⟨_, List.getElem?_eq_getElem (by have := hKT.out.1; omega)⟩
   have hnb := numV_bound T i (by have := hKT.out.2; omega)
   have HON := numV_on hcb0
   have hcb : ∀ h : i < t.size, t[i]'h = cb := fun h => by
    have h1 := HTT.out
    subst h1
    have h2 := (List.getElem?_eq_some_iff.1 hcb0).2
    rw [← h2]
    simp [ByteArray.getElem_eq_getElem_data]
   have hdg9 : digV cb ≤ 9 := by unfold digV; split <;> omega
   have HDG := digV_ix cb
   generalize digV cb = dg at *
   generalize numV (T.take i) = nv at *
   have HNV : Hid _ := HON
   have hits : (i : Int) < (t.size : Int) := by omega
   have hit : i < t.size := by omega
   have hcb1 := hcb hit
   have HR1 : Hid _ := REL.out.1
   have HR2 : Hid _ := REL.out.2
   have HBL : Hid (B < wr.heap.size) := (Array.getElem?_eq_some_iff.1 HR1.out).1
   have hw10 : IntKind.i64.wrap (10 * (nv : Int)) = 10 * (nv : Int) := by rw [IntKind.wrap_i64]; omega
   have hK8n : K ≤ 8 := hKT.out.2
   clear hcb hcb0 HON REL
   go_wp2_with fail
   refine wp_region_gx 8 8 44 (by kernel_rfl) ?ok ?forced rfl (fun _ => PX B t nv i dg cb) (fun W => Below wr.heap.size wr W) (belowDrew1 _) ?step ?fin
   case ok => kernel_rfl
   case forced => kernel_rfl
   case step =>
    intro i' oq hi' ho L A W hLi hpre hF hJ hV
    have s5 : A.tmps[5]? = some (.string t) := hF.at (by kernel_rfl) rfl
    have s7 : A.tmps[7]? = some (.pointer (some ⟨B, 0, none⟩)) := hF.at (by kernel_rfl) rfl
    have s8 : A.tmps[8]? = some (.int .i64 i) := hF.at (by kernel_rfl) rfl
    have d1 := (hJ.block B HBL.out).trans HR1.out
    have k1 : W.cell? ⟨B, 1, none⟩ = some (.int .i64 (nv : Int)) := by simp [World.cell?, d1]
    have hWs := hJ.size
    match i', hi' with
    | 0, _ =>
     cases ho
     refine .inl ⟨wanted_none rfl, fun K hK => rg_val (v := .pointer (some ⟨B, 1, none⟩)) ?_ (hK _ _ (fun j u _ => PX.below (Below.refl _ _) j u) rfl hJ)⟩
     simp [execOp, Act.eval, go_sem, s7]
    | 1, _ =>
     cases ho
     have sx := hF.slot (i := 0) rfl (by simp) (hV 0 (hpre ⟨0, .data⟩ (by simp) rfl))
     refine .inl ⟨wanted_none rfl, fun K hK => rg_val (v := .int .i64 (nv : Int)) ?_ (hK _ _ (fun j u _ => PX.below (Below.refl _ _) j u) rfl hJ)⟩
     simp [execOp, Act.eval, go_sem, sx, k1]
    | 2, _ =>
     cases ho
     have sx := hF.slot (i := 1) rfl (by simp) (hV 1 (hpre ⟨1, .data⟩ (by simp) rfl))
     refine .inl ⟨wanted_none rfl, fun K hK => rg_val (v := .int .i64 (10 * (nv : Int))) ?_ (hK _ _ (fun j u _ => PX.below (Below.refl _ _) j u) rfl hJ)⟩
     simp [execOp, Act.eval, go_sem, sx, hw10]
    | 3, _ =>
     cases ho
     refine .inl ⟨wanted_none rfl, fun K hK => rg_val (v := .string t) ?_ (hK _ _ (fun j u _ => PX.below (Below.refl _ _) j u) rfl hJ)⟩
     simp [execOp, Act.eval, go_sem, s5]
    | 4, _ =>
     cases ho
     refine .inl ⟨wanted_none rfl, fun K hK => rg_val (v := .int .i64 i) ?_ (hK _ _ (fun j u _ => PX.below (Below.refl _ _) j u) rfl hJ)⟩
     simp [execOp, Act.eval, go_sem, s8]
    | 5, _ =>
     cases ho
     have sx := hF.slot (i := 3) rfl (by simp) (hV 3 (hpre ⟨3, .data⟩ (by simp) rfl))
     have sy := hF.slot (i := 4) rfl (by simp) (hV 4 (hpre ⟨4, .data⟩ (by simp) rfl))
     refine .inl ⟨wanted_none rfl, fun K hK => rg_val (v := .int .u8 (cb.toNat : Int)) ?_ (hK _ _ (fun j u _ => PX.below (Below.refl _ _) j u) rfl hJ)⟩
     simp [execOp, Act.eval, go_sem, sx, sy, hits, hcb1]
    | 6, _ =>
     cases ho
     have sx := hF.slot (i := 5) rfl (by simp) (hV 5 (hpre ⟨5, .data⟩ (by simp) rfl))
     refine .inl ⟨wanted_none rfl, fun K hK => rg_enter (f := 91) (args := #[.string ⟨#[48, 49, 50, 51, 52, 53, 54, 55, 56, 57]⟩, .int .u8 (cb.toNat : Int)]) (w' := W) ?_ (Tryz.strings_IndexByte ⟨#[48, 49, 50, 51, 52, 53, 54, 55, 56, 57]⟩ (cb.toNat : Int) W) ?_ ?_ ?_⟩
     ·simp [Act.eval, go_sem, sx]
     ·rintro v w'' ⟨e, rfl⟩
      cases e
      exact hK _ _ (fun j u _ => PX.below (Below.refl _ _) j u) rfl hJ
     ·rintro chain w'' ⟨e, rfl⟩
      cases e
     ·rintro w'' ⟨e, rfl⟩
      cases e
    | 7, _ =>
     cases ho
     have sx := hF.slot (i := 6) rfl (by simp) (hV 6 (hpre ⟨6, .data⟩ (by simp) rfl))
     refine .inl ⟨wanted_none rfl, fun K hK => rg_val (v := .int .i64 (dg : Int)) ?_ (hK _ _ (fun j u _ => PX.below (Below.refl _ _) j u) rfl hJ)⟩
     simp [execOp, Act.eval, go_sem, sx, HDG]
   case fin =>
    intro A W hF hJ hV
    have e2 : A.tmps.getD 25 undef = .int .i64 (10 * (nv : Int)) := hV 2 (by omega)
    have e7 : A.tmps.getD 30 undef = .int .i64 (dg : Int) := hV 7 (by omega)
    rw [hF.lit [23, 24, 25, 26, 27, 28, 29, 30] (by kernel_rfl)]
    simp only [relaid, List.foldl_cons, List.foldl_nil, e2, e7]
    generalize A.tmps.getD 23 undef = y23
    generalize A.tmps.getD 24 undef = y24
    generalize A.tmps.getD 26 undef = y26
    generalize A.tmps.getD 27 undef = y27
    generalize A.tmps.getD 28 undef = y28
    generalize A.tmps.getD 29 undef = y29
    simp only [List.setIfInBounds_toArray, List.set_cons_succ, List.set_cons_zero, List.drop_succ_cons]
    have d1 := (hJ.block B HBL.out).trans HR1.out
    have p1 := frozen_of_row W B 1 _ _ d1
    have p0 : W.cell? ⟨B, 1, none⟩ = some (.int .i64 (nv : Int)) := by simp [World.cell?, d1]
    have HNR : Hid ((W.setCell ⟨B, 1, none⟩ (.int .i64 (10 * (nv : Int) + (dg : Int)))).heap[B]? = some (.cells #[.string P, .int .i64 (numV (T.take (i + 1)) : Int)] 38 (0, 0)) ∧ Below B W2 (W.setCell ⟨B, 1, none⟩ (.int .i64 (10 * (nv : Int) + (dg : Int))))) := by
     refine ⟨?_, (HR2.out.trans (hJ.mono (Nat.le_of_lt HBL.out))).setCell (Nat.le_refl _) _⟩
     rw [HNV.out, Int.natCast_add, Int.natCast_mul]
     exact setCell_block (i := 1) (.int .i64 (10 * (nv : Int) + (dg : Int))) d1
    clear hV hF e2 e7 hJ d1 HDG hcb1 hw10
    go_wp2
    go_roundg (K - (i + 1))
    case measure => omega
    case rel => exact ⟨i + 1, by go_num, by omega, Nat.le_refl _, HNR.out⟩
  ·have hiz : ¬ (i : Int) < (K : Int) := by omega
   have hik : i = K := by omega
   subst hik
   have hTK : T.take i = T.take 8 := take_min T HK8.out
   obtain ⟨r1, r2⟩ := REL.out
   rw [hTK] at r1
   have hcn : (numV (T.take 8) : Int) = cutN s := hL2.out.symm
   rw [hcn] at r1
   have hBl : B < wr.heap.size := (Array.getElem?_eq_some_iff.1 r1).1
   have r0 := (r2.block _ HBW.out.1).trans HR0.out
   have HWW : Hid (Below w.heap.size w wr) := HBW.out.2.trans (r2.mono (Nat.le_of_lt HBW.out.1))
   have HIB : Hid (idBad s = (decide (s.size = 0) || !decide (idT P (cutN s) = s))) := by show _ = _; unfold idBad; rw [hP]
   have HPP : Hid (idPp s = (if idBad s then ⟨#[]⟩ else P) ∧ idPn s = (if idBad s then 0 else cutN s) ∧ idPe s = (if idBad s then 6 else 0)) := ⟨by unfold idPp; rw [hP], rfl, rfl⟩
   have hse : s.toList.isEmpty = decide (s.size = 0) := by
    have h2 : s.toList.isEmpty = true ↔ s.size = 0 := by
     rw [ByteArray.toList_eq, List.isEmpty_iff, ← List.length_eq_zero_iff, Array.length_toList]
     rfl
    rw [Bool.eq_iff_iff, h2, decide_eq_true_eq]
   have HTX : Hid _ := id_Text P (cutN s) wr (by omega)
   have HQ := toList_eq_iff (idT P (cutN s)) s
   have R0 : Hid _ := r0
   have R1 : Hid _ := r1
   have x0 : wr.cell? ⟨B, 0, none⟩ = some (.string P) := by simp [World.cell?, r1]
   have x1 : wr.cell? ⟨B, 1, none⟩ = some (.int .i64 (cutN s)) := by simp [World.cell?, r1]
   have z0 := frozen_of_row wr w.heap.size 0 _ _ r0
   have z1 := frozen_of_row wr w.heap.size 1 _ _ r0
   have z2 : wr.cell? ⟨w.heap.size, 0, none⟩ = some (.string ⟨#[]⟩) := by simp [World.cell?, r0]
   have z3 : wr.cell? ⟨w.heap.size, 1, none⟩ = some (.int .i64 0) := by simp [World.cell?, r0]
   clear REL r0 r1 r2 hTK hcn hL2 hP hcp hT HK8
   generalize cutN s = cn at *
   cases h0 : decide (s.size = 0) with
   | true =>
    rw [h0] at hse
    have HB1' : Hid (idBad s = true) := by show _ = _; rw [HIB.out, h0]; rfl
    clear HQ h0
    go_wp2
    have hf0 := setCell_block (.string ⟨#[]⟩) R0.out (i := 0)
    have hfin := setCell_block (.int .i64 0) hf0 (i := 1)
    refine bodyPost_ret_by (results_cell_row_tmp (p := 2) (u := 3) rfl _ _ w.heap.size _ _ _ _ ?hp hfin Tryz.underlying38 rfl (by kernel_rfl)) rfl ⟨?_, (HWW.out.setCell (Nat.le_refl _) _).setCell (Nat.le_refl _) _⟩
    case hp => rfl
    rw [HPP.out.1, HPP.out.2.1, HPP.out.2.2, HB1'.out]
    rfl
   | false =>
    rw [h0] at hse
    rw [h0] at HIB
    cases h1 : decide (idT P cn = s) with
    | true =>
     rw [h1] at HQ
     have HB1' : Hid (idBad s = false) := by show _ = _; rw [HIB.out, h1]; rfl
     clear HIB h0 h1
     go_wp2_with fail
     refine Calls.mono HTX.out ?_
     rintro e w5 ⟨rfl, hb5⟩
     have R0' : Hid _ := (hb5.block _ (Array.getElem?_eq_some_iff.1 R0.out).1).trans R0.out
     have R1' := (hb5.block _ (Array.getElem?_eq_some_iff.1 R1.out).1).trans R1.out
     have HWW' : Hid _ := belowTrans HWW.out hb5
     clear x0 x1 z0 z1 z2 z3 hb5
     have x0 : w5.cell? ⟨B, 0, none⟩ = some (.string P) := by simp [World.cell?, R1']
     have x1 : w5.cell? ⟨B, 1, none⟩ = some (.int .i64 cn) := by simp [World.cell?, R1']
     have z0 := frozen_of_row w5 w.heap.size 0 _ _ R0'.out
     have z1 := frozen_of_row w5 w.heap.size 1 _ _ R0'.out
     have z2 : w5.cell? ⟨w.heap.size, 0, none⟩ = some (.string ⟨#[]⟩) := by have := R0'.out; simp [World.cell?, this]
     have z3 : w5.cell? ⟨w.heap.size, 1, none⟩ = some (.int .i64 0) := by have := R0'.out; simp [World.cell?, this]
     clear R1'
     go_wp2
     have hf0 := setCell_block (.string P) R0'.out (i := 0)
     have hfin := setCell_block (.int .i64 cn) hf0 (i := 1)
     refine bodyPost_ret_by (results_cell_row_tmp (p := 2) (u := 3) rfl _ _ w.heap.size _ _ _ _ ?hp hfin Tryz.underlying38 rfl (by kernel_rfl)) rfl ⟨?_, (HWW'.out.setCell (Nat.le_refl _) _).setCell (Nat.le_refl _) _⟩
     case hp => rfl
     rw [HPP.out.1, HPP.out.2.1, HPP.out.2.2, HB1'.out]
     rfl
    | false =>
     rw [h1] at HQ
     have HB1' : Hid (idBad s = true) := by show _ = _; rw [HIB.out, h1]; rfl
     clear HIB h0 h1
     go_wp2_with fail
     refine Calls.mono HTX.out ?_
     rintro e w5 ⟨rfl, hb5⟩
     have R0' : Hid _ := (hb5.block _ (Array.getElem?_eq_some_iff.1 R0.out).1).trans R0.out
     have HWW' : Hid _ := belowTrans HWW.out hb5
     clear x0 x1 z0 z1 z2 z3 hb5
     have z0 := frozen_of_row w5 w.heap.size 0 _ _ R0'.out
     have z1 := frozen_of_row w5 w.heap.size 1 _ _ R0'.out
     have z2 : w5.cell? ⟨w.heap.size, 0, none⟩ = some (.string ⟨#[]⟩) := by have := R0'.out; simp [World.cell?, this]
     have z3 : w5.cell? ⟨w.heap.size, 1, none⟩ = some (.int .i64 0) := by have := R0'.out; simp [World.cell?, this]
     go_wp2
     have hf0 := setCell_block (.string ⟨#[]⟩) R0'.out (i := 0)
     have hfin := setCell_block (.int .i64 0) hf0 (i := 1)
     refine bodyPost_ret_by (results_cell_row_tmp (p := 2) (u := 3) rfl _ _ w.heap.size _ _ _ _ ?hp hfin Tryz.underlying38 rfl (by kernel_rfl)) rfl ⟨?_, (HWW'.out.setCell (Nat.le_refl _) _).setCell (Nat.le_refl _) _⟩
     case hp => rfl
     rw [HPP.out.1, HPP.out.2.1, HPP.out.2.2, HB1'.out]
     rfl
end Go.Proofs.W
