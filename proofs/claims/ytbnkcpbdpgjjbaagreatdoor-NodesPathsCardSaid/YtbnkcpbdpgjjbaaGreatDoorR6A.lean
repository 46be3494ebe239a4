/- A PART OF THE PROOF THAT ONE CALL OF A LAW OF LAYER 18 (of nodes that may be, each path leads there) returns true, whatever the input; the input reads as it did. No condition beyond the given statement. This part: R6A. -/
import Derived.Test.YtbnkcpbdpgjjbaaGreatDoorRegInv
import Derived.Shelf.SlicesQ.Load
namespace Go.Proofs.Np
open Go Go.Proofs Go.RowKit
set_option maxRecDepth 1000000

def vals6A (b o c i : Nat) (ns : List Nd) (d : Nd) (r : Int) : Nat → Option Value
  | 0 => some (.slice (some ⟨b, o, none⟩) ns.length c)
  | 1 => some (.int .i64 (i : Int))
  | 2 => some (.pointer (some ⟨b, o + i * 10, none⟩))
  | 3 => some (.pointer (some ⟨b, o + i * 10, none⟩))
  | 4 => some (.agg #[.string d.sp, .int .i64 d.sn])
  | 5 => some (.agg #[.string ⟨#[]⟩, .int .i64 0])
  | 6 => some (.bool false)
  | 7 => some (.bool false)
  | 8 => some (.slice (some ⟨b, o, none⟩) ns.length c)
  | 9 => some (.slice (some ⟨b, o, none⟩) ns.length c)
  | 10 => some (.int .i64 (i : Int))
  | 11 => some (.pointer (some ⟨b, o + i * 10, none⟩))
  | 12 => some (.pointer (some ⟨b, o + i * 10, none⟩))
  | 13 => some (.agg #[.string d.sp, .int .i64 d.sn])
  | 14 => some (.int .i64 r)
  | 15 => some (.int .i64 (i : Int))
  | 16 => some (.bool true)
  | 17 => some (.bool true)
  | 18 => some (.bool true)
  | 19 => some undef
  | 20 => some undef
  | 21 => some undef
  | 22 => some undef
  | 23 => some undef
  | 24 => some undef
  | 25 => some undef
  | 26 => some undef
  | 27 => some undef
  | 28 => some undef
  | 29 => some undef
  | 30 => some undef
  | 31 => some undef
  | 32 => some undef
  | 33 => some undef
  | 34 => some undef
  | 35 => some undef
  | 36 => some undef
  | 37 => some undef
  | 38 => some undef
  | 39 => some undef
  | 40 => some undef
  | 41 => some (.bool true)
  | _ => none

set_option maxHeartbeats 16000000 in
theorem region6A (b o c i : Nat) (ns : List Nd) (d : Nd) (r : Int) (wr : World) (hN : NodesAt wr b o ns) (hlt : i < ns.length) (hlen : ns.length < 9223372036854775808) (hd : ns[i]? = some d) (hS : sameId d.sp d.sn ⟨#[]⟩ 0 = false) (hf : idxI (selfIs d.sp d.sn) ns = r) (hr : (r == (i : Int)) = false)
    (T0 : Array Value) (h0 : T0[0]? = some (.slice (some ⟨b, o, none⟩) ns.length c)) (h3 : T0[3]? = some (.int .i64 (i : Int))) (hsz : T0.size = 82) (Q : Exit → Act → World → Prop)
    (hQ : ∀ (u : Nat → Value) w, Below wr.heap.size wr w → Q .normal { tmps := behind6 T0 (.bool true) u, defers := [] } w) : Code.wp Tryz.prog reg6 Q { tmps := T0, defers := [] } wr := by
  rw [reg6_eq]
  have hi0 : (0 : Int) ≤ (i : Int) := by omega
  have hi1 : (i : Int) < (ns.length : Int) := by omega
  have hi2 : ¬ (i : Int) < 0 := by omega
  have hnl : ¬ ns.length ≤ i := by omega
  have hrn : ¬ r = (i : Int) := by simpa using hr
  have hSn : d.sp.toList = [] → ¬ d.sn = 0 := fun h1 h2 => by
    have h3 : d.sp.toList.isEmpty = true := by rw [h1]; rfl
    rw [isEmpty_iff] at h3
    have h4 : d.sp = ByteArray.empty := of_decide_eq_true h3
    rw [h4, h2] at hS
    exact absurd hS (by decide)
  refine wp_region_inv (by kernel_rfl) (fun i o ho => (op6_at ho).2.2) (Inv6 (vals6A b o c i ns d r) T0 wr) ⟨rfl, ⟨rfl, rfl, rfl, Nat.le_refl _, fun _ _ => rfl⟩, hsz, fun _ _ => rfl, fun j v _ hj hl => ?_⟩ ?_ ?_
  · simp [Array.getD_eq_getD_getElem?, ops6_size, hj] at hl
  · intro listed a w j op hls hI ho hl hdep
    have hj := (op6_at ho).1
    have s0 := (hI.low 0 (by decide)).trans h0
    have s3 := (hI.low 3 (by decide)).trans h3
    have hNw := hN.below hI.below
    obtain ⟨c0, c1, -, c3, c4, c5, c6, -⟩ := hNw.cell i d hd
    clear hl
    have ho2 := ho
    unfold ops6 reg6 loopA Tryz.f3 at ho2
    dsimp only at ho2
    match j, hj with
    | 0, _ =>
      simp only [List.getElem?_toArray, List.getElem?_cons_zero, Option.some.injEq] at ho2
      subst ho2
      refine step_val (v := (.slice (some ⟨b, o, none⟩) ns.length c)) ho rfl ?_ (hI.put ho (fun u hu => (Option.some.inj hu).symm) (Below.refl _ _))
      simp [execOp, Act.eval, go_sem, s0]
    | 1, _ =>
      simp only [List.getElem?_toArray, List.getElem?_cons_succ, List.getElem?_cons_zero, Option.some.injEq] at ho2
      subst ho2
      refine step_val (v := (.int .i64 (i : Int))) ho rfl ?_ (hI.put ho (fun u hu => (Option.some.inj hu).symm) (Below.refl _ _))
      simp [execOp, Act.eval, go_sem, s3]
    | 2, _ =>
      simp only [List.getElem?_toArray, List.getElem?_cons_succ, List.getElem?_cons_zero, Option.some.injEq] at ho2
      subst ho2
      have s16 : a.tmps[16]? = some (.slice (some ⟨b, o, none⟩) ns.length c) := hI.val 0 _ rfl (by decide) (hdep ⟨0, .data⟩ (by simp) rfl)
      have s17 : a.tmps[17]? = some (.int .i64 (i : Int)) := hI.val 1 _ rfl (by decide) (hdep ⟨1, .data⟩ (by simp) rfl)
      refine step_val (v := (.pointer (some ⟨b, o + i * 10, none⟩))) ho rfl ?_ (hI.put ho (fun u hu => (Option.some.inj hu).symm) (Below.refl _ _))
      simp [execOp, Act.eval, go_sem, hnl, s16, s17]
    | 3, _ =>
      simp only [List.getElem?_toArray, List.getElem?_cons_succ, List.getElem?_cons_zero, Option.some.injEq] at ho2
      subst ho2
      have s18 : a.tmps[18]? = some (.pointer (some ⟨b, o + i * 10, none⟩)) := hI.val 2 _ rfl (by decide) (hdep ⟨2, .data⟩ (by simp) rfl)
      refine step_val (v := (.pointer (some ⟨b, o + i * 10, none⟩))) ho rfl ?_ (hI.put ho (fun u hu => (Option.some.inj hu).symm) (Below.refl _ _))
      simp [execOp, Act.eval, go_sem, s18]
    | 4, _ =>
      simp only [List.getElem?_toArray, List.getElem?_cons_succ, List.getElem?_cons_zero, Option.some.injEq] at ho2
      subst ho2
      have s19 : a.tmps[19]? = some (.pointer (some ⟨b, o + i * 10, none⟩)) := hI.val 3 _ rfl (by decide) (hdep ⟨3, .data⟩ (by simp) rfl)
      refine step_val (v := (.agg #[.string d.sp, .int .i64 d.sn])) ho rfl ?_ (hI.put ho (fun u hu => (Option.some.inj hu).symm) (Below.refl _ _))
      simp [execOp, Act.eval, go_sem, c0, c1, s19]
    | 5, _ =>
      simp only [List.getElem?_toArray, List.getElem?_cons_succ, List.getElem?_cons_zero, Option.some.injEq] at ho2
      subst ho2
      refine step_val (v := (.agg #[.string ⟨#[]⟩, .int .i64 0])) ho rfl ?_ (hI.put ho (fun u hu => (Option.some.inj hu).symm) (Below.refl _ _))
      simp [execOp, Act.eval, go_sem]
    | 6, _ =>
      simp only [List.getElem?_toArray, List.getElem?_cons_succ, List.getElem?_cons_zero, Option.some.injEq] at ho2
      subst ho2
      have s20 : a.tmps[20]? = some (.agg #[.string d.sp, .int .i64 d.sn]) := hI.val 4 _ rfl (by decide) (hdep ⟨4, .data⟩ (by simp) rfl)
      have s21 : a.tmps[21]? = some (.agg #[.string ⟨#[]⟩, .int .i64 0]) := hI.val 5 _ rfl (by decide) (hdep ⟨5, .data⟩ (by simp) rfl)
      refine step_val (v := (.bool false)) ho rfl ?_ (hI.put ho (fun u hu => (Option.some.inj hu).symm) (Below.refl _ _))
      simp [execOp, Act.eval, go_sem, s20, s21]
      all_goals exact hSn
    | 7, _ =>
      simp only [List.getElem?_toArray, List.getElem?_cons_succ, List.getElem?_cons_zero, Option.some.injEq] at ho2
      subst ho2
      have s22 : a.tmps[22]? = some (.bool false) := hI.val 6 _ rfl (by decide) (hdep ⟨6, .data⟩ (by simp) rfl)
      refine step_val (v := (.bool false)) ho rfl ?_ (hI.put ho (fun u hu => (Option.some.inj hu).symm) (Below.refl _ _))
      simp [execOp, Act.eval, go_sem, s22]
    | 8, _ =>
      simp only [List.getElem?_toArray, List.getElem?_cons_succ, List.getElem?_cons_zero, Option.some.injEq] at ho2
      subst ho2
      have s23 : a.tmps[23]? = some (.bool false) := hI.val 7 _ rfl (by decide) (hdep ⟨7, .guard⟩ (by simp) rfl)
      refine step_val (v := (.slice (some ⟨b, o, none⟩) ns.length c)) ho (by unfold Region.wanted; simp only; rw [yields6 (b := false) (by decide) s23]; rfl) ?_ (hI.put ho (fun u hu => (Option.some.inj hu).symm) (Below.refl _ _))
      simp [execOp, Act.eval, go_sem, s0]
    | 9, _ =>
      simp only [List.getElem?_toArray, List.getElem?_cons_succ, List.getElem?_cons_zero, Option.some.injEq] at ho2
      subst ho2
      have s23 : a.tmps[23]? = some (.bool false) := hI.val 7 _ rfl (by decide) (hdep ⟨7, .guard⟩ (by simp) rfl)
      refine step_val (v := (.slice (some ⟨b, o, none⟩) ns.length c)) ho (by unfold Region.wanted; simp only; rw [yields6 (b := false) (by decide) s23]; rfl) ?_ (hI.put ho (fun u hu => (Option.some.inj hu).symm) (Below.refl _ _))
      simp [execOp, Act.eval, go_sem, s0]
    | 10, _ =>
      simp only [List.getElem?_toArray, List.getElem?_cons_succ, List.getElem?_cons_zero, Option.some.injEq] at ho2
      subst ho2
      have s23 : a.tmps[23]? = some (.bool false) := hI.val 7 _ rfl (by decide) (hdep ⟨7, .guard⟩ (by simp) rfl)
      refine step_val (v := (.int .i64 (i : Int))) ho (by unfold Region.wanted; simp only; rw [yields6 (b := false) (by decide) s23]; rfl) ?_ (hI.put ho (fun u hu => (Option.some.inj hu).symm) (Below.refl _ _))
      simp [execOp, Act.eval, go_sem, s3]
    | 11, _ =>
      simp only [List.getElem?_toArray, List.getElem?_cons_succ, List.getElem?_cons_zero, Option.some.injEq] at ho2
      subst ho2
      have s23 : a.tmps[23]? = some (.bool false) := hI.val 7 _ rfl (by decide) (hdep ⟨7, .guard⟩ (by simp) rfl)
      have s25 : a.tmps[25]? = some (.slice (some ⟨b, o, none⟩) ns.length c) := hI.val 9 _ rfl (by decide) (hdep ⟨9, .data⟩ (by simp) rfl)
      have s26 : a.tmps[26]? = some (.int .i64 (i : Int)) := hI.val 10 _ rfl (by decide) (hdep ⟨10, .data⟩ (by simp) rfl)
      refine step_val (v := (.pointer (some ⟨b, o + i * 10, none⟩))) ho (by unfold Region.wanted; simp only; rw [yields6 (b := false) (by decide) s23]; rfl) ?_ (hI.put ho (fun u hu => (Option.some.inj hu).symm) (Below.refl _ _))
      simp [execOp, Act.eval, go_sem, hnl, s25, s26]
    | 12, _ =>
      simp only [List.getElem?_toArray, List.getElem?_cons_succ, List.getElem?_cons_zero, Option.some.injEq] at ho2
      subst ho2
      have s23 : a.tmps[23]? = some (.bool false) := hI.val 7 _ rfl (by decide) (hdep ⟨7, .guard⟩ (by simp) rfl)
      have s27 : a.tmps[27]? = some (.pointer (some ⟨b, o + i * 10, none⟩)) := hI.val 11 _ rfl (by decide) (hdep ⟨11, .data⟩ (by simp) rfl)
      refine step_val (v := (.pointer (some ⟨b, o + i * 10, none⟩))) ho (by unfold Region.wanted; simp only; rw [yields6 (b := false) (by decide) s23]; rfl) ?_ (hI.put ho (fun u hu => (Option.some.inj hu).symm) (Below.refl _ _))
      simp [execOp, Act.eval, go_sem, s27]
    | 13, _ =>
      simp only [List.getElem?_toArray, List.getElem?_cons_succ, List.getElem?_cons_zero, Option.some.injEq] at ho2
      subst ho2
      have s23 : a.tmps[23]? = some (.bool false) := hI.val 7 _ rfl (by decide) (hdep ⟨7, .guard⟩ (by simp) rfl)
      have s28 : a.tmps[28]? = some (.pointer (some ⟨b, o + i * 10, none⟩)) := hI.val 12 _ rfl (by decide) (hdep ⟨12, .data⟩ (by simp) rfl)
      refine step_val (v := (.agg #[.string d.sp, .int .i64 d.sn])) ho (by unfold Region.wanted; simp only; rw [yields6 (b := false) (by decide) s23]; rfl) ?_ (hI.put ho (fun u hu => (Option.some.inj hu).symm) (Below.refl _ _))
      simp [execOp, Act.eval, go_sem, c0, c1, s28]
    | 14, _ =>
      simp only [List.getElem?_toArray, List.getElem?_cons_succ, List.getElem?_cons_zero, Option.some.injEq] at ho2
      subst ho2
      have s23 : a.tmps[23]? = some (.bool false) := hI.val 7 _ rfl (by decide) (hdep ⟨7, .guard⟩ (by simp) rfl)
      have s24 : a.tmps[24]? = some (.slice (some ⟨b, o, none⟩) ns.length c) := hI.val 8 _ rfl (by decide) (hdep ⟨8, .data⟩ (by simp) rfl)
      have s29 : a.tmps[29]? = some (.agg #[.string d.sp, .int .i64 d.sn]) := hI.val 13 _ rfl (by decide) (hdep ⟨13, .data⟩ (by simp) rfl)
      have hcon := find6 b o c ns d.sp d.sn w hNw hlen
      rw [hf] at hcon
      exact step_call (f := 6) (v := (.int .i64 r)) ho (by unfold Region.wanted; simp only; rw [yields6 (b := false) (by decide) s23]; rfl) (by simp [execOp, Act.eval, resolve, invoke, Deferred.ofValue, s24, s29]) (enters_of Tryz.func6 (by kernel_rfl) rfl _ _) hcon (fun w2 hb => hI.put ho (fun u hu => (Option.some.inj hu).symm) hb)
    | 15, _ =>
      simp only [List.getElem?_toArray, List.getElem?_cons_succ, List.getElem?_cons_zero, Option.some.injEq] at ho2
      subst ho2
      have s23 : a.tmps[23]? = some (.bool false) := hI.val 7 _ rfl (by decide) (hdep ⟨7, .guard⟩ (by simp) rfl)
      refine step_val (v := (.int .i64 (i : Int))) ho (by unfold Region.wanted; simp only; rw [yields6 (b := false) (by decide) s23]; rfl) ?_ (hI.put ho (fun u hu => (Option.some.inj hu).symm) (Below.refl _ _))
      simp [execOp, Act.eval, go_sem, s3]
    | 16, _ =>
      simp only [List.getElem?_toArray, List.getElem?_cons_succ, List.getElem?_cons_zero, Option.some.injEq] at ho2
      subst ho2
      have s23 : a.tmps[23]? = some (.bool false) := hI.val 7 _ rfl (by decide) (hdep ⟨7, .guard⟩ (by simp) rfl)
      have s30 : a.tmps[30]? = some (.int .i64 r) := hI.val 14 _ rfl (by decide) (hdep ⟨14, .data⟩ (by simp) rfl)
      have s31 : a.tmps[31]? = some (.int .i64 (i : Int)) := hI.val 15 _ rfl (by decide) (hdep ⟨15, .data⟩ (by simp) rfl)
      refine step_val (v := (.bool true)) ho (by unfold Region.wanted; simp only; rw [yields6 (b := false) (by decide) s23]; rfl) ?_ (hI.put ho (fun u hu => (Option.some.inj hu).symm) (Below.refl _ _))
      simp [execOp, Act.eval, go_sem, hrn, s30, s31]
    | 17, _ =>
      simp only [List.getElem?_toArray, List.getElem?_cons_succ, List.getElem?_cons_zero, Option.some.injEq] at ho2
      subst ho2
      have s23 : a.tmps[23]? = some (.bool false) := hI.val 7 _ rfl (by decide) (hdep ⟨7, .data⟩ (by simp) rfl)
      have s32 : a.tmps[32]? = some (.bool true) := hI.val 16 _ rfl (by decide) (hdep ⟨16, .data⟩ (by simp) rfl)
      refine step_val (v := (.bool true)) ho rfl ?_ (hI.put ho (fun u hu => (Option.some.inj hu).symm) (Below.refl _ _))
      simp [execOp, Act.eval, go_sem, s23, s32]
    | 18, _ =>
      simp only [List.getElem?_toArray, List.getElem?_cons_succ, List.getElem?_cons_zero, Option.some.injEq] at ho2
      subst ho2
      have s33 : a.tmps[33]? = some (.bool true) := hI.val 17 _ rfl (by decide) (hdep ⟨17, .data⟩ (by simp) rfl)
      refine step_val (v := (.bool true)) ho rfl ?_ (hI.put ho (fun u hu => (Option.some.inj hu).symm) (Below.refl _ _))
      simp [execOp, Act.eval, go_sem, s33]
    | 19, _ =>
      simp only [List.getElem?_toArray, List.getElem?_cons_succ, List.getElem?_cons_zero, Option.some.injEq] at ho2
      subst ho2
      have s34 : a.tmps[34]? = some (.bool true) := hI.val 18 _ rfl (by decide) (hdep ⟨18, .guard⟩ (by simp) rfl)
      exact step_skip ho (by unfold Region.wanted; simp only; rw [yields6 (b := true) (by decide) s34]; rfl) (hI.put ho (fun u hu => (Option.some.inj hu).symm) (Below.refl _ _))
    | 20, _ =>
      simp only [List.getElem?_toArray, List.getElem?_cons_succ, List.getElem?_cons_zero, Option.some.injEq] at ho2
      subst ho2
      have s34 : a.tmps[34]? = some (.bool true) := hI.val 18 _ rfl (by decide) (hdep ⟨18, .guard⟩ (by simp) rfl)
      exact step_skip ho (by unfold Region.wanted; simp only; rw [yields6 (b := true) (by decide) s34]; rfl) (hI.put ho (fun u hu => (Option.some.inj hu).symm) (Below.refl _ _))
    | 21, _ =>
      simp only [List.getElem?_toArray, List.getElem?_cons_succ, List.getElem?_cons_zero, Option.some.injEq] at ho2
      subst ho2
      have s34 : a.tmps[34]? = some (.bool true) := hI.val 18 _ rfl (by decide) (hdep ⟨18, .guard⟩ (by simp) rfl)
      have s35 : a.tmps[35]? = some undef := hI.val 19 _ rfl (by decide) (hdep ⟨19, .data⟩ (by simp) rfl)
      have s36 : a.tmps[36]? = some undef := hI.val 20 _ rfl (by decide) (hdep ⟨20, .data⟩ (by simp) rfl)
      exact step_skip ho (by unfold Region.wanted; simp only; rw [yields6 (b := true) (by decide) s34]; rfl) (hI.put ho (fun u hu => (Option.some.inj hu).symm) (Below.refl _ _))
    | 22, _ =>
      simp only [List.getElem?_toArray, List.getElem?_cons_succ, List.getElem?_cons_zero, Option.some.injEq] at ho2
      subst ho2
      have s34 : a.tmps[34]? = some (.bool true) := hI.val 18 _ rfl (by decide) (hdep ⟨18, .guard⟩ (by simp) rfl)
      have s37 : a.tmps[37]? = some undef := hI.val 21 _ rfl (by decide) (hdep ⟨21, .data⟩ (by simp) rfl)
      exact step_skip ho (by unfold Region.wanted; simp only; rw [yields6 (b := true) (by decide) s34]; rfl) (hI.put ho (fun u hu => (Option.some.inj hu).symm) (Below.refl _ _))
    | 23, _ =>
      simp only [List.getElem?_toArray, List.getElem?_cons_succ, List.getElem?_cons_zero, Option.some.injEq] at ho2
      subst ho2
      have s34 : a.tmps[34]? = some (.bool true) := hI.val 18 _ rfl (by decide) (hdep ⟨18, .guard⟩ (by simp) rfl)
      have s38 : a.tmps[38]? = some undef := hI.val 22 _ rfl (by decide) (hdep ⟨22, .data⟩ (by simp) rfl)
      exact step_skip ho (by unfold Region.wanted; simp only; rw [yields6 (b := true) (by decide) s34]; rfl) (hI.put ho (fun u hu => (Option.some.inj hu).symm) (Below.refl _ _))
    | 24, _ =>
      simp only [List.getElem?_toArray, List.getElem?_cons_succ, List.getElem?_cons_zero, Option.some.injEq] at ho2
      subst ho2
      have s34 : a.tmps[34]? = some (.bool true) := hI.val 18 _ rfl (by decide) (hdep ⟨18, .guard⟩ (by simp) rfl)
      have s39 : a.tmps[39]? = some undef := hI.val 23 _ rfl (by decide) (hdep ⟨23, .data⟩ (by simp) rfl)
      exact step_skip ho (by unfold Region.wanted; simp only; rw [yields6 (b := true) (by decide) s34]; rfl) (hI.put ho (fun u hu => (Option.some.inj hu).symm) (Below.refl _ _))
    | 25, _ =>
      simp only [List.getElem?_toArray, List.getElem?_cons_succ, List.getElem?_cons_zero, Option.some.injEq] at ho2
      subst ho2
      have s34 : a.tmps[34]? = some (.bool true) := hI.val 18 _ rfl (by decide) (hdep ⟨18, .guard⟩ (by simp) rfl)
      have s40 : a.tmps[40]? = some undef := hI.val 24 _ rfl (by decide) (hdep ⟨24, .data⟩ (by simp) rfl)
      exact step_skip ho (by unfold Region.wanted; simp only; rw [yields6 (b := true) (by decide) s34]; rfl) (hI.put ho (fun u hu => (Option.some.inj hu).symm) (Below.refl _ _))
    | 26, _ =>
      simp only [List.getElem?_toArray, List.getElem?_cons_succ, List.getElem?_cons_zero, Option.some.injEq] at ho2
      subst ho2
      have s41 : a.tmps[41]? = some undef := hI.val 25 _ rfl (by decide) (hdep ⟨25, .guard⟩ (by simp) rfl)
      exact step_skip ho (by unfold Region.wanted; simp only; rw [yields6n (by decide) s41]; rfl) (hI.put ho (fun u hu => (Option.some.inj hu).symm) (Below.refl _ _))
    | 27, _ =>
      simp only [List.getElem?_toArray, List.getElem?_cons_succ, List.getElem?_cons_zero, Option.some.injEq] at ho2
      subst ho2
      have s41 : a.tmps[41]? = some undef := hI.val 25 _ rfl (by decide) (hdep ⟨25, .guard⟩ (by simp) rfl)
      exact step_skip ho (by unfold Region.wanted; simp only; rw [yields6n (by decide) s41]; rfl) (hI.put ho (fun u hu => (Option.some.inj hu).symm) (Below.refl _ _))
    | 28, _ =>
      simp only [List.getElem?_toArray, List.getElem?_cons_succ, List.getElem?_cons_zero, Option.some.injEq] at ho2
      subst ho2
      have s41 : a.tmps[41]? = some undef := hI.val 25 _ rfl (by decide) (hdep ⟨25, .guard⟩ (by simp) rfl)
      exact step_skip ho (by unfold Region.wanted; simp only; rw [yields6n (by decide) s41]; rfl) (hI.put ho (fun u hu => (Option.some.inj hu).symm) (Below.refl _ _))
    | 29, _ =>
      simp only [List.getElem?_toArray, List.getElem?_cons_succ, List.getElem?_cons_zero, Option.some.injEq] at ho2
      subst ho2
      have s41 : a.tmps[41]? = some undef := hI.val 25 _ rfl (by decide) (hdep ⟨25, .guard⟩ (by simp) rfl)
      have s43 : a.tmps[43]? = some undef := hI.val 27 _ rfl (by decide) (hdep ⟨27, .data⟩ (by simp) rfl)
      have s44 : a.tmps[44]? = some undef := hI.val 28 _ rfl (by decide) (hdep ⟨28, .data⟩ (by simp) rfl)
      exact step_skip ho (by unfold Region.wanted; simp only; rw [yields6n (by decide) s41]; rfl) (hI.put ho (fun u hu => (Option.some.inj hu).symm) (Below.refl _ _))
    | 30, _ =>
      simp only [List.getElem?_toArray, List.getElem?_cons_succ, List.getElem?_cons_zero, Option.some.injEq] at ho2
      subst ho2
      have s41 : a.tmps[41]? = some undef := hI.val 25 _ rfl (by decide) (hdep ⟨25, .guard⟩ (by simp) rfl)
      have s45 : a.tmps[45]? = some undef := hI.val 29 _ rfl (by decide) (hdep ⟨29, .data⟩ (by simp) rfl)
      exact step_skip ho (by unfold Region.wanted; simp only; rw [yields6n (by decide) s41]; rfl) (hI.put ho (fun u hu => (Option.some.inj hu).symm) (Below.refl _ _))
    | 31, _ =>
      simp only [List.getElem?_toArray, List.getElem?_cons_succ, List.getElem?_cons_zero, Option.some.injEq] at ho2
      subst ho2
      have s41 : a.tmps[41]? = some undef := hI.val 25 _ rfl (by decide) (hdep ⟨25, .guard⟩ (by simp) rfl)
      have s46 : a.tmps[46]? = some undef := hI.val 30 _ rfl (by decide) (hdep ⟨30, .data⟩ (by simp) rfl)
      exact step_skip ho (by unfold Region.wanted; simp only; rw [yields6n (by decide) s41]; rfl) (hI.put ho (fun u hu => (Option.some.inj hu).symm) (Below.refl _ _))
    | 32, _ =>
      simp only [List.getElem?_toArray, List.getElem?_cons_succ, List.getElem?_cons_zero, Option.some.injEq] at ho2
      subst ho2
      have s41 : a.tmps[41]? = some undef := hI.val 25 _ rfl (by decide) (hdep ⟨25, .guard⟩ (by simp) rfl)
      exact step_skip ho (by unfold Region.wanted; simp only; rw [yields6n (by decide) s41]; rfl) (hI.put ho (fun u hu => (Option.some.inj hu).symm) (Below.refl _ _))
    | 33, _ =>
      simp only [List.getElem?_toArray, List.getElem?_cons_succ, List.getElem?_cons_zero, Option.some.injEq] at ho2
      subst ho2
      have s41 : a.tmps[41]? = some undef := hI.val 25 _ rfl (by decide) (hdep ⟨25, .guard⟩ (by simp) rfl)
      exact step_skip ho (by unfold Region.wanted; simp only; rw [yields6n (by decide) s41]; rfl) (hI.put ho (fun u hu => (Option.some.inj hu).symm) (Below.refl _ _))
    | 34, _ =>
      simp only [List.getElem?_toArray, List.getElem?_cons_succ, List.getElem?_cons_zero, Option.some.injEq] at ho2
      subst ho2
      have s41 : a.tmps[41]? = some undef := hI.val 25 _ rfl (by decide) (hdep ⟨25, .guard⟩ (by simp) rfl)
      have s48 : a.tmps[48]? = some undef := hI.val 32 _ rfl (by decide) (hdep ⟨32, .data⟩ (by simp) rfl)
      have s49 : a.tmps[49]? = some undef := hI.val 33 _ rfl (by decide) (hdep ⟨33, .data⟩ (by simp) rfl)
      exact step_skip ho (by unfold Region.wanted; simp only; rw [yields6n (by decide) s41]; rfl) (hI.put ho (fun u hu => (Option.some.inj hu).symm) (Below.refl _ _))
    | 35, _ =>
      simp only [List.getElem?_toArray, List.getElem?_cons_succ, List.getElem?_cons_zero, Option.some.injEq] at ho2
      subst ho2
      have s41 : a.tmps[41]? = some undef := hI.val 25 _ rfl (by decide) (hdep ⟨25, .guard⟩ (by simp) rfl)
      have s50 : a.tmps[50]? = some undef := hI.val 34 _ rfl (by decide) (hdep ⟨34, .data⟩ (by simp) rfl)
      exact step_skip ho (by unfold Region.wanted; simp only; rw [yields6n (by decide) s41]; rfl) (hI.put ho (fun u hu => (Option.some.inj hu).symm) (Below.refl _ _))
    | 36, _ =>
      simp only [List.getElem?_toArray, List.getElem?_cons_succ, List.getElem?_cons_zero, Option.some.injEq] at ho2
      subst ho2
      have s41 : a.tmps[41]? = some undef := hI.val 25 _ rfl (by decide) (hdep ⟨25, .guard⟩ (by simp) rfl)
      have s51 : a.tmps[51]? = some undef := hI.val 35 _ rfl (by decide) (hdep ⟨35, .data⟩ (by simp) rfl)
      exact step_skip ho (by unfold Region.wanted; simp only; rw [yields6n (by decide) s41]; rfl) (hI.put ho (fun u hu => (Option.some.inj hu).symm) (Below.refl _ _))
    | 37, _ =>
      simp only [List.getElem?_toArray, List.getElem?_cons_succ, List.getElem?_cons_zero, Option.some.injEq] at ho2
      subst ho2
      have s41 : a.tmps[41]? = some undef := hI.val 25 _ rfl (by decide) (hdep ⟨25, .guard⟩ (by simp) rfl)
      have s42 : a.tmps[42]? = some undef := hI.val 26 _ rfl (by decide) (hdep ⟨26, .data⟩ (by simp) rfl)
      have s47 : a.tmps[47]? = some undef := hI.val 31 _ rfl (by decide) (hdep ⟨31, .data⟩ (by simp) rfl)
      have s52 : a.tmps[52]? = some undef := hI.val 36 _ rfl (by decide) (hdep ⟨36, .data⟩ (by simp) rfl)
      exact step_skip ho (by unfold Region.wanted; simp only; rw [yields6n (by decide) s41]; rfl) (hI.put ho (fun u hu => (Option.some.inj hu).symm) (Below.refl _ _))
    | 38, _ =>
      simp only [List.getElem?_toArray, List.getElem?_cons_succ, List.getElem?_cons_zero, Option.some.injEq] at ho2
      subst ho2
      have s41 : a.tmps[41]? = some undef := hI.val 25 _ rfl (by decide) (hdep ⟨25, .guard⟩ (by simp) rfl)
      exact step_skip ho (by unfold Region.wanted; simp only; rw [yields6n (by decide) s41]; rfl) (hI.put ho (fun u hu => (Option.some.inj hu).symm) (Below.refl _ _))
    | 39, _ =>
      simp only [List.getElem?_toArray, List.getElem?_cons_succ, List.getElem?_cons_zero, Option.some.injEq] at ho2
      subst ho2
      have s41 : a.tmps[41]? = some undef := hI.val 25 _ rfl (by decide) (hdep ⟨25, .guard⟩ (by simp) rfl)
      have s53 : a.tmps[53]? = some undef := hI.val 37 _ rfl (by decide) (hdep ⟨37, .data⟩ (by simp) rfl)
      have s54 : a.tmps[54]? = some undef := hI.val 38 _ rfl (by decide) (hdep ⟨38, .data⟩ (by simp) rfl)
      exact step_skip ho (by unfold Region.wanted; simp only; rw [yields6n (by decide) s41]; rfl) (hI.put ho (fun u hu => (Option.some.inj hu).symm) (Below.refl _ _))
    | 40, _ =>
      simp only [List.getElem?_toArray, List.getElem?_cons_succ, List.getElem?_cons_zero, Option.some.injEq] at ho2
      subst ho2
      have s34 : a.tmps[34]? = some (.bool true) := hI.val 18 _ rfl (by decide) (hdep ⟨18, .guard⟩ (by simp) rfl)
      have s41 : a.tmps[41]? = some undef := hI.val 25 _ rfl (by decide) (hdep ⟨25, .data⟩ (by simp) rfl)
      have s55 : a.tmps[55]? = some undef := hI.val 39 _ rfl (by decide) (hdep ⟨39, .data⟩ (by simp) rfl)
      exact step_skip ho (by unfold Region.wanted; simp only; rw [yields6 (b := true) (by decide) s34]; rfl) (hI.put ho (fun u hu => (Option.some.inj hu).symm) (Below.refl _ _))
    | 41, _ =>
      simp only [List.getElem?_toArray, List.getElem?_cons_succ, List.getElem?_cons_zero, Option.some.injEq] at ho2
      subst ho2
      have s34 : a.tmps[34]? = some (.bool true) := hI.val 18 _ rfl (by decide) (hdep ⟨18, .data⟩ (by simp) rfl)
      have s56 : a.tmps[56]? = some undef := hI.val 40 _ rfl (by decide) (hdep ⟨40, .data⟩ (by simp) rfl)
      refine step_val (v := (.bool true)) ho rfl ?_ (hI.put ho (fun u hu => (Option.some.inj hu).symm) (Below.refl _ _))
      simp [execOp, Act.eval, go_sem, s34, s56]
  · intro listed a w hls hI hall
    have h57 := hI.val 41 _ rfl (by decide) (hall 41 (by rw [ops6_size]; decide))
    have hb6 := behind6_eq hI.size hI.low h57
    have ha : a = { tmps := behind6 T0 (.bool true) fun j => a.tmps.getD j undef, defers := [] } := by
      obtain ⟨tm, df⟩ := a
      have h1 : df = [] := hI.nodef
      subst h1
      exact congrArg (fun t => ({ tmps := t, defers := [] } : Act)) hb6
    rw [ha]
    exact hQ _ w hI.below
end Go.Proofs.Np
namespace Go.Proofs.Np
open Go Go.Proofs Go.RowKit
set_option maxRecDepth 1000000

def vals6B (b o c i : Nat) (ns : List Nd) (d : Nd) (_r : Int) : Nat → Option Value
  | 0 => some (.slice (some ⟨b, o, none⟩) ns.length c)
  | 1 => some (.int .i64 (i : Int))
  | 2 => some (.pointer (some ⟨b, o + i * 10, none⟩))
  | 3 => some (.pointer (some ⟨b, o + i * 10, none⟩))
  | 4 => some (.agg #[.string d.sp, .int .i64 d.sn])
  | 5 => some (.agg #[.string ⟨#[]⟩, .int .i64 0])
  | 6 => some (.bool false)
  | 7 => some (.bool false)
  | 8 => some (.slice (some ⟨b, o, none⟩) ns.length c)
  | 9 => some (.slice (some ⟨b, o, none⟩) ns.length c)
  | 10 => some (.int .i64 (i : Int))
  | 11 => some (.pointer (some ⟨b, o + i * 10, none⟩))
  | 12 => some (.pointer (some ⟨b, o + i * 10, none⟩))
  | 13 => some (.agg #[.string d.sp, .int .i64 d.sn])
  | 14 => some (.int .i64 (i : Int))
  | 15 => some (.int .i64 (i : Int))
  | 16 => some (.bool false)
  | 17 => some (.bool false)
  | 18 => some (.bool false)
  | 19 => some (.slice (some ⟨b, o, none⟩) ns.length c)
  | 20 => some (.int .i64 (i : Int))
  | 21 => some (.pointer (some ⟨b, o + i * 10, none⟩))
  | 22 => some (.pointer (some ⟨b, o + i * 10 + 6, none⟩))
  | 23 => some (.string d.gone)
  | 24 => some (.bool false)
  | 25 => some (.bool false)
  | 26 => some undef
  | 27 => some undef
  | 28 => some undef
  | 29 => some undef
  | 30 => some undef
  | 31 => some undef
  | 32 => some undef
  | 33 => some undef
  | 34 => some undef
  | 35 => some undef
  | 36 => some undef
  | 37 => some undef
  | 38 => some undef
  | 39 => some undef
  | 40 => some (.bool false)
  | 41 => some (.bool false)
  | _ => none

set_option maxHeartbeats 16000000 in
theorem region6B (b o c i : Nat) (ns : List Nd) (d : Nd) (r : Int) (wr : World) (hN : NodesAt wr b o ns) (hlt : i < ns.length) (hlen : ns.length < 9223372036854775808) (hd : ns[i]? = some d) (hS : sameId d.sp d.sn ⟨#[]⟩ 0 = false) (hf : idxI (selfIs d.sp d.sn) ns = (i : Nat)) (hg : d.gone.toList.isEmpty = false)
    (T0 : Array Value) (h0 : T0[0]? = some (.slice (some ⟨b, o, none⟩) ns.length c)) (h3 : T0[3]? = some (.int .i64 (i : Int))) (hsz : T0.size = 82) (Q : Exit → Act → World → Prop)
    (hQ : ∀ (u : Nat → Value) w, Below wr.heap.size wr w → Q .normal { tmps := behind6 T0 (.bool false) u, defers := [] } w) : Code.wp Tryz.prog reg6 Q { tmps := T0, defers := [] } wr := by
  rw [reg6_eq]
  have hi0 : (0 : Int) ≤ (i : Int) := by omega
  have hi1 : (i : Int) < (ns.length : Int) := by omega
  have hi2 : ¬ (i : Int) < 0 := by omega
  have hnl : ¬ ns.length ≤ i := by omega
  have hgn : ¬ d.gone.toList = [] := by simpa using hg
  have hSn : d.sp.toList = [] → ¬ d.sn = 0 := fun h1 h2 => by
    have h3 : d.sp.toList.isEmpty = true := by rw [h1]; rfl
    rw [isEmpty_iff] at h3
    have h4 : d.sp = ByteArray.empty := of_decide_eq_true h3
    rw [h4, h2] at hS
    exact absurd hS (by decide)
  refine wp_region_inv (by kernel_rfl) (fun i o ho => (op6_at ho).2.2) (Inv6 (vals6B b o c i ns d r) T0 wr) ⟨rfl, ⟨rfl, rfl, rfl, Nat.le_refl _, fun _ _ => rfl⟩, hsz, fun _ _ => rfl, fun j v _ hj hl => ?_⟩ ?_ ?_
  · simp [Array.getD_eq_getD_getElem?, ops6_size, hj] at hl
  · intro listed a w j op hls hI ho hl hdep
    have hj := (op6_at ho).1
    have s0 := (hI.low 0 (by decide)).trans h0
    have s3 := (hI.low 3 (by decide)).trans h3
    have hNw := hN.below hI.below
    obtain ⟨c0, c1, -, c3, c4, c5, c6, -⟩ := hNw.cell i d hd
    clear hl
    have ho2 := ho
    unfold ops6 reg6 loopA Tryz.f3 at ho2
    dsimp only at ho2
    match j, hj with
    | 0, _ =>
      simp only [List.getElem?_toArray, List.getElem?_cons_zero, Option.some.injEq] at ho2
      subst ho2
      refine step_val (v := (.slice (some ⟨b, o, none⟩) ns.length c)) ho rfl ?_ (hI.put ho (fun u hu => (Option.some.inj hu).symm) (Below.refl _ _))
      simp [execOp, Act.eval, go_sem, s0]
    | 1, _ =>
      simp only [List.getElem?_toArray, List.getElem?_cons_succ, List.getElem?_cons_zero, Option.some.injEq] at ho2
      subst ho2
      refine step_val (v := (.int .i64 (i : Int))) ho rfl ?_ (hI.put ho (fun u hu => (Option.some.inj hu).symm) (Below.refl _ _))
      simp [execOp, Act.eval, go_sem, s3]
    | 2, _ =>
      simp only [List.getElem?_toArray, List.getElem?_cons_succ, List.getElem?_cons_zero, Option.some.injEq] at ho2
      subst ho2
      have s16 : a.tmps[16]? = some (.slice (some ⟨b, o, none⟩) ns.length c) := hI.val 0 _ rfl (by decide) (hdep ⟨0, .data⟩ (by simp) rfl)
      have s17 : a.tmps[17]? = some (.int .i64 (i : Int)) := hI.val 1 _ rfl (by decide) (hdep ⟨1, .data⟩ (by simp) rfl)
      refine step_val (v := (.pointer (some ⟨b, o + i * 10, none⟩))) ho rfl ?_ (hI.put ho (fun u hu => (Option.some.inj hu).symm) (Below.refl _ _))
      simp [execOp, Act.eval, go_sem, hnl, s16, s17]
    | 3, _ =>
      simp only [List.getElem?_toArray, List.getElem?_cons_succ, List.getElem?_cons_zero, Option.some.injEq] at ho2
      subst ho2
      have s18 : a.tmps[18]? = some (.pointer (some ⟨b, o + i * 10, none⟩)) := hI.val 2 _ rfl (by decide) (hdep ⟨2, .data⟩ (by simp) rfl)
      refine step_val (v := (.pointer (some ⟨b, o + i * 10, none⟩))) ho rfl ?_ (hI.put ho (fun u hu => (Option.some.inj hu).symm) (Below.refl _ _))
      simp [execOp, Act.eval, go_sem, s18]
    | 4, _ =>
      simp only [List.getElem?_toArray, List.getElem?_cons_succ, List.getElem?_cons_zero, Option.some.injEq] at ho2
      subst ho2
      have s19 : a.tmps[19]? = some (.pointer (some ⟨b, o + i * 10, none⟩)) := hI.val 3 _ rfl (by decide) (hdep ⟨3, .data⟩ (by simp) rfl)
      refine step_val (v := (.agg #[.string d.sp, .int .i64 d.sn])) ho rfl ?_ (hI.put ho (fun u hu => (Option.some.inj hu).symm) (Below.refl _ _))
      simp [execOp, Act.eval, go_sem, c0, c1, s19]
    | 5, _ =>
      simp only [List.getElem?_toArray, List.getElem?_cons_succ, List.getElem?_cons_zero, Option.some.injEq] at ho2
      subst ho2
      refine step_val (v := (.agg #[.string ⟨#[]⟩, .int .i64 0])) ho rfl ?_ (hI.put ho (fun u hu => (Option.some.inj hu).symm) (Below.refl _ _))
      simp [execOp, Act.eval, go_sem]
    | 6, _ =>
      simp only [List.getElem?_toArray, List.getElem?_cons_succ, List.getElem?_cons_zero, Option.some.injEq] at ho2
      subst ho2
      have s20 : a.tmps[20]? = some (.agg #[.string d.sp, .int .i64 d.sn]) := hI.val 4 _ rfl (by decide) (hdep ⟨4, .data⟩ (by simp) rfl)
      have s21 : a.tmps[21]? = some (.agg #[.string ⟨#[]⟩, .int .i64 0]) := hI.val 5 _ rfl (by decide) (hdep ⟨5, .data⟩ (by simp) rfl)
      refine step_val (v := (.bool false)) ho rfl ?_ (hI.put ho (fun u hu => (Option.some.inj hu).symm) (Below.refl _ _))
      simp [execOp, Act.eval, go_sem, s20, s21]
      all_goals exact hSn
    | 7, _ =>
      simp only [List.getElem?_toArray, List.getElem?_cons_succ, List.getElem?_cons_zero, Option.some.injEq] at ho2
      subst ho2
      have s22 : a.tmps[22]? = some (.bool false) := hI.val 6 _ rfl (by decide) (hdep ⟨6, .data⟩ (by simp) rfl)
      refine step_val (v := (.bool false)) ho rfl ?_ (hI.put ho (fun u hu => (Option.some.inj hu).symm) (Below.refl _ _))
      simp [execOp, Act.eval, go_sem, s22]
    | 8, _ =>
      simp only [List.getElem?_toArray, List.getElem?_cons_succ, List.getElem?_cons_zero, Option.some.injEq] at ho2
      subst ho2
      have s23 : a.tmps[23]? = some (.bool false) := hI.val 7 _ rfl (by decide) (hdep ⟨7, .guard⟩ (by simp) rfl)
      refine step_val (v := (.slice (some ⟨b, o, none⟩) ns.length c)) ho (by unfold Region.wanted; simp only; rw [yields6 (b := false) (by decide) s23]; rfl) ?_ (hI.put ho (fun u hu => (Option.some.inj hu).symm) (Below.refl _ _))
      simp [execOp, Act.eval, go_sem, s0]
    | 9, _ =>
      simp only [List.getElem?_toArray, List.getElem?_cons_succ, List.getElem?_cons_zero, Option.some.injEq] at ho2
      subst ho2
      have s23 : a.tmps[23]? = some (.bool false) := hI.val 7 _ rfl (by decide) (hdep ⟨7, .guard⟩ (by simp) rfl)
      refine step_val (v := (.slice (some ⟨b, o, none⟩) ns.length c)) ho (by unfold Region.wanted; simp only; rw [yields6 (b := false) (by decide) s23]; rfl) ?_ (hI.put ho (fun u hu => (Option.some.inj hu).symm) (Below.refl _ _))
      simp [execOp, Act.eval, go_sem, s0]
    | 10, _ =>
      simp only [List.getElem?_toArray, List.getElem?_cons_succ, List.getElem?_cons_zero, Option.some.injEq] at ho2
      subst ho2
      have s23 : a.tmps[23]? = some (.bool false) := hI.val 7 _ rfl (by decide) (hdep ⟨7, .guard⟩ (by simp) rfl)
      refine step_val (v := (.int .i64 (i : Int))) ho (by unfold Region.wanted; simp only; rw [yields6 (b := false) (by decide) s23]; rfl) ?_ (hI.put ho (fun u hu => (Option.some.inj hu).symm) (Below.refl _ _))
      simp [execOp, Act.eval, go_sem, s3]
    | 11, _ =>
      simp only [List.getElem?_toArray, List.getElem?_cons_succ, List.getElem?_cons_zero, Option.some.injEq] at ho2
      subst ho2
      have s23 : a.tmps[23]? = some (.bool false) := hI.val 7 _ rfl (by decide) (hdep ⟨7, .guard⟩ (by simp) rfl)
      have s25 : a.tmps[25]? = some (.slice (some ⟨b, o, none⟩) ns.length c) := hI.val 9 _ rfl (by decide) (hdep ⟨9, .data⟩ (by simp) rfl)
      have s26 : a.tmps[26]? = some (.int .i64 (i : Int)) := hI.val 10 _ rfl (by decide) (hdep ⟨10, .data⟩ (by simp) rfl)
      refine step_val (v := (.pointer (some ⟨b, o + i * 10, none⟩))) ho (by unfold Region.wanted; simp only; rw [yields6 (b := false) (by decide) s23]; rfl) ?_ (hI.put ho (fun u hu => (Option.some.inj hu).symm) (Below.refl _ _))
      simp [execOp, Act.eval, go_sem, hnl, s25, s26]
    | 12, _ =>
      simp only [List.getElem?_toArray, List.getElem?_cons_succ, List.getElem?_cons_zero, Option.some.injEq] at ho2
      subst ho2
      have s23 : a.tmps[23]? = some (.bool false) := hI.val 7 _ rfl (by decide) (hdep ⟨7, .guard⟩ (by simp) rfl)
      have s27 : a.tmps[27]? = some (.pointer (some ⟨b, o + i * 10, none⟩)) := hI.val 11 _ rfl (by decide) (hdep ⟨11, .data⟩ (by simp) rfl)
      refine step_val (v := (.pointer (some ⟨b, o + i * 10, none⟩))) ho (by unfold Region.wanted; simp only; rw [yields6 (b := false) (by decide) s23]; rfl) ?_ (hI.put ho (fun u hu => (Option.some.inj hu).symm) (Below.refl _ _))
      simp [execOp, Act.eval, go_sem, s27]
    | 13, _ =>
      simp only [List.getElem?_toArray, List.getElem?_cons_succ, List.getElem?_cons_zero, Option.some.injEq] at ho2
      subst ho2
      have s23 : a.tmps[23]? = some (.bool false) := hI.val 7 _ rfl (by decide) (hdep ⟨7, .guard⟩ (by simp) rfl)
      have s28 : a.tmps[28]? = some (.pointer (some ⟨b, o + i * 10, none⟩)) := hI.val 12 _ rfl (by decide) (hdep ⟨12, .data⟩ (by simp) rfl)
      refine step_val (v := (.agg #[.string d.sp, .int .i64 d.sn])) ho (by unfold Region.wanted; simp only; rw [yields6 (b := false) (by decide) s23]; rfl) ?_ (hI.put ho (fun u hu => (Option.some.inj hu).symm) (Below.refl _ _))
      simp [execOp, Act.eval, go_sem, c0, c1, s28]
    | 14, _ =>
      simp only [List.getElem?_toArray, List.getElem?_cons_succ, List.getElem?_cons_zero, Option.some.injEq] at ho2
      subst ho2
      have s23 : a.tmps[23]? = some (.bool false) := hI.val 7 _ rfl (by decide) (hdep ⟨7, .guard⟩ (by simp) rfl)
      have s24 : a.tmps[24]? = some (.slice (some ⟨b, o, none⟩) ns.length c) := hI.val 8 _ rfl (by decide) (hdep ⟨8, .data⟩ (by simp) rfl)
      have s29 : a.tmps[29]? = some (.agg #[.string d.sp, .int .i64 d.sn]) := hI.val 13 _ rfl (by decide) (hdep ⟨13, .data⟩ (by simp) rfl)
      have hcon := find6 b o c ns d.sp d.sn w hNw hlen
      rw [hf] at hcon
      exact step_call (f := 6) (v := (.int .i64 (i : Int))) ho (by unfold Region.wanted; simp only; rw [yields6 (b := false) (by decide) s23]; rfl) (by simp [execOp, Act.eval, resolve, invoke, Deferred.ofValue, s24, s29]) (enters_of Tryz.func6 (by kernel_rfl) rfl _ _) hcon (fun w2 hb => hI.put ho (fun u hu => (Option.some.inj hu).symm) hb)
    | 15, _ =>
      simp only [List.getElem?_toArray, List.getElem?_cons_succ, List.getElem?_cons_zero, Option.some.injEq] at ho2
      subst ho2
      have s23 : a.tmps[23]? = some (.bool false) := hI.val 7 _ rfl (by decide) (hdep ⟨7, .guard⟩ (by simp) rfl)
      refine step_val (v := (.int .i64 (i : Int))) ho (by unfold Region.wanted; simp only; rw [yields6 (b := false) (by decide) s23]; rfl) ?_ (hI.put ho (fun u hu => (Option.some.inj hu).symm) (Below.refl _ _))
      simp [execOp, Act.eval, go_sem, s3]
    | 16, _ =>
      simp only [List.getElem?_toArray, List.getElem?_cons_succ, List.getElem?_cons_zero, Option.some.injEq] at ho2
      subst ho2
      have s23 : a.tmps[23]? = some (.bool false) := hI.val 7 _ rfl (by decide) (hdep ⟨7, .guard⟩ (by simp) rfl)
      have s30 : a.tmps[30]? = some (.int .i64 (i : Int)) := hI.val 14 _ rfl (by decide) (hdep ⟨14, .data⟩ (by simp) rfl)
      have s31 : a.tmps[31]? = some (.int .i64 (i : Int)) := hI.val 15 _ rfl (by decide) (hdep ⟨15, .data⟩ (by simp) rfl)
      refine step_val (v := (.bool false)) ho (by unfold Region.wanted; simp only; rw [yields6 (b := false) (by decide) s23]; rfl) ?_ (hI.put ho (fun u hu => (Option.some.inj hu).symm) (Below.refl _ _))
      simp [execOp, Act.eval, go_sem, s30, s31]
    | 17, _ =>
      simp only [List.getElem?_toArray, List.getElem?_cons_succ, List.getElem?_cons_zero, Option.some.injEq] at ho2
      subst ho2
      have s23 : a.tmps[23]? = some (.bool false) := hI.val 7 _ rfl (by decide) (hdep ⟨7, .data⟩ (by simp) rfl)
      have s32 : a.tmps[32]? = some (.bool false) := hI.val 16 _ rfl (by decide) (hdep ⟨16, .data⟩ (by simp) rfl)
      refine step_val (v := (.bool false)) ho rfl ?_ (hI.put ho (fun u hu => (Option.some.inj hu).symm) (Below.refl _ _))
      simp [execOp, Act.eval, go_sem, s23, s32]
    | 18, _ =>
      simp only [List.getElem?_toArray, List.getElem?_cons_succ, List.getElem?_cons_zero, Option.some.injEq] at ho2
      subst ho2
      have s33 : a.tmps[33]? = some (.bool false) := hI.val 17 _ rfl (by decide) (hdep ⟨17, .data⟩ (by simp) rfl)
      refine step_val (v := (.bool false)) ho rfl ?_ (hI.put ho (fun u hu => (Option.some.inj hu).symm) (Below.refl _ _))
      simp [execOp, Act.eval, go_sem, s33]
    | 19, _ =>
      simp only [List.getElem?_toArray, List.getElem?_cons_succ, List.getElem?_cons_zero, Option.some.injEq] at ho2
      subst ho2
      have s34 : a.tmps[34]? = some (.bool false) := hI.val 18 _ rfl (by decide) (hdep ⟨18, .guard⟩ (by simp) rfl)
      refine step_val (v := (.slice (some ⟨b, o, none⟩) ns.length c)) ho (by unfold Region.wanted; simp only; rw [yields6 (b := false) (by decide) s34]; rfl) ?_ (hI.put ho (fun u hu => (Option.some.inj hu).symm) (Below.refl _ _))
      simp [execOp, Act.eval, go_sem, s0]
    | 20, _ =>
      simp only [List.getElem?_toArray, List.getElem?_cons_succ, List.getElem?_cons_zero, Option.some.injEq] at ho2
      subst ho2
      have s34 : a.tmps[34]? = some (.bool false) := hI.val 18 _ rfl (by decide) (hdep ⟨18, .guard⟩ (by simp) rfl)
      refine step_val (v := (.int .i64 (i : Int))) ho (by unfold Region.wanted; simp only; rw [yields6 (b := false) (by decide) s34]; rfl) ?_ (hI.put ho (fun u hu => (Option.some.inj hu).symm) (Below.refl _ _))
      simp [execOp, Act.eval, go_sem, s3]
    | 21, _ =>
      simp only [List.getElem?_toArray, List.getElem?_cons_succ, List.getElem?_cons_zero, Option.some.injEq] at ho2
      subst ho2
      have s34 : a.tmps[34]? = some (.bool false) := hI.val 18 _ rfl (by decide) (hdep ⟨18, .guard⟩ (by simp) rfl)
      have s35 : a.tmps[35]? = some (.slice (some ⟨b, o, none⟩) ns.length c) := hI.val 19 _ rfl (by decide) (hdep ⟨19, .data⟩ (by simp) rfl)
      have s36 : a.tmps[36]? = some (.int .i64 (i : Int)) := hI.val 20 _ rfl (by decide) (hdep ⟨20, .data⟩ (by simp) rfl)
      refine step_val (v := (.pointer (some ⟨b, o + i * 10, none⟩))) ho (by unfold Region.wanted; simp only; rw [yields6 (b := false) (by decide) s34]; rfl) ?_ (hI.put ho (fun u hu => (Option.some.inj hu).symm) (Below.refl _ _))
      simp [execOp, Act.eval, go_sem, hnl, s35, s36]
    | 22, _ =>
      simp only [List.getElem?_toArray, List.getElem?_cons_succ, List.getElem?_cons_zero, Option.some.injEq] at ho2
      subst ho2
      have s34 : a.tmps[34]? = some (.bool false) := hI.val 18 _ rfl (by decide) (hdep ⟨18, .guard⟩ (by simp) rfl)
      have s37 : a.tmps[37]? = some (.pointer (some ⟨b, o + i * 10, none⟩)) := hI.val 21 _ rfl (by decide) (hdep ⟨21, .data⟩ (by simp) rfl)
      refine step_val (v := (.pointer (some ⟨b, o + i * 10 + 6, none⟩))) ho (by unfold Region.wanted; simp only; rw [yields6 (b := false) (by decide) s34]; rfl) ?_ (hI.put ho (fun u hu => (Option.some.inj hu).symm) (Below.refl _ _))
      simp [execOp, Act.eval, go_sem, s37]
    | 23, _ =>
      simp only [List.getElem?_toArray, List.getElem?_cons_succ, List.getElem?_cons_zero, Option.some.injEq] at ho2
      subst ho2
      have s34 : a.tmps[34]? = some (.bool false) := hI.val 18 _ rfl (by decide) (hdep ⟨18, .guard⟩ (by simp) rfl)
      have s38 : a.tmps[38]? = some (.pointer (some ⟨b, o + i * 10 + 6, none⟩)) := hI.val 22 _ rfl (by decide) (hdep ⟨22, .data⟩ (by simp) rfl)
      refine step_val (v := (.string d.gone)) ho (by unfold Region.wanted; simp only; rw [yields6 (b := false) (by decide) s34]; rfl) ?_ (hI.put ho (fun u hu => (Option.some.inj hu).symm) (Below.refl _ _))
      simp [execOp, Act.eval, go_sem, c6, s38]
    | 24, _ =>
      simp only [List.getElem?_toArray, List.getElem?_cons_succ, List.getElem?_cons_zero, Option.some.injEq] at ho2
      subst ho2
      have s34 : a.tmps[34]? = some (.bool false) := hI.val 18 _ rfl (by decide) (hdep ⟨18, .guard⟩ (by simp) rfl)
      have s39 : a.tmps[39]? = some (.string d.gone) := hI.val 23 _ rfl (by decide) (hdep ⟨23, .data⟩ (by simp) rfl)
      refine step_val (v := (.bool false)) ho (by unfold Region.wanted; simp only; rw [yields6 (b := false) (by decide) s34]; rfl) ?_ (hI.put ho (fun u hu => (Option.some.inj hu).symm) (Below.refl _ _))
      simp [execOp, Act.eval, go_sem, hgn, s39]
    | 25, _ =>
      simp only [List.getElem?_toArray, List.getElem?_cons_succ, List.getElem?_cons_zero, Option.some.injEq] at ho2
      subst ho2
      have s34 : a.tmps[34]? = some (.bool false) := hI.val 18 _ rfl (by decide) (hdep ⟨18, .guard⟩ (by simp) rfl)
      have s40 : a.tmps[40]? = some (.bool false) := hI.val 24 _ rfl (by decide) (hdep ⟨24, .data⟩ (by simp) rfl)
      refine step_val (v := (.bool false)) ho (by unfold Region.wanted; simp only; rw [yields6 (b := false) (by decide) s34]; rfl) ?_ (hI.put ho (fun u hu => (Option.some.inj hu).symm) (Below.refl _ _))
      simp [execOp, Act.eval, go_sem, s40]
    | 26, _ =>
      simp only [List.getElem?_toArray, List.getElem?_cons_succ, List.getElem?_cons_zero, Option.some.injEq] at ho2
      subst ho2
      have s41 : a.tmps[41]? = some (.bool false) := hI.val 25 _ rfl (by decide) (hdep ⟨25, .guard⟩ (by simp) rfl)
      exact step_skip ho (by unfold Region.wanted; simp only; rw [yields6 (b := false) (by decide) s41]; rfl) (hI.put ho (fun u hu => (Option.some.inj hu).symm) (Below.refl _ _))
    | 27, _ =>
      simp only [List.getElem?_toArray, List.getElem?_cons_succ, List.getElem?_cons_zero, Option.some.injEq] at ho2
      subst ho2
      have s41 : a.tmps[41]? = some (.bool false) := hI.val 25 _ rfl (by decide) (hdep ⟨25, .guard⟩ (by simp) rfl)
      exact step_skip ho (by unfold Region.wanted; simp only; rw [yields6 (b := false) (by decide) s41]; rfl) (hI.put ho (fun u hu => (Option.some.inj hu).symm) (Below.refl _ _))
    | 28, _ =>
      simp only [List.getElem?_toArray, List.getElem?_cons_succ, List.getElem?_cons_zero, Option.some.injEq] at ho2
      subst ho2
      have s41 : a.tmps[41]? = some (.bool false) := hI.val 25 _ rfl (by decide) (hdep ⟨25, .guard⟩ (by simp) rfl)
      exact step_skip ho (by unfold Region.wanted; simp only; rw [yields6 (b := false) (by decide) s41]; rfl) (hI.put ho (fun u hu => (Option.some.inj hu).symm) (Below.refl _ _))
    | 29, _ =>
      simp only [List.getElem?_toArray, List.getElem?_cons_succ, List.getElem?_cons_zero, Option.some.injEq] at ho2
      subst ho2
      have s41 : a.tmps[41]? = some (.bool false) := hI.val 25 _ rfl (by decide) (hdep ⟨25, .guard⟩ (by simp) rfl)
      have s43 : a.tmps[43]? = some undef := hI.val 27 _ rfl (by decide) (hdep ⟨27, .data⟩ (by simp) rfl)
      have s44 : a.tmps[44]? = some undef := hI.val 28 _ rfl (by decide) (hdep ⟨28, .data⟩ (by simp) rfl)
      exact step_skip ho (by unfold Region.wanted; simp only; rw [yields6 (b := false) (by decide) s41]; rfl) (hI.put ho (fun u hu => (Option.some.inj hu).symm) (Below.refl _ _))
    | 30, _ =>
      simp only [List.getElem?_toArray, List.getElem?_cons_succ, List.getElem?_cons_zero, Option.some.injEq] at ho2
      subst ho2
      have s41 : a.tmps[41]? = some (.bool false) := hI.val 25 _ rfl (by decide) (hdep ⟨25, .guard⟩ (by simp) rfl)
      have s45 : a.tmps[45]? = some undef := hI.val 29 _ rfl (by decide) (hdep ⟨29, .data⟩ (by simp) rfl)
      exact step_skip ho (by unfold Region.wanted; simp only; rw [yields6 (b := false) (by decide) s41]; rfl) (hI.put ho (fun u hu => (Option.some.inj hu).symm) (Below.refl _ _))
    | 31, _ =>
      simp only [List.getElem?_toArray, List.getElem?_cons_succ, List.getElem?_cons_zero, Option.some.injEq] at ho2
      subst ho2
      have s41 : a.tmps[41]? = some (.bool false) := hI.val 25 _ rfl (by decide) (hdep ⟨25, .guard⟩ (by simp) rfl)
      have s46 : a.tmps[46]? = some undef := hI.val 30 _ rfl (by decide) (hdep ⟨30, .data⟩ (by simp) rfl)
      exact step_skip ho (by unfold Region.wanted; simp only; rw [yields6 (b := false) (by decide) s41]; rfl) (hI.put ho (fun u hu => (Option.some.inj hu).symm) (Below.refl _ _))
    | 32, _ =>
      simp only [List.getElem?_toArray, List.getElem?_cons_succ, List.getElem?_cons_zero, Option.some.injEq] at ho2
      subst ho2
      have s41 : a.tmps[41]? = some (.bool false) := hI.val 25 _ rfl (by decide) (hdep ⟨25, .guard⟩ (by simp) rfl)
      exact step_skip ho (by unfold Region.wanted; simp only; rw [yields6 (b := false) (by decide) s41]; rfl) (hI.put ho (fun u hu => (Option.some.inj hu).symm) (Below.refl _ _))
    | 33, _ =>
      simp only [List.getElem?_toArray, List.getElem?_cons_succ, List.getElem?_cons_zero, Option.some.injEq] at ho2
      subst ho2
      have s41 : a.tmps[41]? = some (.bool false) := hI.val 25 _ rfl (by decide) (hdep ⟨25, .guard⟩ (by simp) rfl)
      exact step_skip ho (by unfold Region.wanted; simp only; rw [yields6 (b := false) (by decide) s41]; rfl) (hI.put ho (fun u hu => (Option.some.inj hu).symm) (Below.refl _ _))
    | 34, _ =>
      simp only [List.getElem?_toArray, List.getElem?_cons_succ, List.getElem?_cons_zero, Option.some.injEq] at ho2
      subst ho2
      have s41 : a.tmps[41]? = some (.bool false) := hI.val 25 _ rfl (by decide) (hdep ⟨25, .guard⟩ (by simp) rfl)
      have s48 : a.tmps[48]? = some undef := hI.val 32 _ rfl (by decide) (hdep ⟨32, .data⟩ (by simp) rfl)
      have s49 : a.tmps[49]? = some undef := hI.val 33 _ rfl (by decide) (hdep ⟨33, .data⟩ (by simp) rfl)
      exact step_skip ho (by unfold Region.wanted; simp only; rw [yields6 (b := false) (by decide) s41]; rfl) (hI.put ho (fun u hu => (Option.some.inj hu).symm) (Below.refl _ _))
    | 35, _ =>
      simp only [List.getElem?_toArray, List.getElem?_cons_succ, List.getElem?_cons_zero, Option.some.injEq] at ho2
      subst ho2
      have s41 : a.tmps[41]? = some (.bool false) := hI.val 25 _ rfl (by decide) (hdep ⟨25, .guard⟩ (by simp) rfl)
      have s50 : a.tmps[50]? = some undef := hI.val 34 _ rfl (by decide) (hdep ⟨34, .data⟩ (by simp) rfl)
      exact step_skip ho (by unfold Region.wanted; simp only; rw [yields6 (b := false) (by decide) s41]; rfl) (hI.put ho (fun u hu => (Option.some.inj hu).symm) (Below.refl _ _))
    | 36, _ =>
      simp only [List.getElem?_toArray, List.getElem?_cons_succ, List.getElem?_cons_zero, Option.some.injEq] at ho2
      subst ho2
      have s41 : a.tmps[41]? = some (.bool false) := hI.val 25 _ rfl (by decide) (hdep ⟨25, .guard⟩ (by simp) rfl)
      have s51 : a.tmps[51]? = some undef := hI.val 35 _ rfl (by decide) (hdep ⟨35, .data⟩ (by simp) rfl)
      exact step_skip ho (by unfold Region.wanted; simp only; rw [yields6 (b := false) (by decide) s41]; rfl) (hI.put ho (fun u hu => (Option.some.inj hu).symm) (Below.refl _ _))
    | 37, _ =>
      simp only [List.getElem?_toArray, List.getElem?_cons_succ, List.getElem?_cons_zero, Option.some.injEq] at ho2
      subst ho2
      have s41 : a.tmps[41]? = some (.bool false) := hI.val 25 _ rfl (by decide) (hdep ⟨25, .guard⟩ (by simp) rfl)
      have s42 : a.tmps[42]? = some undef := hI.val 26 _ rfl (by decide) (hdep ⟨26, .data⟩ (by simp) rfl)
      have s47 : a.tmps[47]? = some undef := hI.val 31 _ rfl (by decide) (hdep ⟨31, .data⟩ (by simp) rfl)
      have s52 : a.tmps[52]? = some undef := hI.val 36 _ rfl (by decide) (hdep ⟨36, .data⟩ (by simp) rfl)
      exact step_skip ho (by unfold Region.wanted; simp only; rw [yields6 (b := false) (by decide) s41]; rfl) (hI.put ho (fun u hu => (Option.some.inj hu).symm) (Below.refl _ _))
    | 38, _ =>
      simp only [List.getElem?_toArray, List.getElem?_cons_succ, List.getElem?_cons_zero, Option.some.injEq] at ho2
      subst ho2
      have s41 : a.tmps[41]? = some (.bool false) := hI.val 25 _ rfl (by decide) (hdep ⟨25, .guard⟩ (by simp) rfl)
      exact step_skip ho (by unfold Region.wanted; simp only; rw [yields6 (b := false) (by decide) s41]; rfl) (hI.put ho (fun u hu => (Option.some.inj hu).symm) (Below.refl _ _))
    | 39, _ =>
      simp only [List.getElem?_toArray, List.getElem?_cons_succ, List.getElem?_cons_zero, Option.some.injEq] at ho2
      subst ho2
      have s41 : a.tmps[41]? = some (.bool false) := hI.val 25 _ rfl (by decide) (hdep ⟨25, .guard⟩ (by simp) rfl)
      have s53 : a.tmps[53]? = some undef := hI.val 37 _ rfl (by decide) (hdep ⟨37, .data⟩ (by simp) rfl)
      have s54 : a.tmps[54]? = some undef := hI.val 38 _ rfl (by decide) (hdep ⟨38, .data⟩ (by simp) rfl)
      exact step_skip ho (by unfold Region.wanted; simp only; rw [yields6 (b := false) (by decide) s41]; rfl) (hI.put ho (fun u hu => (Option.some.inj hu).symm) (Below.refl _ _))
    | 40, _ =>
      simp only [List.getElem?_toArray, List.getElem?_cons_succ, List.getElem?_cons_zero, Option.some.injEq] at ho2
      subst ho2
      have s34 : a.tmps[34]? = some (.bool false) := hI.val 18 _ rfl (by decide) (hdep ⟨18, .guard⟩ (by simp) rfl)
      have s41 : a.tmps[41]? = some (.bool false) := hI.val 25 _ rfl (by decide) (hdep ⟨25, .data⟩ (by simp) rfl)
      have s55 : a.tmps[55]? = some undef := hI.val 39 _ rfl (by decide) (hdep ⟨39, .data⟩ (by simp) rfl)
      refine step_val (v := (.bool false)) ho (by unfold Region.wanted; simp only; rw [yields6 (b := false) (by decide) s34]; rfl) ?_ (hI.put ho (fun u hu => (Option.some.inj hu).symm) (Below.refl _ _))
      simp [execOp, Act.eval, go_sem, s41, s55]
    | 41, _ =>
      simp only [List.getElem?_toArray, List.getElem?_cons_succ, List.getElem?_cons_zero, Option.some.injEq] at ho2
      subst ho2
      have s34 : a.tmps[34]? = some (.bool false) := hI.val 18 _ rfl (by decide) (hdep ⟨18, .data⟩ (by simp) rfl)
      have s56 : a.tmps[56]? = some (.bool false) := hI.val 40 _ rfl (by decide) (hdep ⟨40, .data⟩ (by simp) rfl)
      refine step_val (v := (.bool false)) ho rfl ?_ (hI.put ho (fun u hu => (Option.some.inj hu).symm) (Below.refl _ _))
      simp [execOp, Act.eval, go_sem, s34, s56]
  · intro listed a w hls hI hall
    have h57 := hI.val 41 _ rfl (by decide) (hall 41 (by rw [ops6_size]; decide))
    have hb6 := behind6_eq hI.size hI.low h57
    have ha : a = { tmps := behind6 T0 (.bool false) fun j => a.tmps.getD j undef, defers := [] } := by
      obtain ⟨tm, df⟩ := a
      have h1 : df = [] := hI.nodef
      subst h1
      exact congrArg (fun t => ({ tmps := t, defers := [] } : Act)) hb6
    rw [ha]
    exact hQ _ w hI.below
end Go.Proofs.Np
namespace Go.Proofs.Np
open Go Go.Proofs Go.RowKit
set_option maxRecDepth 1000000

def vals6C (b o c i : Nat) (ns : List Nd) (d : Nd) (r : Int) : Nat → Option Value
  | 0 => some (.slice (some ⟨b, o, none⟩) ns.length c)
  | 1 => some (.int .i64 (i : Int))
  | 2 => some (.pointer (some ⟨b, o + i * 10, none⟩))
  | 3 => some (.pointer (some ⟨b, o + i * 10, none⟩))
  | 4 => some (.agg #[.string d.sp, .int .i64 d.sn])
  | 5 => some (.agg #[.string ⟨#[]⟩, .int .i64 0])
  | 6 => some (.bool false)
  | 7 => some (.bool false)
  | 8 => some (.slice (some ⟨b, o, none⟩) ns.length c)
  | 9 => some (.slice (some ⟨b, o, none⟩) ns.length c)
  | 10 => some (.int .i64 (i : Int))
  | 11 => some (.pointer (some ⟨b, o + i * 10, none⟩))
  | 12 => some (.pointer (some ⟨b, o + i * 10, none⟩))
  | 13 => some (.agg #[.string d.sp, .int .i64 d.sn])
  | 14 => some (.int .i64 (i : Int))
  | 15 => some (.int .i64 (i : Int))
  | 16 => some (.bool false)
  | 17 => some (.bool false)
  | 18 => some (.bool false)
  | 19 => some (.slice (some ⟨b, o, none⟩) ns.length c)
  | 20 => some (.int .i64 (i : Int))
  | 21 => some (.pointer (some ⟨b, o + i * 10, none⟩))
  | 22 => some (.pointer (some ⟨b, o + i * 10 + 6, none⟩))
  | 23 => some (.string d.gone)
  | 24 => some (.bool true)
  | 25 => some (.bool true)
  | 26 => some (.slice (some ⟨b, o, none⟩) ns.length c)
  | 27 => some (.slice (some ⟨b, o, none⟩) ns.length c)
  | 28 => some (.int .i64 (i : Int))
  | 29 => some (.pointer (some ⟨b, o + i * 10, none⟩))
  | 30 => some (.pointer (some ⟨b, o + i * 10 + 3, none⟩))
  | 31 => some (.agg #[.string d.pp, .int .i64 d.pn])
  | 32 => some (.slice (some ⟨b, o, none⟩) ns.length c)
  | 33 => some (.int .i64 (i : Int))
  | 34 => some (.pointer (some ⟨b, o + i * 10, none⟩))
  | 35 => some (.pointer (some ⟨b, o + i * 10 + 5, none⟩))
  | 36 => some (.string d.nm)
  | 37 => some (.int .i64 r)
  | 38 => some (.int .i64 (i : Int))
  | 39 => some (.bool true)
  | 40 => some (.bool true)
  | 41 => some (.bool true)
  | _ => none

set_option maxHeartbeats 16000000 in
theorem region6C (b o c i : Nat) (ns : List Nd) (d : Nd) (r : Int) (wr : World) (hN : NodesAt wr b o ns) (hlt : i < ns.length) (hlen : ns.length < 9223372036854775808) (hd : ns[i]? = some d) (hS : sameId d.sp d.sn ⟨#[]⟩ 0 = false) (hf : idxI (selfIs d.sp d.sn) ns = (i : Nat)) (hg : d.gone.toList.isEmpty = true) (hat : idxI (liesAt d.pp d.pn d.nm) ns = r) (hr : (r == (i : Int)) = false)
    (T0 : Array Value) (h0 : T0[0]? = some (.slice (some ⟨b, o, none⟩) ns.length c)) (h3 : T0[3]? = some (.int .i64 (i : Int))) (hsz : T0.size = 82) (Q : Exit → Act → World → Prop)
    (hQ : ∀ (u : Nat → Value) w, Below wr.heap.size wr w → Q .normal { tmps := behind6 T0 (.bool true) u, defers := [] } w) : Code.wp Tryz.prog reg6 Q { tmps := T0, defers := [] } wr := by
  rw [reg6_eq]
  have hi0 : (0 : Int) ≤ (i : Int) := by omega
  have hi1 : (i : Int) < (ns.length : Int) := by omega
  have hi2 : ¬ (i : Int) < 0 := by omega
  have hnl : ¬ ns.length ≤ i := by omega
  have hrn : ¬ r = (i : Int) := by simpa using hr
  have hgn : d.gone.toList = [] := by simpa using hg
  have hSn : d.sp.toList = [] → ¬ d.sn = 0 := fun h1 h2 => by
    have h3 : d.sp.toList.isEmpty = true := by rw [h1]; rfl
    rw [isEmpty_iff] at h3
    have h4 : d.sp = ByteArray.empty := of_decide_eq_true h3
    rw [h4, h2] at hS
    exact absurd hS (by decide)
  refine wp_region_inv (by kernel_rfl) (fun i o ho => (op6_at ho).2.2) (Inv6 (vals6C b o c i ns d r) T0 wr) ⟨rfl, ⟨rfl, rfl, rfl, Nat.le_refl _, fun _ _ => rfl⟩, hsz, fun _ _ => rfl, fun j v _ hj hl => ?_⟩ ?_ ?_
  · simp [Array.getD_eq_getD_getElem?, ops6_size, hj] at hl
  · intro listed a w j op hls hI ho hl hdep
    have hj := (op6_at ho).1
    have s0 := (hI.low 0 (by decide)).trans h0
    have s3 := (hI.low 3 (by decide)).trans h3
    have hNw := hN.below hI.below
    obtain ⟨c0, c1, -, c3, c4, c5, c6, -⟩ := hNw.cell i d hd
    clear hl
    have ho2 := ho
    unfold ops6 reg6 loopA Tryz.f3 at ho2
    dsimp only at ho2
    match j, hj with
    | 0, _ =>
      simp only [List.getElem?_toArray, List.getElem?_cons_zero, Option.some.injEq] at ho2
      subst ho2
      refine step_val (v := (.slice (some ⟨b, o, none⟩) ns.length c)) ho rfl ?_ (hI.put ho (fun u hu => (Option.some.inj hu).symm) (Below.refl _ _))
      simp [execOp, Act.eval, go_sem, s0]
    | 1, _ =>
      simp only [List.getElem?_toArray, List.getElem?_cons_succ, List.getElem?_cons_zero, Option.some.injEq] at ho2
      subst ho2
      refine step_val (v := (.int .i64 (i : Int))) ho rfl ?_ (hI.put ho (fun u hu => (Option.some.inj hu).symm) (Below.refl _ _))
      simp [execOp, Act.eval, go_sem, s3]
    | 2, _ =>
      simp only [List.getElem?_toArray, List.getElem?_cons_succ, List.getElem?_cons_zero, Option.some.injEq] at ho2
      subst ho2
      have s16 : a.tmps[16]? = some (.slice (some ⟨b, o, none⟩) ns.length c) := hI.val 0 _ rfl (by decide) (hdep ⟨0, .data⟩ (by simp) rfl)
      have s17 : a.tmps[17]? = some (.int .i64 (i : Int)) := hI.val 1 _ rfl (by decide) (hdep ⟨1, .data⟩ (by simp) rfl)
      refine step_val (v := (.pointer (some ⟨b, o + i * 10, none⟩))) ho rfl ?_ (hI.put ho (fun u hu => (Option.some.inj hu).symm) (Below.refl _ _))
      simp [execOp, Act.eval, go_sem, hnl, s16, s17]
    | 3, _ =>
      simp only [List.getElem?_toArray, List.getElem?_cons_succ, List.getElem?_cons_zero, Option.some.injEq] at ho2
      subst ho2
      have s18 : a.tmps[18]? = some (.pointer (some ⟨b, o + i * 10, none⟩)) := hI.val 2 _ rfl (by decide) (hdep ⟨2, .data⟩ (by simp) rfl)
      refine step_val (v := (.pointer (some ⟨b, o + i * 10, none⟩))) ho rfl ?_ (hI.put ho (fun u hu => (Option.some.inj hu).symm) (Below.refl _ _))
      simp [execOp, Act.eval, go_sem, s18]
    | 4, _ =>
      simp only [List.getElem?_toArray, List.getElem?_cons_succ, List.getElem?_cons_zero, Option.some.injEq] at ho2
      subst ho2
      have s19 : a.tmps[19]? = some (.pointer (some ⟨b, o + i * 10, none⟩)) := hI.val 3 _ rfl (by decide) (hdep ⟨3, .data⟩ (by simp) rfl)
      refine step_val (v := (.agg #[.string d.sp, .int .i64 d.sn])) ho rfl ?_ (hI.put ho (fun u hu => (Option.some.inj hu).symm) (Below.refl _ _))
      simp [execOp, Act.eval, go_sem, c0, c1, s19]
    | 5, _ =>
      simp only [List.getElem?_toArray, List.getElem?_cons_succ, List.getElem?_cons_zero, Option.some.injEq] at ho2
      subst ho2
      refine step_val (v := (.agg #[.string ⟨#[]⟩, .int .i64 0])) ho rfl ?_ (hI.put ho (fun u hu => (Option.some.inj hu).symm) (Below.refl _ _))
      simp [execOp, Act.eval, go_sem]
    | 6, _ =>
      simp only [List.getElem?_toArray, List.getElem?_cons_succ, List.getElem?_cons_zero, Option.some.injEq] at ho2
      subst ho2
      have s20 : a.tmps[20]? = some (.agg #[.string d.sp, .int .i64 d.sn]) := hI.val 4 _ rfl (by decide) (hdep ⟨4, .data⟩ (by simp) rfl)
      have s21 : a.tmps[21]? = some (.agg #[.string ⟨#[]⟩, .int .i64 0]) := hI.val 5 _ rfl (by decide) (hdep ⟨5, .data⟩ (by simp) rfl)
      refine step_val (v := (.bool false)) ho rfl ?_ (hI.put ho (fun u hu => (Option.some.inj hu).symm) (Below.refl _ _))
      simp [execOp, Act.eval, go_sem, s20, s21]
      all_goals exact hSn
    | 7, _ =>
      simp only [List.getElem?_toArray, List.getElem?_cons_succ, List.getElem?_cons_zero, Option.some.injEq] at ho2
      subst ho2
      have s22 : a.tmps[22]? = some (.bool false) := hI.val 6 _ rfl (by decide) (hdep ⟨6, .data⟩ (by simp) rfl)
      refine step_val (v := (.bool false)) ho rfl ?_ (hI.put ho (fun u hu => (Option.some.inj hu).symm) (Below.refl _ _))
      simp [execOp, Act.eval, go_sem, s22]
    | 8, _ =>
      simp only [List.getElem?_toArray, List.getElem?_cons_succ, List.getElem?_cons_zero, Option.some.injEq] at ho2
      subst ho2
      have s23 : a.tmps[23]? = some (.bool false) := hI.val 7 _ rfl (by decide) (hdep ⟨7, .guard⟩ (by simp) rfl)
      refine step_val (v := (.slice (some ⟨b, o, none⟩) ns.length c)) ho (by unfold Region.wanted; simp only; rw [yields6 (b := false) (by decide) s23]; rfl) ?_ (hI.put ho (fun u hu => (Option.some.inj hu).symm) (Below.refl _ _))
      simp [execOp, Act.eval, go_sem, s0]
    | 9, _ =>
      simp only [List.getElem?_toArray, List.getElem?_cons_succ, List.getElem?_cons_zero, Option.some.injEq] at ho2
      subst ho2
      have s23 : a.tmps[23]? = some (.bool false) := hI.val 7 _ rfl (by decide) (hdep ⟨7, .guard⟩ (by simp) rfl)
      refine step_val (v := (.slice (some ⟨b, o, none⟩) ns.length c)) ho (by unfold Region.wanted; simp only; rw [yields6 (b := false) (by decide) s23]; rfl) ?_ (hI.put ho (fun u hu => (Option.some.inj hu).symm) (Below.refl _ _))
      simp [execOp, Act.eval, go_sem, s0]
    | 10, _ =>
      simp only [List.getElem?_toArray, List.getElem?_cons_succ, List.getElem?_cons_zero, Option.some.injEq] at ho2
      subst ho2
      have s23 : a.tmps[23]? = some (.bool false) := hI.val 7 _ rfl (by decide) (hdep ⟨7, .guard⟩ (by simp) rfl)
      refine step_val (v := (.int .i64 (i : Int))) ho (by unfold Region.wanted; simp only; rw [yields6 (b := false) (by decide) s23]; rfl) ?_ (hI.put ho (fun u hu => (Option.some.inj hu).symm) (Below.refl _ _))
      simp [execOp, Act.eval, go_sem, s3]
    | 11, _ =>
      simp only [List.getElem?_toArray, List.getElem?_cons_succ, List.getElem?_cons_zero, Option.some.injEq] at ho2
      subst ho2
      have s23 : a.tmps[23]? = some (.bool false) := hI.val 7 _ rfl (by decide) (hdep ⟨7, .guard⟩ (by simp) rfl)
      have s25 : a.tmps[25]? = some (.slice (some ⟨b, o, none⟩) ns.length c) := hI.val 9 _ rfl (by decide) (hdep ⟨9, .data⟩ (by simp) rfl)
      have s26 : a.tmps[26]? = some (.int .i64 (i : Int)) := hI.val 10 _ rfl (by decide) (hdep ⟨10, .data⟩ (by simp) rfl)
      refine step_val (v := (.pointer (some ⟨b, o + i * 10, none⟩))) ho (by unfold Region.wanted; simp only; rw [yields6 (b := false) (by decide) s23]; rfl) ?_ (hI.put ho (fun u hu => (Option.some.inj hu).symm) (Below.refl _ _))
      simp [execOp, Act.eval, go_sem, hnl, s25, s26]
    | 12, _ =>
      simp only [List.getElem?_toArray, List.getElem?_cons_succ, List.getElem?_cons_zero, Option.some.injEq] at ho2
      subst ho2
      have s23 : a.tmps[23]? = some (.bool false) := hI.val 7 _ rfl (by decide) (hdep ⟨7, .guard⟩ (by simp) rfl)
      have s27 : a.tmps[27]? = some (.pointer (some ⟨b, o + i * 10, none⟩)) := hI.val 11 _ rfl (by decide) (hdep ⟨11, .data⟩ (by simp) rfl)
      refine step_val (v := (.pointer (some ⟨b, o + i * 10, none⟩))) ho (by unfold Region.wanted; simp only; rw [yields6 (b := false) (by decide) s23]; rfl) ?_ (hI.put ho (fun u hu => (Option.some.inj hu).symm) (Below.refl _ _))
      simp [execOp, Act.eval, go_sem, s27]
    | 13, _ =>
      simp only [List.getElem?_toArray, List.getElem?_cons_succ, List.getElem?_cons_zero, Option.some.injEq] at ho2
      subst ho2
      have s23 : a.tmps[23]? = some (.bool false) := hI.val 7 _ rfl (by decide) (hdep ⟨7, .guard⟩ (by simp) rfl)
      have s28 : a.tmps[28]? = some (.pointer (some ⟨b, o + i * 10, none⟩)) := hI.val 12 _ rfl (by decide) (hdep ⟨12, .data⟩ (by simp) rfl)
      refine step_val (v := (.agg #[.string d.sp, .int .i64 d.sn])) ho (by unfold Region.wanted; simp only; rw [yields6 (b := false) (by decide) s23]; rfl) ?_ (hI.put ho (fun u hu => (Option.some.inj hu).symm) (Below.refl _ _))
      simp [execOp, Act.eval, go_sem, c0, c1, s28]
    | 14, _ =>
      simp only [List.getElem?_toArray, List.getElem?_cons_succ, List.getElem?_cons_zero, Option.some.injEq] at ho2
      subst ho2
      have s23 : a.tmps[23]? = some (.bool false) := hI.val 7 _ rfl (by decide) (hdep ⟨7, .guard⟩ (by simp) rfl)
      have s24 : a.tmps[24]? = some (.slice (some ⟨b, o, none⟩) ns.length c) := hI.val 8 _ rfl (by decide) (hdep ⟨8, .data⟩ (by simp) rfl)
      have s29 : a.tmps[29]? = some (.agg #[.string d.sp, .int .i64 d.sn]) := hI.val 13 _ rfl (by decide) (hdep ⟨13, .data⟩ (by simp) rfl)
      have hcon := find6 b o c ns d.sp d.sn w hNw hlen
      rw [hf] at hcon
      exact step_call (f := 6) (v := (.int .i64 (i : Int))) ho (by unfold Region.wanted; simp only; rw [yields6 (b := false) (by decide) s23]; rfl) (by simp [execOp, Act.eval, resolve, invoke, Deferred.ofValue, s24, s29]) (enters_of Tryz.func6 (by kernel_rfl) rfl _ _) hcon (fun w2 hb => hI.put ho (fun u hu => (Option.some.inj hu).symm) hb)
    | 15, _ =>
      simp only [List.getElem?_toArray, List.getElem?_cons_succ, List.getElem?_cons_zero, Option.some.injEq] at ho2
      subst ho2
      have s23 : a.tmps[23]? = some (.bool false) := hI.val 7 _ rfl (by decide) (hdep ⟨7, .guard⟩ (by simp) rfl)
      refine step_val (v := (.int .i64 (i : Int))) ho (by unfold Region.wanted; simp only; rw [yields6 (b := false) (by decide) s23]; rfl) ?_ (hI.put ho (fun u hu => (Option.some.inj hu).symm) (Below.refl _ _))
      simp [execOp, Act.eval, go_sem, s3]
    | 16, _ =>
      simp only [List.getElem?_toArray, List.getElem?_cons_succ, List.getElem?_cons_zero, Option.some.injEq] at ho2
      subst ho2
      have s23 : a.tmps[23]? = some (.bool false) := hI.val 7 _ rfl (by decide) (hdep ⟨7, .guard⟩ (by simp) rfl)
      have s30 : a.tmps[30]? = some (.int .i64 (i : Int)) := hI.val 14 _ rfl (by decide) (hdep ⟨14, .data⟩ (by simp) rfl)
      have s31 : a.tmps[31]? = some (.int .i64 (i : Int)) := hI.val 15 _ rfl (by decide) (hdep ⟨15, .data⟩ (by simp) rfl)
      refine step_val (v := (.bool false)) ho (by unfold Region.wanted; simp only; rw [yields6 (b := false) (by decide) s23]; rfl) ?_ (hI.put ho (fun u hu => (Option.some.inj hu).symm) (Below.refl _ _))
      simp [execOp, Act.eval, go_sem, s30, s31]
    | 17, _ =>
      simp only [List.getElem?_toArray, List.getElem?_cons_succ, List.getElem?_cons_zero, Option.some.injEq] at ho2
      subst ho2
      have s23 : a.tmps[23]? = some (.bool false) := hI.val 7 _ rfl (by decide) (hdep ⟨7, .data⟩ (by simp) rfl)
      have s32 : a.tmps[32]? = some (.bool false) := hI.val 16 _ rfl (by decide) (hdep ⟨16, .data⟩ (by simp) rfl)
      refine step_val (v := (.bool false)) ho rfl ?_ (hI.put ho (fun u hu => (Option.some.inj hu).symm) (Below.refl _ _))
      simp [execOp, Act.eval, go_sem, s23, s32]
    | 18, _ =>
      simp only [List.getElem?_toArray, List.getElem?_cons_succ, List.getElem?_cons_zero, Option.some.injEq] at ho2
      subst ho2
      have s33 : a.tmps[33]? = some (.bool false) := hI.val 17 _ rfl (by decide) (hdep ⟨17, .data⟩ (by simp) rfl)
      refine step_val (v := (.bool false)) ho rfl ?_ (hI.put ho (fun u hu => (Option.some.inj hu).symm) (Below.refl _ _))
      simp [execOp, Act.eval, go_sem, s33]
    | 19, _ =>
      simp only [List.getElem?_toArray, List.getElem?_cons_succ, List.getElem?_cons_zero, Option.some.injEq] at ho2
      subst ho2
      have s34 : a.tmps[34]? = some (.bool false) := hI.val 18 _ rfl (by decide) (hdep ⟨18, .guard⟩ (by simp) rfl)
      refine step_val (v := (.slice (some ⟨b, o, none⟩) ns.length c)) ho (by unfold Region.wanted; simp only; rw [yields6 (b := false) (by decide) s34]; rfl) ?_ (hI.put ho (fun u hu => (Option.some.inj hu).symm) (Below.refl _ _))
      simp [execOp, Act.eval, go_sem, s0]
    | 20, _ =>
      simp only [List.getElem?_toArray, List.getElem?_cons_succ, List.getElem?_cons_zero, Option.some.injEq] at ho2
      subst ho2
      have s34 : a.tmps[34]? = some (.bool false) := hI.val 18 _ rfl (by decide) (hdep ⟨18, .guard⟩ (by simp) rfl)
      refine step_val (v := (.int .i64 (i : Int))) ho (by unfold Region.wanted; simp only; rw [yields6 (b := false) (by decide) s34]; rfl) ?_ (hI.put ho (fun u hu => (Option.some.inj hu).symm) (Below.refl _ _))
      simp [execOp, Act.eval, go_sem, s3]
    | 21, _ =>
      simp only [List.getElem?_toArray, List.getElem?_cons_succ, List.getElem?_cons_zero, Option.some.injEq] at ho2
      subst ho2
      have s34 : a.tmps[34]? = some (.bool false) := hI.val 18 _ rfl (by decide) (hdep ⟨18, .guard⟩ (by simp) rfl)
      have s35 : a.tmps[35]? = some (.slice (some ⟨b, o, none⟩) ns.length c) := hI.val 19 _ rfl (by decide) (hdep ⟨19, .data⟩ (by simp) rfl)
      have s36 : a.tmps[36]? = some (.int .i64 (i : Int)) := hI.val 20 _ rfl (by decide) (hdep ⟨20, .data⟩ (by simp) rfl)
      refine step_val (v := (.pointer (some ⟨b, o + i * 10, none⟩))) ho (by unfold Region.wanted; simp only; rw [yields6 (b := false) (by decide) s34]; rfl) ?_ (hI.put ho (fun u hu => (Option.some.inj hu).symm) (Below.refl _ _))
      simp [execOp, Act.eval, go_sem, hnl, s35, s36]
    | 22, _ =>
      simp only [List.getElem?_toArray, List.getElem?_cons_succ, List.getElem?_cons_zero, Option.some.injEq] at ho2
      subst ho2
      have s34 : a.tmps[34]? = some (.bool false) := hI.val 18 _ rfl (by decide) (hdep ⟨18, .guard⟩ (by simp) rfl)
      have s37 : a.tmps[37]? = some (.pointer (some ⟨b, o + i * 10, none⟩)) := hI.val 21 _ rfl (by decide) (hdep ⟨21, .data⟩ (by simp) rfl)
      refine step_val (v := (.pointer (some ⟨b, o + i * 10 + 6, none⟩))) ho (by unfold Region.wanted; simp only; rw [yields6 (b := false) (by decide) s34]; rfl) ?_ (hI.put ho (fun u hu => (Option.some.inj hu).symm) (Below.refl _ _))
      simp [execOp, Act.eval, go_sem, s37]
    | 23, _ =>
      simp only [List.getElem?_toArray, List.getElem?_cons_succ, List.getElem?_cons_zero, Option.some.injEq] at ho2
      subst ho2
      have s34 : a.tmps[34]? = some (.bool false) := hI.val 18 _ rfl (by decide) (hdep ⟨18, .guard⟩ (by simp) rfl)
      have s38 : a.tmps[38]? = some (.pointer (some ⟨b, o + i * 10 + 6, none⟩)) := hI.val 22 _ rfl (by decide) (hdep ⟨22, .data⟩ (by simp) rfl)
      refine step_val (v := (.string d.gone)) ho (by unfold Region.wanted; simp only; rw [yields6 (b := false) (by decide) s34]; rfl) ?_ (hI.put ho (fun u hu => (Option.some.inj hu).symm) (Below.refl _ _))
      simp [execOp, Act.eval, go_sem, c6, s38]
    | 24, _ =>
      simp only [List.getElem?_toArray, List.getElem?_cons_succ, List.getElem?_cons_zero, Option.some.injEq] at ho2
      subst ho2
      have s34 : a.tmps[34]? = some (.bool false) := hI.val 18 _ rfl (by decide) (hdep ⟨18, .guard⟩ (by simp) rfl)
      have s39 : a.tmps[39]? = some (.string d.gone) := hI.val 23 _ rfl (by decide) (hdep ⟨23, .data⟩ (by simp) rfl)
      refine step_val (v := (.bool true)) ho (by unfold Region.wanted; simp only; rw [yields6 (b := false) (by decide) s34]; rfl) ?_ (hI.put ho (fun u hu => (Option.some.inj hu).symm) (Below.refl _ _))
      simp [execOp, Act.eval, go_sem, hgn, s39]
    | 25, _ =>
      simp only [List.getElem?_toArray, List.getElem?_cons_succ, List.getElem?_cons_zero, Option.some.injEq] at ho2
      subst ho2
      have s34 : a.tmps[34]? = some (.bool false) := hI.val 18 _ rfl (by decide) (hdep ⟨18, .guard⟩ (by simp) rfl)
      have s40 : a.tmps[40]? = some (.bool true) := hI.val 24 _ rfl (by decide) (hdep ⟨24, .data⟩ (by simp) rfl)
      refine step_val (v := (.bool true)) ho (by unfold Region.wanted; simp only; rw [yields6 (b := false) (by decide) s34]; rfl) ?_ (hI.put ho (fun u hu => (Option.some.inj hu).symm) (Below.refl _ _))
      simp [execOp, Act.eval, go_sem, s40]
    | 26, _ =>
      simp only [List.getElem?_toArray, List.getElem?_cons_succ, List.getElem?_cons_zero, Option.some.injEq] at ho2
      subst ho2
      have s41 : a.tmps[41]? = some (.bool true) := hI.val 25 _ rfl (by decide) (hdep ⟨25, .guard⟩ (by simp) rfl)
      refine step_val (v := (.slice (some ⟨b, o, none⟩) ns.length c)) ho (by unfold Region.wanted; simp only; rw [yields6 (b := true) (by decide) s41]; rfl) ?_ (hI.put ho (fun u hu => (Option.some.inj hu).symm) (Below.refl _ _))
      simp [execOp, Act.eval, go_sem, s0]
    | 27, _ =>
      simp only [List.getElem?_toArray, List.getElem?_cons_succ, List.getElem?_cons_zero, Option.some.injEq] at ho2
      subst ho2
      have s41 : a.tmps[41]? = some (.bool true) := hI.val 25 _ rfl (by decide) (hdep ⟨25, .guard⟩ (by simp) rfl)
      refine step_val (v := (.slice (some ⟨b, o, none⟩) ns.length c)) ho (by unfold Region.wanted; simp only; rw [yields6 (b := true) (by decide) s41]; rfl) ?_ (hI.put ho (fun u hu => (Option.some.inj hu).symm) (Below.refl _ _))
      simp [execOp, Act.eval, go_sem, s0]
    | 28, _ =>
      simp only [List.getElem?_toArray, List.getElem?_cons_succ, List.getElem?_cons_zero, Option.some.injEq] at ho2
      subst ho2
      have s41 : a.tmps[41]? = some (.bool true) := hI.val 25 _ rfl (by decide) (hdep ⟨25, .guard⟩ (by simp) rfl)
      refine step_val (v := (.int .i64 (i : Int))) ho (by unfold Region.wanted; simp only; rw [yields6 (b := true) (by decide) s41]; rfl) ?_ (hI.put ho (fun u hu => (Option.some.inj hu).symm) (Below.refl _ _))
      simp [execOp, Act.eval, go_sem, s3]
    | 29, _ =>
      simp only [List.getElem?_toArray, List.getElem?_cons_succ, List.getElem?_cons_zero, Option.some.injEq] at ho2
      subst ho2
      have s41 : a.tmps[41]? = some (.bool true) := hI.val 25 _ rfl (by decide) (hdep ⟨25, .guard⟩ (by simp) rfl)
      have s43 : a.tmps[43]? = some (.slice (some ⟨b, o, none⟩) ns.length c) := hI.val 27 _ rfl (by decide) (hdep ⟨27, .data⟩ (by simp) rfl)
      have s44 : a.tmps[44]? = some (.int .i64 (i : Int)) := hI.val 28 _ rfl (by decide) (hdep ⟨28, .data⟩ (by simp) rfl)
      refine step_val (v := (.pointer (some ⟨b, o + i * 10, none⟩))) ho (by unfold Region.wanted; simp only; rw [yields6 (b := true) (by decide) s41]; rfl) ?_ (hI.put ho (fun u hu => (Option.some.inj hu).symm) (Below.refl _ _))
      simp [execOp, Act.eval, go_sem, hnl, s43, s44]
    | 30, _ =>
      simp only [List.getElem?_toArray, List.getElem?_cons_succ, List.getElem?_cons_zero, Option.some.injEq] at ho2
      subst ho2
      have s41 : a.tmps[41]? = some (.bool true) := hI.val 25 _ rfl (by decide) (hdep ⟨25, .guard⟩ (by simp) rfl)
      have s45 : a.tmps[45]? = some (.pointer (some ⟨b, o + i * 10, none⟩)) := hI.val 29 _ rfl (by decide) (hdep ⟨29, .data⟩ (by simp) rfl)
      refine step_val (v := (.pointer (some ⟨b, o + i * 10 + 3, none⟩))) ho (by unfold Region.wanted; simp only; rw [yields6 (b := true) (by decide) s41]; rfl) ?_ (hI.put ho (fun u hu => (Option.some.inj hu).symm) (Below.refl _ _))
      simp [execOp, Act.eval, go_sem, s45]
    | 31, _ =>
      simp only [List.getElem?_toArray, List.getElem?_cons_succ, List.getElem?_cons_zero, Option.some.injEq] at ho2
      subst ho2
      have s41 : a.tmps[41]? = some (.bool true) := hI.val 25 _ rfl (by decide) (hdep ⟨25, .guard⟩ (by simp) rfl)
      have s46 : a.tmps[46]? = some (.pointer (some ⟨b, o + i * 10 + 3, none⟩)) := hI.val 30 _ rfl (by decide) (hdep ⟨30, .data⟩ (by simp) rfl)
      refine step_val (v := (.agg #[.string d.pp, .int .i64 d.pn])) ho (by unfold Region.wanted; simp only; rw [yields6 (b := true) (by decide) s41]; rfl) ?_ (hI.put ho (fun u hu => (Option.some.inj hu).symm) (Below.refl _ _))
      simp [execOp, Act.eval, go_sem, c3, c4, s46]
    | 32, _ =>
      simp only [List.getElem?_toArray, List.getElem?_cons_succ, List.getElem?_cons_zero, Option.some.injEq] at ho2
      subst ho2
      have s41 : a.tmps[41]? = some (.bool true) := hI.val 25 _ rfl (by decide) (hdep ⟨25, .guard⟩ (by simp) rfl)
      refine step_val (v := (.slice (some ⟨b, o, none⟩) ns.length c)) ho (by unfold Region.wanted; simp only; rw [yields6 (b := true) (by decide) s41]; rfl) ?_ (hI.put ho (fun u hu => (Option.some.inj hu).symm) (Below.refl _ _))
      simp [execOp, Act.eval, go_sem, s0]
    | 33, _ =>
      simp only [List.getElem?_toArray, List.getElem?_cons_succ, List.getElem?_cons_zero, Option.some.injEq] at ho2
      subst ho2
      have s41 : a.tmps[41]? = some (.bool true) := hI.val 25 _ rfl (by decide) (hdep ⟨25, .guard⟩ (by simp) rfl)
      refine step_val (v := (.int .i64 (i : Int))) ho (by unfold Region.wanted; simp only; rw [yields6 (b := true) (by decide) s41]; rfl) ?_ (hI.put ho (fun u hu => (Option.some.inj hu).symm) (Below.refl _ _))
      simp [execOp, Act.eval, go_sem, s3]
    | 34, _ =>
      simp only [List.getElem?_toArray, List.getElem?_cons_succ, List.getElem?_cons_zero, Option.some.injEq] at ho2
      subst ho2
      have s41 : a.tmps[41]? = some (.bool true) := hI.val 25 _ rfl (by decide) (hdep ⟨25, .guard⟩ (by simp) rfl)
      have s48 : a.tmps[48]? = some (.slice (some ⟨b, o, none⟩) ns.length c) := hI.val 32 _ rfl (by decide) (hdep ⟨32, .data⟩ (by simp) rfl)
      have s49 : a.tmps[49]? = some (.int .i64 (i : Int)) := hI.val 33 _ rfl (by decide) (hdep ⟨33, .data⟩ (by simp) rfl)
      refine step_val (v := (.pointer (some ⟨b, o + i * 10, none⟩))) ho (by unfold Region.wanted; simp only; rw [yields6 (b := true) (by decide) s41]; rfl) ?_ (hI.put ho (fun u hu => (Option.some.inj hu).symm) (Below.refl _ _))
      simp [execOp, Act.eval, go_sem, hnl, s48, s49]
    | 35, _ =>
      simp only [List.getElem?_toArray, List.getElem?_cons_succ, List.getElem?_cons_zero, Option.some.injEq] at ho2
      subst ho2
      have s41 : a.tmps[41]? = some (.bool true) := hI.val 25 _ rfl (by decide) (hdep ⟨25, .guard⟩ (by simp) rfl)
      have s50 : a.tmps[50]? = some (.pointer (some ⟨b, o + i * 10, none⟩)) := hI.val 34 _ rfl (by decide) (hdep ⟨34, .data⟩ (by simp) rfl)
      refine step_val (v := (.pointer (some ⟨b, o + i * 10 + 5, none⟩))) ho (by unfold Region.wanted; simp only; rw [yields6 (b := true) (by decide) s41]; rfl) ?_ (hI.put ho (fun u hu => (Option.some.inj hu).symm) (Below.refl _ _))
      simp [execOp, Act.eval, go_sem, s50]
    | 36, _ =>
      simp only [List.getElem?_toArray, List.getElem?_cons_succ, List.getElem?_cons_zero, Option.some.injEq] at ho2
      subst ho2
      have s41 : a.tmps[41]? = some (.bool true) := hI.val 25 _ rfl (by decide) (hdep ⟨25, .guard⟩ (by simp) rfl)
      have s51 : a.tmps[51]? = some (.pointer (some ⟨b, o + i * 10 + 5, none⟩)) := hI.val 35 _ rfl (by decide) (hdep ⟨35, .data⟩ (by simp) rfl)
      refine step_val (v := (.string d.nm)) ho (by unfold Region.wanted; simp only; rw [yields6 (b := true) (by decide) s41]; rfl) ?_ (hI.put ho (fun u hu => (Option.some.inj hu).symm) (Below.refl _ _))
      simp [execOp, Act.eval, go_sem, c5, s51]
    | 37, _ =>
      simp only [List.getElem?_toArray, List.getElem?_cons_succ, List.getElem?_cons_zero, Option.some.injEq] at ho2
      subst ho2
      have s41 : a.tmps[41]? = some (.bool true) := hI.val 25 _ rfl (by decide) (hdep ⟨25, .guard⟩ (by simp) rfl)
      have s42 : a.tmps[42]? = some (.slice (some ⟨b, o, none⟩) ns.length c) := hI.val 26 _ rfl (by decide) (hdep ⟨26, .data⟩ (by simp) rfl)
      have s47 : a.tmps[47]? = some (.agg #[.string d.pp, .int .i64 d.pn]) := hI.val 31 _ rfl (by decide) (hdep ⟨31, .data⟩ (by simp) rfl)
      have s52 : a.tmps[52]? = some (.string d.nm) := hI.val 36 _ rfl (by decide) (hdep ⟨36, .data⟩ (by simp) rfl)
      have hcon := at7 b o c ns d.pp d.pn d.nm w hNw hlen
      rw [hat] at hcon
      exact step_call (f := 7) (v := (.int .i64 r)) ho (by unfold Region.wanted; simp only; rw [yields6 (b := true) (by decide) s41]; rfl) (by simp [execOp, Act.eval, resolve, invoke, Deferred.ofValue, s42, s47, s52]) (enters_of Tryz.func7 (by kernel_rfl) rfl _ _) hcon (fun w2 hb => hI.put ho (fun u hu => (Option.some.inj hu).symm) hb)
    | 38, _ =>
      simp only [List.getElem?_toArray, List.getElem?_cons_succ, List.getElem?_cons_zero, Option.some.injEq] at ho2
      subst ho2
      have s41 : a.tmps[41]? = some (.bool true) := hI.val 25 _ rfl (by decide) (hdep ⟨25, .guard⟩ (by simp) rfl)
      refine step_val (v := (.int .i64 (i : Int))) ho (by unfold Region.wanted; simp only; rw [yields6 (b := true) (by decide) s41]; rfl) ?_ (hI.put ho (fun u hu => (Option.some.inj hu).symm) (Below.refl _ _))
      simp [execOp, Act.eval, go_sem, s3]
    | 39, _ =>
      simp only [List.getElem?_toArray, List.getElem?_cons_succ, List.getElem?_cons_zero, Option.some.injEq] at ho2
      subst ho2
      have s41 : a.tmps[41]? = some (.bool true) := hI.val 25 _ rfl (by decide) (hdep ⟨25, .guard⟩ (by simp) rfl)
      have s53 : a.tmps[53]? = some (.int .i64 r) := hI.val 37 _ rfl (by decide) (hdep ⟨37, .data⟩ (by simp) rfl)
      have s54 : a.tmps[54]? = some (.int .i64 (i : Int)) := hI.val 38 _ rfl (by decide) (hdep ⟨38, .data⟩ (by simp) rfl)
      refine step_val (v := (.bool true)) ho (by unfold Region.wanted; simp only; rw [yields6 (b := true) (by decide) s41]; rfl) ?_ (hI.put ho (fun u hu => (Option.some.inj hu).symm) (Below.refl _ _))
      simp [execOp, Act.eval, go_sem, hrn, s53, s54]
    | 40, _ =>
      simp only [List.getElem?_toArray, List.getElem?_cons_succ, List.getElem?_cons_zero, Option.some.injEq] at ho2
      subst ho2
      have s34 : a.tmps[34]? = some (.bool false) := hI.val 18 _ rfl (by decide) (hdep ⟨18, .guard⟩ (by simp) rfl)
      have s41 : a.tmps[41]? = some (.bool true) := hI.val 25 _ rfl (by decide) (hdep ⟨25, .data⟩ (by simp) rfl)
      have s55 : a.tmps[55]? = some (.bool true) := hI.val 39 _ rfl (by decide) (hdep ⟨39, .data⟩ (by simp) rfl)
      refine step_val (v := (.bool true)) ho (by unfold Region.wanted; simp only; rw [yields6 (b := false) (by decide) s34]; rfl) ?_ (hI.put ho (fun u hu => (Option.some.inj hu).symm) (Below.refl _ _))
      simp [execOp, Act.eval, go_sem, s41, s55]
    | 41, _ =>
      simp only [List.getElem?_toArray, List.getElem?_cons_succ, List.getElem?_cons_zero, Option.some.injEq] at ho2
      subst ho2
      have s34 : a.tmps[34]? = some (.bool false) := hI.val 18 _ rfl (by decide) (hdep ⟨18, .data⟩ (by simp) rfl)
      have s56 : a.tmps[56]? = some (.bool true) := hI.val 40 _ rfl (by decide) (hdep ⟨40, .data⟩ (by simp) rfl)
      refine step_val (v := (.bool true)) ho rfl ?_ (hI.put ho (fun u hu => (Option.some.inj hu).symm) (Below.refl _ _))
      simp [execOp, Act.eval, go_sem, s34, s56]
  · intro listed a w hls hI hall
    have h57 := hI.val 41 _ rfl (by decide) (hall 41 (by rw [ops6_size]; decide))
    have hb6 := behind6_eq hI.size hI.low h57
    have ha : a = { tmps := behind6 T0 (.bool true) fun j => a.tmps.getD j undef, defers := [] } := by
      obtain ⟨tm, df⟩ := a
      have h1 : df = [] := hI.nodef
      subst h1
      exact congrArg (fun t => ({ tmps := t, defers := [] } : Act)) hb6
    rw [ha]
    exact hQ _ w hI.below
end Go.Proofs.Np
namespace Go.Proofs.Np
open Go Go.Proofs Go.RowKit
set_option maxRecDepth 1000000

def vals6D (b o c i : Nat) (ns : List Nd) (d : Nd) (_r : Int) : Nat → Option Value
  | 0 => some (.slice (some ⟨b, o, none⟩) ns.length c)
  | 1 => some (.int .i64 (i : Int))
  | 2 => some (.pointer (some ⟨b, o + i * 10, none⟩))
  | 3 => some (.pointer (some ⟨b, o + i * 10, none⟩))
  | 4 => some (.agg #[.string d.sp, .int .i64 d.sn])
  | 5 => some (.agg #[.string ⟨#[]⟩, .int .i64 0])
  | 6 => some (.bool false)
  | 7 => some (.bool false)
  | 8 => some (.slice (some ⟨b, o, none⟩) ns.length c)
  | 9 => some (.slice (some ⟨b, o, none⟩) ns.length c)
  | 10 => some (.int .i64 (i : Int))
  | 11 => some (.pointer (some ⟨b, o + i * 10, none⟩))
  | 12 => some (.pointer (some ⟨b, o + i * 10, none⟩))
  | 13 => some (.agg #[.string d.sp, .int .i64 d.sn])
  | 14 => some (.int .i64 (i : Int))
  | 15 => some (.int .i64 (i : Int))
  | 16 => some (.bool false)
  | 17 => some (.bool false)
  | 18 => some (.bool false)
  | 19 => some (.slice (some ⟨b, o, none⟩) ns.length c)
  | 20 => some (.int .i64 (i : Int))
  | 21 => some (.pointer (some ⟨b, o + i * 10, none⟩))
  | 22 => some (.pointer (some ⟨b, o + i * 10 + 6, none⟩))
  | 23 => some (.string d.gone)
  | 24 => some (.bool true)
  | 25 => some (.bool true)
  | 26 => some (.slice (some ⟨b, o, none⟩) ns.length c)
  | 27 => some (.slice (some ⟨b, o, none⟩) ns.length c)
  | 28 => some (.int .i64 (i : Int))
  | 29 => some (.pointer (some ⟨b, o + i * 10, none⟩))
  | 30 => some (.pointer (some ⟨b, o + i * 10 + 3, none⟩))
  | 31 => some (.agg #[.string d.pp, .int .i64 d.pn])
  | 32 => some (.slice (some ⟨b, o, none⟩) ns.length c)
  | 33 => some (.int .i64 (i : Int))
  | 34 => some (.pointer (some ⟨b, o + i * 10, none⟩))
  | 35 => some (.pointer (some ⟨b, o + i * 10 + 5, none⟩))
  | 36 => some (.string d.nm)
  | 37 => some (.int .i64 (i : Int))
  | 38 => some (.int .i64 (i : Int))
  | 39 => some (.bool false)
  | 40 => some (.bool false)
  | 41 => some (.bool false)
  | _ => none

set_option maxHeartbeats 16000000 in
theorem region6D (b o c i : Nat) (ns : List Nd) (d : Nd) (r : Int) (wr : World) (hN : NodesAt wr b o ns) (hlt : i < ns.length) (hlen : ns.length < 9223372036854775808) (hd : ns[i]? = some d) (hS : sameId d.sp d.sn ⟨#[]⟩ 0 = false) (hf : idxI (selfIs d.sp d.sn) ns = (i : Nat)) (hg : d.gone.toList.isEmpty = true) (hat : idxI (liesAt d.pp d.pn d.nm) ns = (i : Nat))
    (T0 : Array Value) (h0 : T0[0]? = some (.slice (some ⟨b, o, none⟩) ns.length c)) (h3 : T0[3]? = some (.int .i64 (i : Int))) (hsz : T0.size = 82) (Q : Exit → Act → World → Prop)
    (hQ : ∀ (u : Nat → Value) w, Below wr.heap.size wr w → Q .normal { tmps := behind6 T0 (.bool false) u, defers := [] } w) : Code.wp Tryz.prog reg6 Q { tmps := T0, defers := [] } wr := by
  rw [reg6_eq]
  have hi0 : (0 : Int) ≤ (i : Int) := by omega
  have hi1 : (i : Int) < (ns.length : Int) := by omega
  have hi2 : ¬ (i : Int) < 0 := by omega
  have hnl : ¬ ns.length ≤ i := by omega
  have hgn : d.gone.toList = [] := by simpa using hg
  have hSn : d.sp.toList = [] → ¬ d.sn = 0 := fun h1 h2 => by
    have h3 : d.sp.toList.isEmpty = true := by rw [h1]; rfl
    rw [isEmpty_iff] at h3
    have h4 : d.sp = ByteArray.empty := of_decide_eq_true h3
    rw [h4, h2] at hS
    exact absurd hS (by decide)
  refine wp_region_inv (by kernel_rfl) (fun i o ho => (op6_at ho).2.2) (Inv6 (vals6D b o c i ns d r) T0 wr) ⟨rfl, ⟨rfl, rfl, rfl, Nat.le_refl _, fun _ _ => rfl⟩, hsz, fun _ _ => rfl, fun j v _ hj hl => ?_⟩ ?_ ?_
  · simp [Array.getD_eq_getD_getElem?, ops6_size, hj] at hl
  · intro listed a w j op hls hI ho hl hdep
    have hj := (op6_at ho).1
    have s0 := (hI.low 0 (by decide)).trans h0
    have s3 := (hI.low 3 (by decide)).trans h3
    have hNw := hN.below hI.below
    obtain ⟨c0, c1, -, c3, c4, c5, c6, -⟩ := hNw.cell i d hd
    clear hl
    have ho2 := ho
    unfold ops6 reg6 loopA Tryz.f3 at ho2
    dsimp only at ho2
    match j, hj with
    | 0, _ =>
      simp only [List.getElem?_toArray, List.getElem?_cons_zero, Option.some.injEq] at ho2
      subst ho2
      refine step_val (v := (.slice (some ⟨b, o, none⟩) ns.length c)) ho rfl ?_ (hI.put ho (fun u hu => (Option.some.inj hu).symm) (Below.refl _ _))
      simp [execOp, Act.eval, go_sem, s0]
    | 1, _ =>
      simp only [List.getElem?_toArray, List.getElem?_cons_succ, List.getElem?_cons_zero, Option.some.injEq] at ho2
      subst ho2
      refine step_val (v := (.int .i64 (i : Int))) ho rfl ?_ (hI.put ho (fun u hu => (Option.some.inj hu).symm) (Below.refl _ _))
      simp [execOp, Act.eval, go_sem, s3]
    | 2, _ =>
      simp only [List.getElem?_toArray, List.getElem?_cons_succ, List.getElem?_cons_zero, Option.some.injEq] at ho2
      subst ho2
      have s16 : a.tmps[16]? = some (.slice (some ⟨b, o, none⟩) ns.length c) := hI.val 0 _ rfl (by decide) (hdep ⟨0, .data⟩ (by simp) rfl)
      have s17 : a.tmps[17]? = some (.int .i64 (i : Int)) := hI.val 1 _ rfl (by decide) (hdep ⟨1, .data⟩ (by simp) rfl)
      refine step_val (v := (.pointer (some ⟨b, o + i * 10, none⟩))) ho rfl ?_ (hI.put ho (fun u hu => (Option.some.inj hu).symm) (Below.refl _ _))
      simp [execOp, Act.eval, go_sem, hnl, s16, s17]
    | 3, _ =>
      simp only [List.getElem?_toArray, List.getElem?_cons_succ, List.getElem?_cons_zero, Option.some.injEq] at ho2
      subst ho2
      have s18 : a.tmps[18]? = some (.pointer (some ⟨b, o + i * 10, none⟩)) := hI.val 2 _ rfl (by decide) (hdep ⟨2, .data⟩ (by simp) rfl)
      refine step_val (v := (.pointer (some ⟨b, o + i * 10, none⟩))) ho rfl ?_ (hI.put ho (fun u hu => (Option.some.inj hu).symm) (Below.refl _ _))
      simp [execOp, Act.eval, go_sem, s18]
    | 4, _ =>
      simp only [List.getElem?_toArray, List.getElem?_cons_succ, List.getElem?_cons_zero, Option.some.injEq] at ho2
      subst ho2
      have s19 : a.tmps[19]? = some (.pointer (some ⟨b, o + i * 10, none⟩)) := hI.val 3 _ rfl (by decide) (hdep ⟨3, .data⟩ (by simp) rfl)
      refine step_val (v := (.agg #[.string d.sp, .int .i64 d.sn])) ho rfl ?_ (hI.put ho (fun u hu => (Option.some.inj hu).symm) (Below.refl _ _))
      simp [execOp, Act.eval, go_sem, c0, c1, s19]
    | 5, _ =>
      simp only [List.getElem?_toArray, List.getElem?_cons_succ, List.getElem?_cons_zero, Option.some.injEq] at ho2
      subst ho2
      refine step_val (v := (.agg #[.string ⟨#[]⟩, .int .i64 0])) ho rfl ?_ (hI.put ho (fun u hu => (Option.some.inj hu).symm) (Below.refl _ _))
      simp [execOp, Act.eval, go_sem]
    | 6, _ =>
      simp only [List.getElem?_toArray, List.getElem?_cons_succ, List.getElem?_cons_zero, Option.some.injEq] at ho2
      subst ho2
      have s20 : a.tmps[20]? = some (.agg #[.string d.sp, .int .i64 d.sn]) := hI.val 4 _ rfl (by decide) (hdep ⟨4, .data⟩ (by simp) rfl)
      have s21 : a.tmps[21]? = some (.agg #[.string ⟨#[]⟩, .int .i64 0]) := hI.val 5 _ rfl (by decide) (hdep ⟨5, .data⟩ (by simp) rfl)
      refine step_val (v := (.bool false)) ho rfl ?_ (hI.put ho (fun u hu => (Option.some.inj hu).symm) (Below.refl _ _))
      simp [execOp, Act.eval, go_sem, s20, s21]
      all_goals exact hSn
    | 7, _ =>
      simp only [List.getElem?_toArray, List.getElem?_cons_succ, List.getElem?_cons_zero, Option.some.injEq] at ho2
      subst ho2
      have s22 : a.tmps[22]? = some (.bool false) := hI.val 6 _ rfl (by decide) (hdep ⟨6, .data⟩ (by simp) rfl)
      refine step_val (v := (.bool false)) ho rfl ?_ (hI.put ho (fun u hu => (Option.some.inj hu).symm) (Below.refl _ _))
      simp [execOp, Act.eval, go_sem, s22]
    | 8, _ =>
      simp only [List.getElem?_toArray, List.getElem?_cons_succ, List.getElem?_cons_zero, Option.some.injEq] at ho2
      subst ho2
      have s23 : a.tmps[23]? = some (.bool false) := hI.val 7 _ rfl (by decide) (hdep ⟨7, .guard⟩ (by simp) rfl)
      refine step_val (v := (.slice (some ⟨b, o, none⟩) ns.length c)) ho (by unfold Region.wanted; simp only; rw [yields6 (b := false) (by decide) s23]; rfl) ?_ (hI.put ho (fun u hu => (Option.some.inj hu).symm) (Below.refl _ _))
      simp [execOp, Act.eval, go_sem, s0]
    | 9, _ =>
      simp only [List.getElem?_toArray, List.getElem?_cons_succ, List.getElem?_cons_zero, Option.some.injEq] at ho2
      subst ho2
      have s23 : a.tmps[23]? = some (.bool false) := hI.val 7 _ rfl (by decide) (hdep ⟨7, .guard⟩ (by simp) rfl)
      refine step_val (v := (.slice (some ⟨b, o, none⟩) ns.length c)) ho (by unfold Region.wanted; simp only; rw [yields6 (b := false) (by decide) s23]; rfl) ?_ (hI.put ho (fun u hu => (Option.some.inj hu).symm) (Below.refl _ _))
      simp [execOp, Act.eval, go_sem, s0]
    | 10, _ =>
      simp only [List.getElem?_toArray, List.getElem?_cons_succ, List.getElem?_cons_zero, Option.some.injEq] at ho2
      subst ho2
      have s23 : a.tmps[23]? = some (.bool false) := hI.val 7 _ rfl (by decide) (hdep ⟨7, .guard⟩ (by simp) rfl)
      refine step_val (v := (.int .i64 (i : Int))) ho (by unfold Region.wanted; simp only; rw [yields6 (b := false) (by decide) s23]; rfl) ?_ (hI.put ho (fun u hu => (Option.some.inj hu).symm) (Below.refl _ _))
      simp [execOp, Act.eval, go_sem, s3]
    | 11, _ =>
      simp only [List.getElem?_toArray, List.getElem?_cons_succ, List.getElem?_cons_zero, Option.some.injEq] at ho2
      subst ho2
      have s23 : a.tmps[23]? = some (.bool false) := hI.val 7 _ rfl (by decide) (hdep ⟨7, .guard⟩ (by simp) rfl)
      have s25 : a.tmps[25]? = some (.slice (some ⟨b, o, none⟩) ns.length c) := hI.val 9 _ rfl (by decide) (hdep ⟨9, .data⟩ (by simp) rfl)
      have s26 : a.tmps[26]? = some (.int .i64 (i : Int)) := hI.val 10 _ rfl (by decide) (hdep ⟨10, .data⟩ (by simp) rfl)
      refine step_val (v := (.pointer (some ⟨b, o + i * 10, none⟩))) ho (by unfold Region.wanted; simp only; rw [yields6 (b := false) (by decide) s23]; rfl) ?_ (hI.put ho (fun u hu => (Option.some.inj hu).symm) (Below.refl _ _))
      simp [execOp, Act.eval, go_sem, hnl, s25, s26]
    | 12, _ =>
      simp only [List.getElem?_toArray, List.getElem?_cons_succ, List.getElem?_cons_zero, Option.some.injEq] at ho2
      subst ho2
      have s23 : a.tmps[23]? = some (.bool false) := hI.val 7 _ rfl (by decide) (hdep ⟨7, .guard⟩ (by simp) rfl)
      have s27 : a.tmps[27]? = some (.pointer (some ⟨b, o + i * 10, none⟩)) := hI.val 11 _ rfl (by decide) (hdep ⟨11, .data⟩ (by simp) rfl)
      refine step_val (v := (.pointer (some ⟨b, o + i * 10, none⟩))) ho (by unfold Region.wanted; simp only; rw [yields6 (b := false) (by decide) s23]; rfl) ?_ (hI.put ho (fun u hu => (Option.some.inj hu).symm) (Below.refl _ _))
      simp [execOp, Act.eval, go_sem, s27]
    | 13, _ =>
      simp only [List.getElem?_toArray, List.getElem?_cons_succ, List.getElem?_cons_zero, Option.some.injEq] at ho2
      subst ho2
      have s23 : a.tmps[23]? = some (.bool false) := hI.val 7 _ rfl (by decide) (hdep ⟨7, .guard⟩ (by simp) rfl)
      have s28 : a.tmps[28]? = some (.pointer (some ⟨b, o + i * 10, none⟩)) := hI.val 12 _ rfl (by decide) (hdep ⟨12, .data⟩ (by simp) rfl)
      refine step_val (v := (.agg #[.string d.sp, .int .i64 d.sn])) ho (by unfold Region.wanted; simp only; rw [yields6 (b := false) (by decide) s23]; rfl) ?_ (hI.put ho (fun u hu => (Option.some.inj hu).symm) (Below.refl _ _))
      simp [execOp, Act.eval, go_sem, c0, c1, s28]
    | 14, _ =>
      simp only [List.getElem?_toArray, List.getElem?_cons_succ, List.getElem?_cons_zero, Option.some.injEq] at ho2
      subst ho2
      have s23 : a.tmps[23]? = some (.bool false) := hI.val 7 _ rfl (by decide) (hdep ⟨7, .guard⟩ (by simp) rfl)
      have s24 : a.tmps[24]? = some (.slice (some ⟨b, o, none⟩) ns.length c) := hI.val 8 _ rfl (by decide) (hdep ⟨8, .data⟩ (by simp) rfl)
      have s29 : a.tmps[29]? = some (.agg #[.string d.sp, .int .i64 d.sn]) := hI.val 13 _ rfl (by decide) (hdep ⟨13, .data⟩ (by simp) rfl)
      have hcon := find6 b o c ns d.sp d.sn w hNw hlen
      rw [hf] at hcon
      exact step_call (f := 6) (v := (.int .i64 (i : Int))) ho (by unfold Region.wanted; simp only; rw [yields6 (b := false) (by decide) s23]; rfl) (by simp [execOp, Act.eval, resolve, invoke, Deferred.ofValue, s24, s29]) (enters_of Tryz.func6 (by kernel_rfl) rfl _ _) hcon (fun w2 hb => hI.put ho (fun u hu => (Option.some.inj hu).symm) hb)
    | 15, _ =>
      simp only [List.getElem?_toArray, List.getElem?_cons_succ, List.getElem?_cons_zero, Option.some.injEq] at ho2
      subst ho2
      have s23 : a.tmps[23]? = some (.bool false) := hI.val 7 _ rfl (by decide) (hdep ⟨7, .guard⟩ (by simp) rfl)
      refine step_val (v := (.int .i64 (i : Int))) ho (by unfold Region.wanted; simp only; rw [yields6 (b := false) (by decide) s23]; rfl) ?_ (hI.put ho (fun u hu => (Option.some.inj hu).symm) (Below.refl _ _))
      simp [execOp, Act.eval, go_sem, s3]
    | 16, _ =>
      simp only [List.getElem?_toArray, List.getElem?_cons_succ, List.getElem?_cons_zero, Option.some.injEq] at ho2
      subst ho2
      have s23 : a.tmps[23]? = some (.bool false) := hI.val 7 _ rfl (by decide) (hdep ⟨7, .guard⟩ (by simp) rfl)
      have s30 : a.tmps[30]? = some (.int .i64 (i : Int)) := hI.val 14 _ rfl (by decide) (hdep ⟨14, .data⟩ (by simp) rfl)
      have s31 : a.tmps[31]? = some (.int .i64 (i : Int)) := hI.val 15 _ rfl (by decide) (hdep ⟨15, .data⟩ (by simp) rfl)
      refine step_val (v := (.bool false)) ho (by unfold Region.wanted; simp only; rw [yields6 (b := false) (by decide) s23]; rfl) ?_ (hI.put ho (fun u hu => (Option.some.inj hu).symm) (Below.refl _ _))
      simp [execOp, Act.eval, go_sem, s30, s31]
    | 17, _ =>
      simp only [List.getElem?_toArray, List.getElem?_cons_succ, List.getElem?_cons_zero, Option.some.injEq] at ho2
      subst ho2
      have s23 : a.tmps[23]? = some (.bool false) := hI.val 7 _ rfl (by decide) (hdep ⟨7, .data⟩ (by simp) rfl)
      have s32 : a.tmps[32]? = some (.bool false) := hI.val 16 _ rfl (by decide) (hdep ⟨16, .data⟩ (by simp) rfl)
      refine step_val (v := (.bool false)) ho rfl ?_ (hI.put ho (fun u hu => (Option.some.inj hu).symm) (Below.refl _ _))
      simp [execOp, Act.eval, go_sem, s23, s32]
    | 18, _ =>
      simp only [List.getElem?_toArray, List.getElem?_cons_succ, List.getElem?_cons_zero, Option.some.injEq] at ho2
      subst ho2
      have s33 : a.tmps[33]? = some (.bool false) := hI.val 17 _ rfl (by decide) (hdep ⟨17, .data⟩ (by simp) rfl)
      refine step_val (v := (.bool false)) ho rfl ?_ (hI.put ho (fun u hu => (Option.some.inj hu).symm) (Below.refl _ _))
      simp [execOp, Act.eval, go_sem, s33]
    | 19, _ =>
      simp only [List.getElem?_toArray, List.getElem?_cons_succ, List.getElem?_cons_zero, Option.some.injEq] at ho2
      subst ho2
      have s34 : a.tmps[34]? = some (.bool false) := hI.val 18 _ rfl (by decide) (hdep ⟨18, .guard⟩ (by simp) rfl)
      refine step_val (v := (.slice (some ⟨b, o, none⟩) ns.length c)) ho (by unfold Region.wanted; simp only; rw [yields6 (b := false) (by decide) s34]; rfl) ?_ (hI.put ho (fun u hu => (Option.some.inj hu).symm) (Below.refl _ _))
      simp [execOp, Act.eval, go_sem, s0]
    | 20, _ =>
      simp only [List.getElem?_toArray, List.getElem?_cons_succ, List.getElem?_cons_zero, Option.some.injEq] at ho2
      subst ho2
      have s34 : a.tmps[34]? = some (.bool false) := hI.val 18 _ rfl (by decide) (hdep ⟨18, .guard⟩ (by simp) rfl)
      refine step_val (v := (.int .i64 (i : Int))) ho (by unfold Region.wanted; simp only; rw [yields6 (b := false) (by decide) s34]; rfl) ?_ (hI.put ho (fun u hu => (Option.some.inj hu).symm) (Below.refl _ _))
      simp [execOp, Act.eval, go_sem, s3]
    | 21, _ =>
      simp only [List.getElem?_toArray, List.getElem?_cons_succ, List.getElem?_cons_zero, Option.some.injEq] at ho2
      subst ho2
      have s34 : a.tmps[34]? = some (.bool false) := hI.val 18 _ rfl (by decide) (hdep ⟨18, .guard⟩ (by simp) rfl)
      have s35 : a.tmps[35]? = some (.slice (some ⟨b, o, none⟩) ns.length c) := hI.val 19 _ rfl (by decide) (hdep ⟨19, .data⟩ (by simp) rfl)
      have s36 : a.tmps[36]? = some (.int .i64 (i : Int)) := hI.val 20 _ rfl (by decide) (hdep ⟨20, .data⟩ (by simp) rfl)
      refine step_val (v := (.pointer (some ⟨b, o + i * 10, none⟩))) ho (by unfold Region.wanted; simp only; rw [yields6 (b := false) (by decide) s34]; rfl) ?_ (hI.put ho (fun u hu => (Option.some.inj hu).symm) (Below.refl _ _))
      simp [execOp, Act.eval, go_sem, hnl, s35, s36]
    | 22, _ =>
      simp only [List.getElem?_toArray, List.getElem?_cons_succ, List.getElem?_cons_zero, Option.some.injEq] at ho2
      subst ho2
      have s34 : a.tmps[34]? = some (.bool false) := hI.val 18 _ rfl (by decide) (hdep ⟨18, .guard⟩ (by simp) rfl)
      have s37 : a.tmps[37]? = some (.pointer (some ⟨b, o + i * 10, none⟩)) := hI.val 21 _ rfl (by decide) (hdep ⟨21, .data⟩ (by simp) rfl)
      refine step_val (v := (.pointer (some ⟨b, o + i * 10 + 6, none⟩))) ho (by unfold Region.wanted; simp only; rw [yields6 (b := false) (by decide) s34]; rfl) ?_ (hI.put ho (fun u hu => (Option.some.inj hu).symm) (Below.refl _ _))
      simp [execOp, Act.eval, go_sem, s37]
    | 23, _ =>
      simp only [List.getElem?_toArray, List.getElem?_cons_succ, List.getElem?_cons_zero, Option.some.injEq] at ho2
      subst ho2
      have s34 : a.tmps[34]? = some (.bool false) := hI.val 18 _ rfl (by decide) (hdep ⟨18, .guard⟩ (by simp) rfl)
      have s38 : a.tmps[38]? = some (.pointer (some ⟨b, o + i * 10 + 6, none⟩)) := hI.val 22 _ rfl (by decide) (hdep ⟨22, .data⟩ (by simp) rfl)
      refine step_val (v := (.string d.gone)) ho (by unfold Region.wanted; simp only; rw [yields6 (b := false) (by decide) s34]; rfl) ?_ (hI.put ho (fun u hu => (Option.some.inj hu).symm) (Below.refl _ _))
      simp [execOp, Act.eval, go_sem, c6, s38]
    | 24, _ =>
      simp only [List.getElem?_toArray, List.getElem?_cons_succ, List.getElem?_cons_zero, Option.some.injEq] at ho2
      subst ho2
      have s34 : a.tmps[34]? = some (.bool false) := hI.val 18 _ rfl (by decide) (hdep ⟨18, .guard⟩ (by simp) rfl)
      have s39 : a.tmps[39]? = some (.string d.gone) := hI.val 23 _ rfl (by decide) (hdep ⟨23, .data⟩ (by simp) rfl)
      refine step_val (v := (.bool true)) ho (by unfold Region.wanted; simp only; rw [yields6 (b := false) (by decide) s34]; rfl) ?_ (hI.put ho (fun u hu => (Option.some.inj hu).symm) (Below.refl _ _))
      simp [execOp, Act.eval, go_sem, hgn, s39]
    | 25, _ =>
      simp only [List.getElem?_toArray, List.getElem?_cons_succ, List.getElem?_cons_zero, Option.some.injEq] at ho2
      subst ho2
      have s34 : a.tmps[34]? = some (.bool false) := hI.val 18 _ rfl (by decide) (hdep ⟨18, .guard⟩ (by simp) rfl)
      have s40 : a.tmps[40]? = some (.bool true) := hI.val 24 _ rfl (by decide) (hdep ⟨24, .data⟩ (by simp) rfl)
      refine step_val (v := (.bool true)) ho (by unfold Region.wanted; simp only; rw [yields6 (b := false) (by decide) s34]; rfl) ?_ (hI.put ho (fun u hu => (Option.some.inj hu).symm) (Below.refl _ _))
      simp [execOp, Act.eval, go_sem, s40]
    | 26, _ =>
      simp only [List.getElem?_toArray, List.getElem?_cons_succ, List.getElem?_cons_zero, Option.some.injEq] at ho2
      subst ho2
      have s41 : a.tmps[41]? = some (.bool true) := hI.val 25 _ rfl (by decide) (hdep ⟨25, .guard⟩ (by simp) rfl)
      refine step_val (v := (.slice (some ⟨b, o, none⟩) ns.length c)) ho (by unfold Region.wanted; simp only; rw [yields6 (b := true) (by decide) s41]; rfl) ?_ (hI.put ho (fun u hu => (Option.some.inj hu).symm) (Below.refl _ _))
      simp [execOp, Act.eval, go_sem, s0]
    | 27, _ =>
      simp only [List.getElem?_toArray, List.getElem?_cons_succ, List.getElem?_cons_zero, Option.some.injEq] at ho2
      subst ho2
      have s41 : a.tmps[41]? = some (.bool true) := hI.val 25 _ rfl (by decide) (hdep ⟨25, .guard⟩ (by simp) rfl)
      refine step_val (v := (.slice (some ⟨b, o, none⟩) ns.length c)) ho (by unfold Region.wanted; simp only; rw [yields6 (b := true) (by decide) s41]; rfl) ?_ (hI.put ho (fun u hu => (Option.some.inj hu).symm) (Below.refl _ _))
      simp [execOp, Act.eval, go_sem, s0]
    | 28, _ =>
      simp only [List.getElem?_toArray, List.getElem?_cons_succ, List.getElem?_cons_zero, Option.some.injEq] at ho2
      subst ho2
      have s41 : a.tmps[41]? = some (.bool true) := hI.val 25 _ rfl (by decide) (hdep ⟨25, .guard⟩ (by simp) rfl)
      refine step_val (v := (.int .i64 (i : Int))) ho (by unfold Region.wanted; simp only; rw [yields6 (b := true) (by decide) s41]; rfl) ?_ (hI.put ho (fun u hu => (Option.some.inj hu).symm) (Below.refl _ _))
      simp [execOp, Act.eval, go_sem, s3]
    | 29, _ =>
      simp only [List.getElem?_toArray, List.getElem?_cons_succ, List.getElem?_cons_zero, Option.some.injEq] at ho2
      subst ho2
      have s41 : a.tmps[41]? = some (.bool true) := hI.val 25 _ rfl (by decide) (hdep ⟨25, .guard⟩ (by simp) rfl)
      have s43 : a.tmps[43]? = some (.slice (some ⟨b, o, none⟩) ns.length c) := hI.val 27 _ rfl (by decide) (hdep ⟨27, .data⟩ (by simp) rfl)
      have s44 : a.tmps[44]? = some (.int .i64 (i : Int)) := hI.val 28 _ rfl (by decide) (hdep ⟨28, .data⟩ (by simp) rfl)
      refine step_val (v := (.pointer (some ⟨b, o + i * 10, none⟩))) ho (by unfold Region.wanted; simp only; rw [yields6 (b := true) (by decide) s41]; rfl) ?_ (hI.put ho (fun u hu => (Option.some.inj hu).symm) (Below.refl _ _))
      simp [execOp, Act.eval, go_sem, hnl, s43, s44]
    | 30, _ =>
      simp only [List.getElem?_toArray, List.getElem?_cons_succ, List.getElem?_cons_zero, Option.some.injEq] at ho2
      subst ho2
      have s41 : a.tmps[41]? = some (.bool true) := hI.val 25 _ rfl (by decide) (hdep ⟨25, .guard⟩ (by simp) rfl)
      have s45 : a.tmps[45]? = some (.pointer (some ⟨b, o + i * 10, none⟩)) := hI.val 29 _ rfl (by decide) (hdep ⟨29, .data⟩ (by simp) rfl)
      refine step_val (v := (.pointer (some ⟨b, o + i * 10 + 3, none⟩))) ho (by unfold Region.wanted; simp only; rw [yields6 (b := true) (by decide) s41]; rfl) ?_ (hI.put ho (fun u hu => (Option.some.inj hu).symm) (Below.refl _ _))
      simp [execOp, Act.eval, go_sem, s45]
    | 31, _ =>
      simp only [List.getElem?_toArray, List.getElem?_cons_succ, List.getElem?_cons_zero, Option.some.injEq] at ho2
      subst ho2
      have s41 : a.tmps[41]? = some (.bool true) := hI.val 25 _ rfl (by decide) (hdep ⟨25, .guard⟩ (by simp) rfl)
      have s46 : a.tmps[46]? = some (.pointer (some ⟨b, o + i * 10 + 3, none⟩)) := hI.val 30 _ rfl (by decide) (hdep ⟨30, .data⟩ (by simp) rfl)
      refine step_val (v := (.agg #[.string d.pp, .int .i64 d.pn])) ho (by unfold Region.wanted; simp only; rw [yields6 (b := true) (by decide) s41]; rfl) ?_ (hI.put ho (fun u hu => (Option.some.inj hu).symm) (Below.refl _ _))
      simp [execOp, Act.eval, go_sem, c3, c4, s46]
    | 32, _ =>
      simp only [List.getElem?_toArray, List.getElem?_cons_succ, List.getElem?_cons_zero, Option.some.injEq] at ho2
      subst ho2
      have s41 : a.tmps[41]? = some (.bool true) := hI.val 25 _ rfl (by decide) (hdep ⟨25, .guard⟩ (by simp) rfl)
      refine step_val (v := (.slice (some ⟨b, o, none⟩) ns.length c)) ho (by unfold Region.wanted; simp only; rw [yields6 (b := true) (by decide) s41]; rfl) ?_ (hI.put ho (fun u hu => (Option.some.inj hu).symm) (Below.refl _ _))
      simp [execOp, Act.eval, go_sem, s0]
    | 33, _ =>
      simp only [List.getElem?_toArray, List.getElem?_cons_succ, List.getElem?_cons_zero, Option.some.injEq] at ho2
      subst ho2
      have s41 : a.tmps[41]? = some (.bool true) := hI.val 25 _ rfl (by decide) (hdep ⟨25, .guard⟩ (by simp) rfl)
      refine step_val (v := (.int .i64 (i : Int))) ho (by unfold Region.wanted; simp only; rw [yields6 (b := true) (by decide) s41]; rfl) ?_ (hI.put ho (fun u hu => (Option.some.inj hu).symm) (Below.refl _ _))
      simp [execOp, Act.eval, go_sem, s3]
    | 34, _ =>
      simp only [List.getElem?_toArray, List.getElem?_cons_succ, List.getElem?_cons_zero, Option.some.injEq] at ho2
      subst ho2
      have s41 : a.tmps[41]? = some (.bool true) := hI.val 25 _ rfl (by decide) (hdep ⟨25, .guard⟩ (by simp) rfl)
      have s48 : a.tmps[48]? = some (.slice (some ⟨b, o, none⟩) ns.length c) := hI.val 32 _ rfl (by decide) (hdep ⟨32, .data⟩ (by simp) rfl)
      have s49 : a.tmps[49]? = some (.int .i64 (i : Int)) := hI.val 33 _ rfl (by decide) (hdep ⟨33, .data⟩ (by simp) rfl)
      refine step_val (v := (.pointer (some ⟨b, o + i * 10, none⟩))) ho (by unfold Region.wanted; simp only; rw [yields6 (b := true) (by decide) s41]; rfl) ?_ (hI.put ho (fun u hu => (Option.some.inj hu).symm) (Below.refl _ _))
      simp [execOp, Act.eval, go_sem, hnl, s48, s49]
    | 35, _ =>
      simp only [List.getElem?_toArray, List.getElem?_cons_succ, List.getElem?_cons_zero, Option.some.injEq] at ho2
      subst ho2
      have s41 : a.tmps[41]? = some (.bool true) := hI.val 25 _ rfl (by decide) (hdep ⟨25, .guard⟩ (by simp) rfl)
      have s50 : a.tmps[50]? = some (.pointer (some ⟨b, o + i * 10, none⟩)) := hI.val 34 _ rfl (by decide) (hdep ⟨34, .data⟩ (by simp) rfl)
      refine step_val (v := (.pointer (some ⟨b, o + i * 10 + 5, none⟩))) ho (by unfold Region.wanted; simp only; rw [yields6 (b := true) (by decide) s41]; rfl) ?_ (hI.put ho (fun u hu => (Option.some.inj hu).symm) (Below.refl _ _))
      simp [execOp, Act.eval, go_sem, s50]
    | 36, _ =>
      simp only [List.getElem?_toArray, List.getElem?_cons_succ, List.getElem?_cons_zero, Option.some.injEq] at ho2
      subst ho2
      have s41 : a.tmps[41]? = some (.bool true) := hI.val 25 _ rfl (by decide) (hdep ⟨25, .guard⟩ (by simp) rfl)
      have s51 : a.tmps[51]? = some (.pointer (some ⟨b, o + i * 10 + 5, none⟩)) := hI.val 35 _ rfl (by decide) (hdep ⟨35, .data⟩ (by simp) rfl)
      refine step_val (v := (.string d.nm)) ho (by unfold Region.wanted; simp only; rw [yields6 (b := true) (by decide) s41]; rfl) ?_ (hI.put ho (fun u hu => (Option.some.inj hu).symm) (Below.refl _ _))
      simp [execOp, Act.eval, go_sem, c5, s51]
    | 37, _ =>
      simp only [List.getElem?_toArray, List.getElem?_cons_succ, List.getElem?_cons_zero, Option.some.injEq] at ho2
      subst ho2
      have s41 : a.tmps[41]? = some (.bool true) := hI.val 25 _ rfl (by decide) (hdep ⟨25, .guard⟩ (by simp) rfl)
      have s42 : a.tmps[42]? = some (.slice (some ⟨b, o, none⟩) ns.length c) := hI.val 26 _ rfl (by decide) (hdep ⟨26, .data⟩ (by simp) rfl)
      have s47 : a.tmps[47]? = some (.agg #[.string d.pp, .int .i64 d.pn]) := hI.val 31 _ rfl (by decide) (hdep ⟨31, .data⟩ (by simp) rfl)
      have s52 : a.tmps[52]? = some (.string d.nm) := hI.val 36 _ rfl (by decide) (hdep ⟨36, .data⟩ (by simp) rfl)
      have hcon := at7 b o c ns d.pp d.pn d.nm w hNw hlen
      rw [hat] at hcon
      exact step_call (f := 7) (v := (.int .i64 (i : Int))) ho (by unfold Region.wanted; simp only; rw [yields6 (b := true) (by decide) s41]; rfl) (by simp [execOp, Act.eval, resolve, invoke, Deferred.ofValue, s42, s47, s52]) (enters_of Tryz.func7 (by kernel_rfl) rfl _ _) hcon (fun w2 hb => hI.put ho (fun u hu => (Option.some.inj hu).symm) hb)
    | 38, _ =>
      simp only [List.getElem?_toArray, List.getElem?_cons_succ, List.getElem?_cons_zero, Option.some.injEq] at ho2
      subst ho2
      have s41 : a.tmps[41]? = some (.bool true) := hI.val 25 _ rfl (by decide) (hdep ⟨25, .guard⟩ (by simp) rfl)
      refine step_val (v := (.int .i64 (i : Int))) ho (by unfold Region.wanted; simp only; rw [yields6 (b := true) (by decide) s41]; rfl) ?_ (hI.put ho (fun u hu => (Option.some.inj hu).symm) (Below.refl _ _))
      simp [execOp, Act.eval, go_sem, s3]
    | 39, _ =>
      simp only [List.getElem?_toArray, List.getElem?_cons_succ, List.getElem?_cons_zero, Option.some.injEq] at ho2
      subst ho2
      have s41 : a.tmps[41]? = some (.bool true) := hI.val 25 _ rfl (by decide) (hdep ⟨25, .guard⟩ (by simp) rfl)
      have s53 : a.tmps[53]? = some (.int .i64 (i : Int)) := hI.val 37 _ rfl (by decide) (hdep ⟨37, .data⟩ (by simp) rfl)
      have s54 : a.tmps[54]? = some (.int .i64 (i : Int)) := hI.val 38 _ rfl (by decide) (hdep ⟨38, .data⟩ (by simp) rfl)
      refine step_val (v := (.bool false)) ho (by unfold Region.wanted; simp only; rw [yields6 (b := true) (by decide) s41]; rfl) ?_ (hI.put ho (fun u hu => (Option.some.inj hu).symm) (Below.refl _ _))
      simp [execOp, Act.eval, go_sem, s53, s54]
    | 40, _ =>
      simp only [List.getElem?_toArray, List.getElem?_cons_succ, List.getElem?_cons_zero, Option.some.injEq] at ho2
      subst ho2
      have s34 : a.tmps[34]? = some (.bool false) := hI.val 18 _ rfl (by decide) (hdep ⟨18, .guard⟩ (by simp) rfl)
      have s41 : a.tmps[41]? = some (.bool true) := hI.val 25 _ rfl (by decide) (hdep ⟨25, .data⟩ (by simp) rfl)
      have s55 : a.tmps[55]? = some (.bool false) := hI.val 39 _ rfl (by decide) (hdep ⟨39, .data⟩ (by simp) rfl)
      refine step_val (v := (.bool false)) ho (by unfold Region.wanted; simp only; rw [yields6 (b := false) (by decide) s34]; rfl) ?_ (hI.put ho (fun u hu => (Option.some.inj hu).symm) (Below.refl _ _))
      simp [execOp, Act.eval, go_sem, s41, s55]
    | 41, _ =>
      simp only [List.getElem?_toArray, List.getElem?_cons_succ, List.getElem?_cons_zero, Option.some.injEq] at ho2
      subst ho2
      have s34 : a.tmps[34]? = some (.bool false) := hI.val 18 _ rfl (by decide) (hdep ⟨18, .data⟩ (by simp) rfl)
      have s56 : a.tmps[56]? = some (.bool false) := hI.val 40 _ rfl (by decide) (hdep ⟨40, .data⟩ (by simp) rfl)
      refine step_val (v := (.bool false)) ho rfl ?_ (hI.put ho (fun u hu => (Option.some.inj hu).symm) (Below.refl _ _))
      simp [execOp, Act.eval, go_sem, s34, s56]
  · intro listed a w hls hI hall
    have h57 := hI.val 41 _ rfl (by decide) (hall 41 (by rw [ops6_size]; decide))
    have hb6 := behind6_eq hI.size hI.low h57
    have ha : a = { tmps := behind6 T0 (.bool false) fun j => a.tmps.getD j undef, defers := [] } := by
      obtain ⟨tm, df⟩ := a
      have h1 : df = [] := hI.nodef
      subst h1
      exact congrArg (fun t => ({ tmps := t, defers := [] } : Act)) hb6
    rw [ha]
    exact hQ _ w hI.below
end Go.Proofs.Np
