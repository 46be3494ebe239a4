/- A PART OF THE PROOF THAT ONE CALL OF A LAW OF LAYER 18 (of nodes that may be, each path leads there) returns true, whatever the input; the input reads as it did. No condition beyond the given statement. This part: RegInv. -/
import Derived.Orders
import Derived.Laws.Sem
import Derived.Laws.World
import Derived.Test.YtbnkcpbdpgjjbaaGreatDoorF4
namespace Go
variable {P : Program} {ops : Array Oper} {Q : Exit → Act → World → Prop}

/-- how many are left -/
def leftN (ops : Array Oper) (listed : Array Bool) : Nat := ((List.range ops.size).filter fun i => !listed.getD i true).length

theorem filter_less {p q : Nat → Bool} (hpq : ∀ x, q x = true → p x = true) {e : Nat} (hp : p e = true) (hq : q e = false) (hone : ∀ x, x ≠ e → q x = p x) : ∀ {l : List Nat}, l.Nodup → e ∈ l → (l.filter q).length + 1 = (l.filter p).length
  | x :: l, hn, he => by
    obtain ⟨hx, hn⟩ := List.nodup_cons.1 hn
    have same : ∀ {l : List Nat}, e ∉ l → l.filter q = l.filter p := fun {l} h => List.filter_congr fun y hy => hone y fun e' => h (e' ▸ hy)
    rcases List.mem_cons.1 he with rfl | he
    · rw [List.filter_cons, List.filter_cons, hp, hq, same hx]
      simp
    · have hxe : x ≠ e := fun e' => hx (e' ▸ he)
      have ih := filter_less hpq hp hq hone hn he
      rw [List.filter_cons, List.filter_cons, hone x hxe]
      split
      · simp only [List.length_cons]; omega
      · exact ih

theorem leftN_set {listed : Array Bool} {i : Nat} (hs : listed.size = ops.size) (hi : i < ops.size) (hl : listed.getD i true = false) : leftN ops (listed.setIfInBounds i true) + 1 = leftN ops listed := by
  unfold leftN
  refine filter_less (e := i) (fun x hx => ?_) (by simp [hl]) ?_ (fun x hx => ?_) List.nodup_range (List.mem_range.2 hi)
  · simp only [Array.getD_eq_getD_getElem?, Array.getElem?_setIfInBounds] at hx ⊢
    by_cases e : i = x
    · subst e; simp [hs, hi] at hx
    · rw [if_neg e] at hx; exact hx
  · simp [Array.getD_eq_getD_getElem?, hs, hi]
  · simp only [Array.getD_eq_getD_getElem?, Array.getElem?_setIfInBounds]
    rw [if_neg (fun e => hx e.symm)]

theorem mem_readyI {listed : Array Bool} {i : Nat} : i ∈ Region.ready .any ops listed ↔ ∃ o, ops[i]? = some o ∧ listed.getD i true = false ∧ ∀ e ∈ o.after.toList, Region.binds .any e = true → listed.getD e.on false = true := by
  unfold Region.ready
  rw [List.mem_filter, List.mem_range]
  constructor
  · rintro ⟨hi, h⟩
    simp only [Bool.and_eq_true, Bool.not_eq_true'] at h
    have ho : ops[i]? = some ops[i] := by simp [hi]
    rw [ho] at h
    simp only [Option.map_some, Option.getD_some, Array.all_eq_true'] at h
    refine ⟨_, ho, h.1, fun e he hb => ?_⟩
    have := h.2 e (by simpa using he)
    simpa [hb] using this
  · rintro ⟨o, ho, h1, h2⟩
    refine ⟨(Array.getElem?_eq_some_iff.1 ho).1, ?_⟩
    simp only [Bool.and_eq_true, Bool.not_eq_true']
    rw [ho]
    simp only [Option.map_some, Option.getD_some, Array.all_eq_true']
    refine ⟨h1, fun e he => ?_⟩
    cases hb : Region.binds .any e with
    | false => rfl
    | true => simpa using h2 e (by simpa using he) hb

/-- A REGION WHOSE ORDER IS OPEN, BY WHAT HOLDS WHATEVER WAS DONE SO FAR. -/
theorem wp_region_inv {id : Nat} {a : Act} {w : World} (hm : P.follows .mixedOrders = true) (hback : ∀ i o, ops[i]? = some o → ∀ e ∈ o.after.toList, Region.binds .any e = true → e.on < i)
    (I : Array Bool → Act → World → Prop) (h0 : I (Array.replicate ops.size false) a w.drew)
    (hstep : ∀ listed a w i o, listed.size = ops.size → I listed a w → ops[i]? = some o → listed.getD i true = false → (∀ e ∈ o.after.toList, Region.binds .any e = true → listed.getD e.on false = true) → wpOp P ops Q i (I (listed.setIfInBounds i true)) a w)
    (hend : ∀ listed a w, listed.size = ops.size → I listed a w → (∀ i, i < ops.size → listed.getD i false = true) → Q .normal a w) : (Code.region id ops true).wp P Q a w := by
  refine wp_region_any hm ?_
  have key : ∀ (fuel : Nat) (listed : Array Bool) (a : Act) (w : World), listed.size = ops.size → leftN ops listed = fuel → I listed a w → wpAny P .any ops Q fuel listed a w := by
    intro fuel
    induction fuel with
    | zero =>
      intro listed a w hs hl hI
      have hall : ∀ i, i < ops.size → listed.getD i true = true := fun i hi => by
        cases hq : listed.getD i true with
        | true => rfl
        | false =>
          have := leftN_set hs hi hq
          omega
      have hnil : Region.ready .any ops listed = [] := by
        rw [List.eq_nil_iff_forall_not_mem]
        intro i hi
        obtain ⟨o, ho, h1, _⟩ := mem_readyI.1 hi
        rw [hall i (Array.getElem?_eq_some_iff.1 ho).1] at h1
        cases h1
      refine ⟨hnil, hend listed a w hs hI fun i hi => ?_⟩
      have := hall i hi
      simp only [Array.getD_eq_getD_getElem?] at this ⊢
      rw [Array.getElem?_eq_getElem (by omega)] at this ⊢
      exact this
    | succ fuel ih =>
      intro listed a w hs hl hI
      refine ⟨fun hnil => ?_, fun i hi => ?_⟩
      · exfalso
        have hex : ∃ i, i < ops.size ∧ listed.getD i true = false := by
          cases hq : (List.range ops.size).filter (fun i => !listed.getD i true) with
          | nil => unfold leftN at hl; rw [hq] at hl; cases hl
          | cons x r =>
            have hx : x ∈ (List.range ops.size).filter (fun i => !listed.getD i true) := by rw [hq]; simp
            obtain ⟨h1, h2⟩ := List.mem_filter.1 hx
            exact ⟨x, List.mem_range.1 h1, by simpa using h2⟩
        have first : ∀ n, ∀ i, i ≤ n → i < ops.size → listed.getD i true = false → False := by
          intro n
          induction n with
          | zero =>
            intro i hi hlt hli
            obtain rfl : i = 0 := by omega
            have : 0 ∈ Region.ready .any ops listed := mem_readyI.2 ⟨ops[0], by simp [hlt], hli, fun e he hb => by
              have := hback 0 ops[0] (by simp [hlt]) e he hb
              omega⟩
            rw [hnil] at this; cases this
          | succ n ihn =>
            intro i hi hlt hli
            have : i ∈ Region.ready .any ops listed := mem_readyI.2 ⟨ops[i], by simp [hlt], hli, fun e he hb => by
              have hlt2 := hback i ops[i] (by simp [hlt]) e he hb
              cases hq : listed.getD e.on true with
              | false => exact (ihn e.on (by omega) (by omega) hq).elim
              | true =>
                simp only [Array.getD_eq_getD_getElem?] at hq ⊢
                rw [Array.getElem?_eq_getElem (by omega)] at hq ⊢
                exact hq⟩
            rw [hnil] at this; cases this
        obtain ⟨i, h1, h2⟩ := hex
        exact first i i (Nat.le_refl _) h1 h2
      · obtain ⟨o, ho, h1, h2⟩ := mem_readyI.1 hi
        have hlt := (Array.getElem?_eq_some_iff.1 ho).1
        refine wpOp_mono (fun a' w' h3 => ih (listed.setIfInBounds i true) a' w' (by simpa using hs) ?_ h3) (hstep listed a w i o hs hI ho h1 h2)
        have := leftN_set hs hlt h1
        omega
  refine key ops.size _ a _ (by simp) ?_ h0
  unfold leftN
  rw [List.filter_eq_self.2 fun i hi => ?_]
  · simp
  · have := List.mem_range.1 hi
    simp [Array.getD_eq_getD_getElem?, this]
end Go
namespace Go.Proofs.Np
open Go Go.Proofs Go.RowKit
set_option maxRecDepth 1000000

noncomputable def loopA : Code := match Tryz.f3.body with
  | some (.seq _ (.seq _ (.seq (.seq _ (.block _ (.loop c))) _))) => c
  | _ => .skip
noncomputable def reg6 : Code := match loopA with
  | .seq _ (.seq (.block _ (.seq r _)) _) => r
  | _ => .skip
noncomputable def ops6 : Array Oper := match reg6 with
  | .region _ ops _ => ops
  | _ => #[]
theorem reg6_eq : reg6 = .region 6 ops6 true := by kernel_rfl
theorem ops6_size : ops6.size = 42 := by kernel_rfl
noncomputable def opSane (j : Nat) : Bool := match ops6[j]? with
  | some o => (match o.dst with | some d => Nat.beq d (16 + j) | none => false) && o.after.toList.all fun e => !(Region.binds .any e) || Nat.blt e.on j
  | none => false
theorem ops6_sane : (List.range 42).all opSane = true := by kernel_rfl
theorem op6_at {j : Nat} {o : Oper} (h : ops6[j]? = some o) : j < 42 ∧ o.dst = some (16 + j) ∧ ∀ e ∈ o.after.toList, Region.binds .any e = true → e.on < j := by
  have hj : j < 42 := by rw [← ops6_size]; exact (Array.getElem?_eq_some_iff.1 h).1
  have hs := List.all_eq_true.1 ops6_sane j (List.mem_range.2 hj)
  unfold opSane at hs
  rw [h] at hs
  simp only [Bool.and_eq_true, List.all_eq_true] at hs
  obtain ⟨h1, h2⟩ := hs
  refine ⟨hj, ?_, fun e he hb => ?_⟩
  · split at h1
    · rename_i d hd
      have : d = 16 + j := Nat.eq_of_beq_eq_true h1
      rw [hd, this]
    · cases h1
  · have := h2 e he
    rw [hb] at this
    simpa using this

theorem yields6 {tmps : Array Value} {j : Nat} {b : Bool} (hj : j < 42) (h : tmps[16 + j]? = some (.bool b)) : yielded ops6 tmps j = some b := by
  obtain ⟨o, ho⟩ : ∃ o, ops6[j]? = some o := ⟨_, Array.getElem?_eq_getElem (by rw [ops6_size]; exact hj)⟩
  unfold yielded
  rw [ho]
  simp only [Option.bind_some, (op6_at ho).2.1, h]

theorem yields6n {tmps : Array Value} {j : Nat} (hj : j < 42) (h : tmps[16 + j]? = some undef) : yielded ops6 tmps j = none := by
  obtain ⟨o, ho⟩ : ∃ o, ops6[j]? = some o := ⟨_, Array.getElem?_eq_getElem (by rw [ops6_size]; exact hj)⟩
  unfold yielded
  rw [ho]
  simp only [Option.bind_some, (op6_at ho).2.1, h]
  rfl

/-- what holds in the region's midst -/
structure Inv6 (vals : Nat → Option Value) (T0 : Array Value) (w0 : World) (listed : Array Bool) (a : Act) (w : World) : Prop where
  nodef : a.defers = []
  below : Below w0.heap.size w0 w
  size : a.tmps.size = 82
  low : ∀ t, t < 16 ∨ 58 ≤ t → a.tmps[t]? = T0[t]?
  val : ∀ j v, vals j = some v → j < 42 → listed.getD j false = true → a.tmps[16 + j]? = some v

theorem Inv6.put {vals : Nat → Option Value} {T0 : Array Value} {w0 : World} {listed : Array Bool} {a : Act} {w w' : World} (h : Inv6 vals T0 w0 listed a w) {i : Nat} {v : Value} {o : Oper} (ho : ops6[i]? = some o)
    (hv : ∀ u, vals i = some u → u = v) (hb : Below w.heap.size w w') : Inv6 vals T0 w0 (listed.setIfInBounds i true) (a.put o.dst v) w' := by
  obtain ⟨hi, hd, _⟩ := op6_at ho
  rw [hd]
  have hp : (a.put (some (16 + i)) v).tmps = a.tmps.setIfInBounds (16 + i) v := rfl
  refine ⟨h.nodef, belowTrans h.below hb, by rw [hp]; simpa using h.size, fun t ht => ?_, fun j u hu hj hl => ?_⟩
  · rw [hp, Array.getElem?_setIfInBounds, if_neg (by omega)]
    exact h.low t ht
  · rw [hp, Array.getElem?_setIfInBounds]
    by_cases e : i = j
    · subst e
      rw [if_pos rfl, if_pos (by rw [h.size]; omega), hv u hu]
    · rw [if_neg (by omega)]
      refine h.val j u hu hj ?_
      simp only [Array.getD_eq_getD_getElem?, Array.getElem?_setIfInBounds] at hl ⊢
      rw [if_neg e] at hl
      exact hl

/-- the slots behind the region -/
def behind6 (T0 : Array Value) (v : Value) (u : Nat → Value) : Array Value := ((List.range 82).map fun j => bif Nat.blt j 16 || Nat.ble 58 j then T0.getD j undef else bif Nat.beq j 57 then v else u j).toArray
theorem behind6_eq {t T0 : Array Value} {v : Value} (hs : t.size = 82) (hl : ∀ j, j < 16 ∨ 58 ≤ j → t[j]? = T0[j]?) (h57 : t[57]? = some v) : t = behind6 T0 v fun j => t.getD j undef := by
  apply Array.ext_getElem?
  intro j
  unfold behind6
  by_cases hj : j < 82
  · conv => rhs; rw [List.getElem?_toArray, List.getElem?_map, List.getElem?_range hj]
    simp only [Option.map_some]
    have hget : t[j]? = some t[j] := Array.getElem?_eq_getElem (by omega)
    by_cases h1 : j < 16 ∨ 58 ≤ j
    · have hb : (Nat.blt j 16 || Nat.ble 58 j) = true := by
        rcases h1 with h1 | h1
        · simp [h1]
        · simp [h1]
      rw [hb, cond_true, Array.getD_eq_getD_getElem?, ← hl j h1, hget]
      rfl
    · have hb : (Nat.blt j 16 || Nat.ble 58 j) = false := by
        rw [Bool.eq_false_iff]
        intro h
        rw [Bool.or_eq_true] at h
        rcases h with h | h
        · exact h1 (.inl (by simpa using h))
        · exact h1 (.inr (by simpa using h))
      rw [hb, cond_false]
      by_cases h2 : j = 57
      · subst h2
        rw [h57]
        rfl
      · have h3 : Nat.beq j 57 = false := by
          cases hq : Nat.beq j 57 with
          | false => rfl
          | true => exact absurd (Nat.eq_of_beq_eq_true hq) h2
        rw [h3, cond_false, Array.getD_eq_getD_getElem?, hget]
        rfl
  · rw [Array.getElem?_eq_none (by omega), Array.getElem?_eq_none (by simp; omega)]
theorem behind6_lit {x0 x1 x2 x3 x4 x5 x6 x7 x8 x9 x10 x11 x12 x13 x14 x15 x16 x17 x18 x19 x20 x21 x22 x23 x24 x25 x26 x27 x28 x29 x30 x31 x32 x33 x34 x35 x36 x37 x38 x39 x40 x41 x42 x43 x44 x45 x46 x47 x48 x49 x50 x51 x52 x53 x54 x55 x56 x57 x58 x59 x60 x61 x62 x63 x64 x65 x66 x67 x68 x69 x70 x71 x72 x73 x74 x75 x76 x77 x78 x79 x80 x81 : Value} (v : Value) (u : Nat → Value) : behind6 #[x0, x1, x2, x3, x4, x5, x6, x7, x8, x9, x10, x11, x12, x13, x14, x15, x16, x17, x18, x19, x20, x21, x22, x23, x24, x25, x26, x27, x28, x29, x30, x31, x32, x33, x34, x35, x36, x37, x38, x39, x40, x41, x42, x43, x44, x45, x46, x47, x48, x49, x50, x51, x52, x53, x54, x55, x56, x57, x58, x59, x60, x61, x62, x63, x64, x65, x66, x67, x68, x69, x70, x71, x72, x73, x74, x75, x76, x77, x78, x79, x80, x81] v u = #[x0, x1, x2, x3, x4, x5, x6, x7, x8, x9, x10, x11, x12, x13, x14, x15, u 16, u 17, u 18, u 19, u 20, u 21, u 22, u 23, u 24, u 25, u 26, u 27, u 28, u 29, u 30, u 31, u 32, u 33, u 34, u 35, u 36, u 37, u 38, u 39, u 40, u 41, u 42, u 43, u 44, u 45, u 46, u 47, u 48, u 49, u 50, u 51, u 52, u 53, u 54, u 55, u 56, v, x58, x59, x60, x61, x62, x63, x64, x65, x66, x67, x68, x69, x70, x71, x72, x73, x74, x75, x76, x77, x78, x79, x80, x81] := by kernel_rfl

theorem step_val {ops : Array Oper} {i : Nat} {o : Oper} {a : Act} {w : World} {v : Value} {Q : Exit → Act → World → Prop} {K : Act → World → Prop} (ho : ops[i]? = some o) (hw : Region.wanted o (yielded ops a.tmps) = true) (hrun : (execOp a.eval o).run Tryz.prog w = .ok (.value v) w) (hK : K (a.put o.dst v) w) : wpOp Tryz.prog ops Q i K a w := by
  unfold wpOp
  rw [ho]
  simp only [hw, if_true]
  refine .inl ?_
  unfold Oper.wp
  rw [hrun]
  exact hK
theorem step_skip {ops : Array Oper} {i : Nat} {o : Oper} {a : Act} {w : World} {Q : Exit → Act → World → Prop} {K : Act → World → Prop} (ho : ops[i]? = some o) (hw : Region.wanted o (yielded ops a.tmps) = false) (hK : K (a.put o.dst undef) w) : wpOp Tryz.prog ops Q i K a w := by
  unfold wpOp
  rw [ho]
  simp only [hw, Bool.false_eq_true, if_false]
  exact hK
theorem step_call {ops : Array Oper} {i f : Nat} {o : Oper} {a : Act} {w : World} {v : Value} {args : Array Value} {Q : Exit → Act → World → Prop} {K : Act → World → Prop} (ho : ops[i]? = some o) (hw : Region.wanted o (yielded ops a.tmps) = true) (hrun : (execOp a.eval o).run Tryz.prog w = (callFunc f args).run Tryz.prog w)
    (he : (callFunc f args).run Tryz.prog w = .ok (.enter f args) w) (hc : Calls Tryz.prog f args w fun e w' => e = .returned v ∧ Below w.heap.size w w') (hK : ∀ w', Below w.heap.size w w' → K (a.put o.dst v) w') : wpOp Tryz.prog ops Q i K a w := by
  unfold wpOp
  rw [ho]
  simp only [hw, if_true]
  refine .inl ?_
  unfold Oper.wp
  rw [hrun, he, Oper.upon_enter]
  refine hc.mono fun e w' ⟨h1, h2⟩ => ?_
  subst h1
  exact hK w' h2
end Go.Proofs.Np
