/- A PART OF THE PROOF THAT SAVETEXTS HOLDS FOR EVERY INPUT OF BULK AT MOST 1048576. No condition beyond the given statement. This part: RegRG. -/
import Derived.Orders
import Derived.Laws.Sem
import Derived.Laws.World
import Derived.Tactics
namespace Go
variable {P : Program} {ops : Array Oper} {Q : Exit → Act → World → Prop}
def leftN (ops : Array Oper) (listed : Array Bool) : Nat := ((List.range ops.size).filter fun i => !listed.getD i true).length
theorem filter_less {p q : Nat → Bool} (hpq : ∀ x, q x = true → p x = true) {e : Nat} (hp : p e = true) (hq : q e = false) (hone : ∀ x, x ≠ e → q x = p x) : ∀ {l : List Nat}, l.Nodup → e ∈ l → (l.filter q).length + 1 = (l.filter p).length
 | x :: l, hn, he => by
  obtain ⟨hx, hn⟩ := List.nodup_cons.1 hn
  have same : ∀ {l : List Nat}, e ∉ l → l.filter q = l.filter p := fun {l} h => List.filter_congr fun y hy => hone y fun e' => h (e' ▸ hy)
  rcases List.mem_cons.1 he with rfl | he
  ·rw [List.filter_cons, List.filter_cons, hp, hq, same hx]
   simp
  ·have hxe : x ≠ e := fun e' => hx (e' ▸ he)
   have ih := filter_less hpq hp hq hone hn he
   rw [List.filter_cons, List.filter_cons, hone x hxe]
   split
   ·simp only [List.length_cons]; omega
   ·exact ih
theorem leftN_set {listed : Array Bool} {i : Nat} (hs : listed.size = ops.size) (hi : i < ops.size) (hl : listed.getD i true = false) : leftN ops (listed.setIfInBounds i true) + 1 = leftN ops listed := by
 unfold leftN
 refine filter_less (e := i) (fun x hx => ?_) (by simp [hl]) ?_ (fun x hx => ?_) List.nodup_range (List.mem_range.2 hi)
 ·simp only [Array.getD_eq_getD_getElem?, Array.getElem?_setIfInBounds] at hx ⊢
  by_cases e : i = x
  ·subst e; simp [hs, hi] at hx
  ·rw [if_neg e] at hx; exact hx
 ·simp [Array.getD_eq_getD_getElem?, hs, hi]
 ·simp only [Array.getD_eq_getD_getElem?, Array.getElem?_setIfInBounds]
  rw [if_neg (fun e => hx e.symm)]
theorem mem_readyI {listed : Array Bool} {i : Nat} : i ∈ Region.ready .any ops listed ↔ ∃ o, ops[i]? = some o ∧ listed.getD i true = false ∧ ∀ e ∈ o.after.toList, Region.binds .any e = true → listed.getD e.on false = true := by
 unfold Region.ready
 rw [List.mem_filter, List.mem_range]
 constructor
 ·rintro ⟨hi, h⟩
  simp only [Bool.and_eq_true, Bool.not_eq_true'] at h
  have ho : ops[i]? = some ops[i] := by simp [hi]
  rw [ho] at h
  simp only [Option.map_some, Option.getD_some, Array.all_eq_true'] at h
  refine ⟨_, ho, h.1, fun e he hb => ?_⟩
  have := h.2 e (by simpa using he)
  simpa [hb] using this
 ·rintro ⟨o, ho, h1, h2⟩
  refine ⟨(Array.getElem?_eq_some_iff.1 ho).1, ?_⟩
  simp only [Bool.and_eq_true, Bool.not_eq_true']
  rw [ho]
  simp only [Option.map_some, Option.getD_some, Array.all_eq_true']
  refine ⟨h1, fun e he => ?_⟩
  cases hb : Region.binds .any e with
  | false => rfl
  | true => simpa using h2 e (by simpa using he) hb
def dstOf (ops : Array Oper) (i : Nat) : Option Tmp := (ops[i]?).bind (·.dst)
def slOf (ops : Array Oper) (a : Act) (i : Nat) : Value := match dstOf ops i with
 | some d => a.tmps.getD d undef
 | none => undef
structure FrameOf (ops : Array Oper) (a0 a : Act) : Prop where
 defers : a.defers = a0.defers
 size : a.tmps.size = a0.tmps.size
 low : ∀ t, (∀ i, dstOf ops i ≠ some t) → a.tmps.getD t undef = a0.tmps.getD t undef
end Go
namespace Go
variable {P : Program} {ops : Array Oper} {Q : Exit → Act → World → Prop}
def reachOf (ops : Array Oper) : Nat → Nat → List Nat
 | 0, _ => []
 | f + 1, i => match ops[i]? with
  | none => []
  | some o => (o.after.toList.filter (Region.binds .any)).flatMap fun e => e.on :: reachOf ops f e.on
def forcedFrom (ops : Array Oper) (n f : Nat) : Bool := (List.range ops.size).all fun i => decide (i < n) || (List.range i).all fun j => (reachOf ops f i).contains j
def ClosedIn (ops : Array Oper) (L : Nat → Bool) : Prop := ∀ j o', ops[j]? = some o' → L j = true → ∀ e ∈ o'.after.toList, Region.binds .any e = true → L e.on = true
theorem reach_in {L : Nat → Bool} (hc : ClosedIn ops L) : ∀ (f i : Nat), (∀ o, ops[i]? = some o → ∀ e ∈ o.after.toList, Region.binds .any e = true → L e.on = true) → ∀ j ∈ reachOf ops f i, L j = true
 | 0, _, _, j, hj => by cases hj
 | f + 1, i, h, j, hj => by
  unfold reachOf at hj
  cases ho : ops[i]? with
  | none => rw [ho] at hj; cases hj
  | some o =>
   rw [ho] at hj
   obtain ⟨e, he, hj⟩ := List.mem_flatMap.1 hj
   obtain ⟨he1, he2⟩ := List.mem_filter.1 he
   have hLe := h o ho e he1 he2
   rcases List.mem_cons.1 hj with rfl | hj
   ·exact hLe
   ·exact reach_in hc f e.on (fun o' ho' e' he' hb' => hc e.on o' ho' hLe e' he' hb') j hj
theorem forced_in {L : Nat → Bool} {n f : Nat} (hF : forcedFrom ops n f = true) (hc : ClosedIn ops L) {i : Nat} (hn : n ≤ i) (hi : i < ops.size) (h : ∀ o, ops[i]? = some o → ∀ e ∈ o.after.toList, Region.binds .any e = true → L e.on = true) : ∀ j, j < i → L j = true := by
 intro j hj
 unfold forcedFrom at hF
 have h1 := List.all_eq_true.1 hF i (List.mem_range.2 hi)
 rw [decide_eq_false (by omega), Bool.false_or] at h1
 have h2 := List.all_eq_true.1 h1 j (List.mem_range.2 hj)
 exact reach_in hc f i h j (by simpa using h2)
theorem getD_true {listed : Array Bool} {i : Nat} (h : i < listed.size) : listed.getD i true = listed.getD i false := by
 simp only [Array.getD_eq_getD_getElem?]
 rw [Array.getElem?_eq_getElem h]
 rfl
theorem wpAny_tail {n f : Nat} (hback : ∀ i o, ops[i]? = some o → ∀ e ∈ o.after.toList, Region.binds .any e = true → e.on < i) (hF : forcedFrom ops n f = true) : ∀ (fuel k : Nat) (listed : Array Bool) (a : Act) (w : World), n ≤ k → k + fuel = ops.size → listed.size = ops.size → (∀ i, i < ops.size → listed.getD i false = decide (i < k)) →
  wpList P ops Q (ops.toList.drop k) a w → wpAny P .any ops Q fuel listed a w := by
 intro fuel
 induction fuel with
 | zero =>
  intro k listed a w hk hs hl hd h
  have hnil : Region.ready .any ops listed = [] := by
   rw [List.eq_nil_iff_forall_not_mem]
   intro i hi
   obtain ⟨o, ho, h1, _⟩ := mem_readyI.1 hi
   have hlt := (Array.getElem?_eq_some_iff.1 ho).1
   rw [getD_true (by omega), hd i hlt, decide_eq_true (by omega)] at h1
   cases h1
  refine ⟨hnil, ?_⟩
  rw [List.drop_of_length_le (by simp; omega)] at h
  exact h
 | succ fuel ih =>
  intro k listed a w hk hs hl hd h
  have hkl : k < ops.size := by omega
  have hok : ops[k]? = some ops[k] := by simp [hkl]
  refine ⟨fun hnil => ?_, fun i hi => ?_⟩
  ·exfalso
   have : k ∈ Region.ready .any ops listed := mem_readyI.2 ⟨ops[k], hok, by rw [getD_true (by omega), hd k hkl]; simp, fun e he hb => by
    have h1 := hback k _ hok e he hb
    rw [hd e.on (by omega), decide_eq_true h1]⟩
   rw [hnil] at this; cases this
  ·obtain ⟨o, ho, h1, h2⟩ := mem_readyI.1 hi
   have hlt := (Array.getElem?_eq_some_iff.1 ho).1
   have hge : k ≤ i := by
    rw [getD_true (by omega), hd i hlt] at h1
    simpa using h1
   have hik : i = k := by
    rcases Nat.lt_or_ge k i with hlt2 | hge2
    ·exfalso
     have hc : ClosedIn ops (fun j => listed.getD j false) := fun j o' ho' hj e he hb => by
      have hjl := (Array.getElem?_eq_some_iff.1 ho').1
      have hjk : j < k := by
       have : listed.getD j false = true := hj
       rw [hd j hjl] at this
       simpa using this
      have := hback j o' ho' e he hb
      show listed.getD e.on false = true
      rw [hd e.on (by omega), decide_eq_true (by omega)]
     have := forced_in hF hc (Nat.le_trans hk hge) hlt (fun o' ho' e he hb => by
      rw [ho] at ho'
      obtain rfl := Option.some.inj ho'
      exact h2 e he hb) k hlt2
     have h3 : listed.getD k false = true := this
     rw [hd k hkl] at h3
     simp at h3
    ·omega
   subst hik
   have hdrop : ops.toList.drop i = ops[i] :: ops.toList.drop (i + 1) := by
    rw [List.drop_eq_getElem_cons (by simpa using hkl)]
    simp
   rw [hdrop] at h
   have hnext : ∀ a' w', wpList P ops Q (ops.toList.drop (i + 1)) a' w' → wpAny P .any ops Q fuel (listed.setIfInBounds i true) a' w' := fun a' w' hw => by
    refine ih (i + 1) _ a' w' (by omega) (by omega) (by simpa using hl) (fun j hj => ?_) hw
    simp only [Array.getD_eq_getD_getElem?, Array.getElem?_setIfInBounds]
    by_cases e : i = j
    ·subst e; simp [hl, hlt]
    ·rw [if_neg e]
     have := hd j hj
     simp only [Array.getD_eq_getD_getElem?] at this
     rw [this]
     by_cases h : j < i
     ·rw [decide_eq_true h, decide_eq_true (by omega)]
     ·rw [decide_eq_false h, decide_eq_false (by omega)]
   unfold wpOp
   rw [hok]
   unfold wpList at h
   simp only at h ⊢
   split
   ·rename_i hw
    rw [if_pos hw] at h
    rcases h with h | h
    ·exact .inl (Oper.wp_mono hnext h)
    ·exact .inr h
   ·rename_i hw
    rw [if_neg hw] at h
    exact hnext _ _ h
theorem wp_region_invt {id n f : Nat} {a : Act} {w : World} (hm : P.follows .mixedOrders = true) (hn : n ≤ ops.size) (hback : ∀ i o, ops[i]? = some o → ∀ e ∈ o.after.toList, Region.binds .any e = true → e.on < i) (hF : forcedFrom ops n f = true)
  (I : Array Bool → Act → World → Prop) (h0 : I (Array.replicate ops.size false) a w.drew)
  (hstep : ∀ listed a w i o, listed.size = ops.size → I listed a w → i < n → ops[i]? = some o → listed.getD i true = false → ClosedIn ops (fun j => listed.getD j false) → (∀ e ∈ o.after.toList, Region.binds .any e = true → listed.getD e.on false = true) → wpOp P ops Q i (I (listed.setIfInBounds i true)) a w)
  (hend : ∀ listed a w, listed.size = ops.size → I listed a w → (∀ i, i < ops.size → listed.getD i false = decide (i < n)) → wpList P ops Q (ops.toList.drop n) a w) : (Code.region id ops true).wp P Q a w := by
 refine wp_region_any hm ?_
 have key : ∀ (fuel : Nat) (listed : Array Bool) (a : Act) (w : World), listed.size = ops.size → leftN ops listed = fuel → I listed a w → ClosedIn ops (fun j => listed.getD j false) → (∀ i, n ≤ i → listed.getD i false = false) → wpAny P .any ops Q fuel listed a w := by
  intro fuel
  induction fuel with
  | zero =>
   intro listed a w hs hl hI hC hN
   have hall : ∀ i, i < ops.size → listed.getD i true = true := fun i hi => by
    cases hq : listed.getD i true with
    | true => rfl
    | false =>
     have := leftN_set hs hi hq
     omega
   have hns : n = ops.size := by
    rcases Nat.lt_or_ge n ops.size with h | h
    ·have h1 := hall n h
     rw [getD_true (by omega), hN n (Nat.le_refl _)] at h1
     cases h1
    ·omega
   refine wpAny_tail hback hF 0 ops.size listed a w (by omega) rfl hs (fun i hi => ?_) ?_
   ·have h1 := hall i hi
    rw [getD_true (by omega)] at h1
    rw [h1, decide_eq_true hi]
   ·have := hend listed a w hs hI (fun i hi => by
     have h1 := hall i hi
     rw [getD_true (by omega)] at h1
     rw [h1, decide_eq_true (by omega)])
    rw [hns] at this
    exact this
  | succ fuel ih =>
   intro listed a w hs hl hI hC hN
   by_cases hfull : ∀ i, i < n → listed.getD i false = true
   ·have hd : ∀ i, i < ops.size → listed.getD i false = decide (i < n) := fun i hi => by
     by_cases h : i < n
     ·rw [hfull i h, decide_eq_true h]
     ·rw [hN i (by omega), decide_eq_false h]
    have hleft : n + leftN ops listed = ops.size := by
     unfold leftN
     have e : (List.range ops.size).filter (fun i => !listed.getD i true) = (List.range ops.size).filter (fun i => decide (n ≤ i)) := by
      refine List.filter_congr fun i hi => ?_
      have hi := List.mem_range.1 hi
      rw [getD_true (by omega), hd i hi]
      by_cases h : i < n
      ·rw [decide_eq_true h, decide_eq_false (by omega)]; rfl
      ·rw [decide_eq_false h, decide_eq_true (by omega)]; rfl
     rw [e]
     obtain ⟨k, hk⟩ : ∃ k, ops.size = n + k := ⟨ops.size - n, by omega⟩
     rw [hk, List.range_add, List.filter_append, List.filter_eq_nil_iff.2, List.filter_eq_self.2]
     ·simp
     ·intro x hx
      obtain ⟨y, _, rfl⟩ := List.mem_map.1 hx
      simp
     ·intro x hx
      have := List.mem_range.1 hx
      simp; omega
    exact wpAny_tail hback hF (fuel + 1) n listed a w (Nat.le_refl _) (by omega) hs hd (hend listed a w hs hI hd)
   ·obtain ⟨m, hm⟩ : ∃ m, ¬ (m < n → listed.getD m false = true) := Classical.not_forall.1 hfull
    have hm1 : m < n := Classical.byContradiction fun h => hm (fun h' => absurd h' h)
    have hm2 : listed.getD m false = false := by
     cases h : listed.getD m false with
     | false => rfl
     | true => exact absurd (fun _ => h) hm
    refine ⟨fun hnil => ?_, fun i hi => ?_⟩
    ·exfalso
     have first : ∀ k, ∀ i, i ≤ k → i < n → listed.getD i false = false → False := by
      intro k
      induction k with
      | zero =>
       intro i hi hlt hli
       obtain rfl : i = 0 := by omega
       have : 0 ∈ Region.ready .any ops listed := mem_readyI.2 ⟨ops[0], by first | (simp; done) | (simp; omega), by rw [getD_true (by omega)]; exact hli, fun e he hb => by
        have := hback 0 _ (Array.getElem?_eq_getElem (by omega)) e he hb
        omega⟩
       rw [hnil] at this; cases this
      | succ k ihk =>
       intro i hi hlt hli
       have : i ∈ Region.ready .any ops listed := mem_readyI.2 ⟨ops[i], by first | (simp; done) | (simp; omega), by rw [getD_true (by omega)]; exact hli, fun e he hb => by
        have hlt2 := hback i _ (Array.getElem?_eq_getElem (by omega)) e he hb
        cases hq : listed.getD e.on false with
        | false => exact (ihk e.on (by omega) (by omega) hq).elim
        | true => rfl⟩
       rw [hnil] at this; cases this
     exact first m m (Nat.le_refl _) hm1 hm2
    ·obtain ⟨o, ho, h1, h2⟩ := mem_readyI.1 hi
     have hlt := (Array.getElem?_eq_some_iff.1 ho).1
     have hin : i < n := by
      rcases Nat.lt_or_ge i n with h | h
      ·exact h
      ·exfalso
       have := forced_in hF hC h hlt (fun o' ho' e he hb => by
        rw [ho] at ho'
        obtain rfl := Option.some.inj ho'
        exact h2 e he hb) m (by omega)
       rw [hm2] at this
       cases this
     refine wpOp_mono (fun a' w' h3 => ih (listed.setIfInBounds i true) a' w' (by simpa using hs) ?_ h3 ?_ ?_) (hstep listed a w i o hs hI hin ho h1 hC h2)
     ·have := leftN_set hs hlt h1
      omega
     ·have hset : ∀ j, (listed.setIfInBounds i true).getD j false = if j = i then true else listed.getD j false := fun j => by
       simp only [Array.getD_eq_getD_getElem?, Array.getElem?_setIfInBounds]
       by_cases e : i = j
       ·subst e; simp [hs, hlt]
       ·rw [if_neg e, if_neg (fun h => e h.symm)]
      intro j o' ho' hj e he hb
      simp only [hset] at hj ⊢
      by_cases hji : j = i
      ·subst hji
       rw [ho] at ho'
       obtain rfl := Option.some.inj ho'
       rw [h2 e he hb]
       split <;> rfl
      ·rw [if_neg hji] at hj
       have h4 : listed.getD e.on false = true := hC j o' ho' hj e he hb
       rw [h4]
       split <;> rfl
     ·intro j hj
      have := hN j hj
      simp only [Array.getD_eq_getD_getElem?, Array.getElem?_setIfInBounds] at this ⊢
      rw [if_neg (by omega)]
      exact this
 have hf : ∀ j, (Array.replicate ops.size false).getD j false = false := fun j => by
  simp only [Array.getD_eq_getD_getElem?, Array.getElem?_replicate]
  split <;> rfl
 refine key ops.size _ a _ (by simp) ?_ h0 (fun j o' _ hj => ?_) (fun i _ => hf i)
 ·unfold leftN
  rw [List.filter_eq_self.2 fun i hi => ?_]
  ·simp
  ·have := List.mem_range.1 hi
   simp [Array.getD_eq_getD_getElem?, this]
 ·simp only [hf j] at hj
  cases hj
section
variable {o : Oper} {a a0 : Act} {w w' : World} {K : Act → World → Prop}
theorem rg_val {v : Value} (h : (execOp a.eval o).run P w = .ok (.value v) w') (hk : K (a.put o.dst v) w') : o.wp P a w K Q := by
 unfold Oper.wp
 rw [h]
 exact hk
theorem rg_enter {f : FuncId} {args : Array Value} {R : Ending → World → Prop} (h : (execOp a.eval o).run P w = .ok (.enter f args) w') (hc : Calls P f args w' R) (hk : ∀ v w'', R (.returned v) w'' → K (a.put o.dst v) w'')
  (hp : ∀ chain w'', R (.panicked chain) w'' → Q (.panic chain) a w'') (ho : ∀ w'', R .outgrown w'' → LetsOut Q) : o.wp P a w K Q := by
 unfold Oper.wp
 rw [h, Oper.upon_enter]
 refine hc.mono fun e w'' he => ?_
 cases e with
 | returned v => exact hk v w'' he
 | panicked chain => exact hp chain w'' he
 | outgrown => exact ho w'' he
def notDst (ops : Array Oper) (t : Tmp) : Bool := (List.range ops.size).all fun i => !(dstOf ops i == some t)
theorem notDst_all {t : Tmp} (h : notDst ops t = true) : ∀ i, dstOf ops i ≠ some t := fun i hi => by
 unfold notDst at h
 have hlt : i < ops.size := by
  cases ho : ops[i]? with
  | none => unfold dstOf at hi; rw [ho] at hi; cases hi
  | some o => exact (Array.getElem?_eq_some_iff.1 ho).1
 have := List.all_eq_true.1 h i (List.mem_range.2 hlt)
 rw [hi] at this
 simp at this
theorem FrameOf.at (hF : FrameOf ops a0 a) {t : Tmp} {v : Value} (h : notDst ops t = true) (hv : a0.tmps[t]? = some v) : a.tmps[t]? = some v := by
 have ht := (Array.getElem?_eq_some_iff.1 hv).1
 have := hF.low t (notDst_all h)
 simp only [Array.getD_eq_getD_getElem?, hv] at this
 rw [Array.getElem?_eq_getElem (by rw [hF.size]; exact ht)] at this ⊢
 exact congrArg some this
theorem FrameOf.slot (hF : FrameOf ops a0 a) {i : Nat} {d : Tmp} {v : Value} (hd : dstOf ops i = some d) (hs : d < a0.tmps.size) (hv : slOf ops a i = v) : a.tmps[d]? = some v := by
 unfold slOf at hv
 rw [hd] at hv
 simp only [Array.getD_eq_getD_getElem?] at hv
 rw [Array.getElem?_eq_getElem (by rw [hF.size]; exact hs)] at hv ⊢
 exact congrArg some hv
end
def relaid (v : Tmp → Value) (ds : List Tmp) (t : Array Value) : Array Value := ds.foldl (fun t d => t.setIfInBounds d (v d)) t
theorem relaid_size (v : Tmp → Value) : ∀ (ds : List Tmp) (t : Array Value), (relaid v ds t).size = t.size
 | [], _ => rfl
 | d :: r, t => by
  show (relaid v r (t.setIfInBounds d (v d))).size = _
  rw [relaid_size v r]
  simp
theorem relaid_get (v : Tmp → Value) : ∀ (ds : List Tmp) (t : Array Value) (i : Nat), i < t.size → (relaid v ds t)[i]? = if i ∈ ds then some (v i) else t[i]?
 | [], _, _, _ => by simp [relaid]
 | d :: r, t, i, hi => by
  show (relaid v r (t.setIfInBounds d (v d)))[i]? = _
  rw [relaid_get v r _ i (by simpa using hi)]
  by_cases hr : i ∈ r
  ·rw [if_pos hr, if_pos (List.mem_cons_of_mem _ hr)]
  ·rw [if_neg hr]
   by_cases e : d = i
   ·subst e
    simp [hi]
   ·rw [if_neg (by simp only [List.mem_cons, not_or]; exact ⟨fun h => e h.symm, hr⟩)]
    simp [e]
theorem FrameOf.lit {a a0 : Act} (hF : FrameOf ops a0 a) (ds : List Tmp) (hds : (List.range ops.size).filterMap (dstOf ops) = ds) : a = { tmps := relaid (fun d => a.tmps.getD d undef) ds a0.tmps, defers := a0.defers } := by
 have h : a.tmps = relaid (fun d => a.tmps.getD d undef) ds a0.tmps := by
  apply Array.ext
  ·rw [relaid_size, hF.size]
  ·intro i h1 h2
   have h0 : i < a0.tmps.size := by rw [← hF.size]; exact h1
   have h3 := relaid_get (fun d => a.tmps.getD d undef) ds a0.tmps i h0
   rw [Array.getElem?_eq_getElem h2] at h3
   by_cases hm : i ∈ ds
   ·rw [if_pos hm] at h3
    rw [Option.some.inj h3]
    simp [Array.getD_eq_getD_getElem?, h1]
   ·rw [if_neg hm] at h3
    have hn : ∀ j, dstOf ops j ≠ some i := fun j hj => hm (by
     rw [← hds]
     refine List.mem_filterMap.2 ⟨j, List.mem_range.2 ?_, hj⟩
     unfold dstOf at hj
     cases ho : ops[j]? with
     | none => rw [ho] at hj; cases hj
     | some o => exact (Array.getElem?_eq_some_iff.1 ho).1)
    have := hF.low i hn
    simp only [Array.getD_eq_getD_getElem?] at this
    rw [Array.getElem?_eq_getElem h1, Array.getElem?_eq_getElem h0] at this
    rw [Array.getElem?_eq_getElem h0] at h3
    rw [Option.some.inj h3]
    exact this
 cases a
 have hd := hF.defers
 simp only at hd h
 rw [← h, hd]
end Go
namespace Go
variable {P : Program} {ops : Array Oper} {Q : Exit → Act → World → Prop}
def upd (L : Nat → Bool) (i j : Nat) : Bool := if j = i then true else L j
theorem wp_region_rgd {id : Nat} (n f : Nat) {a0 : Act} {w0 : World} (hm : P.follows .mixedOrders = true) (hn : n ≤ ops.size) (hback : ∀ i o, ops[i]? = some o → ∀ e ∈ o.after.toList, Region.binds .any e = true → e.on < i)
  (hF : forcedFrom ops n f = true) (hdst : ∀ i j d, dstOf ops i = some d → dstOf ops j = some d → i = j) (hdl : ∀ i d, dstOf ops i = some d → d < a0.tmps.size)
  (V : (Nat → Bool) → Nat → Value → World → Prop) (J : World → Prop)
  (h0 : J w0.drew)
  (hstep : ∀ (i : Nat) (o : Oper), i < n → ops[i]? = some o → ∀ (L : Nat → Bool) a w, L i = false → (∀ e ∈ o.after.toList, Region.binds .any e = true → L e.on = true) →
   FrameOf ops a0 a → J w → (∀ j, L j = true → V L j (slOf ops a j) w) → Region.wanted o (yielded ops a.tmps) = true ∧ ∀ K : Act → World → Prop, (∀ v w', (∀ j u, L j = true → V L j u w → V (upd L i) j u w') → V (upd L i) i (if o.dst.isSome then v else undef) w' → J w' → K (a.put o.dst v) w') → o.wp P a w K Q)
  (hend : ∀ a w, FrameOf ops a0 a → J w → (∀ j, j < n → V (fun j => decide (j < n)) j (slOf ops a j) w) → wpList P ops Q (ops.toList.drop n) a w) : (Code.region id ops true).wp P Q a0 w0 := by
 have hset : ∀ (listed : Array Bool) (i : Nat), listed.size = ops.size → i < ops.size → ∀ j, (listed.setIfInBounds i true).getD j false = if j = i then true else listed.getD j false := fun listed i hs hi j => by
  simp only [Array.getD_eq_getD_getElem?, Array.getElem?_setIfInBounds]
  by_cases e : i = j
  ·subst e; simp [hs, hi]
  ·rw [if_neg e, if_neg (fun h => e h.symm)]
 refine wp_region_invt hm hn hback hF (fun listed a w => FrameOf ops a0 a ∧ J w ∧ (∀ j, listed.getD j false = true → V (fun j => listed.getD j false) j (slOf ops a j) w)) ?_ ?_ ?_
 ·refine ⟨⟨rfl, rfl, fun _ _ => rfl⟩, h0, fun j hj => ?_⟩
  have hf : (Array.replicate ops.size false).getD j false = false := by
   simp only [Array.getD_eq_getD_getElem?, Array.getElem?_replicate]
   split <;> rfl
  rw [hf] at hj; cases hj
 ·rintro listed a w i o hs ⟨hFr, hJ, hV⟩ hin ho hl hC hd
  have hi := (Array.getElem?_eq_some_iff.1 ho).1
  have hlf : listed.getD i false = false := by rw [← getD_true (by omega)]; exact hl
  unfold wpOp
  rw [ho]
  obtain ⟨hw, hst⟩ := hstep i o hin ho (fun j => listed.getD j false) a w hlf hd hFr hJ hV
  simp only [hw, if_true]
  have hL : (fun j => (listed.setIfInBounds i true).getD j false) = upd (fun j => listed.getD j false) i := funext fun j => by
   rw [hset listed i hs hi j]
   rfl
  refine .inl (hst _ fun v w' hR hVi hJ' => ?_)
  have hdi : dstOf ops i = o.dst := by unfold dstOf; rw [ho]; rfl
  have hput : ∀ j, j ≠ i → slOf ops (a.put o.dst v) j = slOf ops a j := fun j hj => by
   unfold slOf
   cases hdj : dstOf ops j with
   | none => rfl
   | some d =>
    cases hod : o.dst with
    | none => rfl
    | some e =>
     show (a.tmps.setIfInBounds e v).getD d undef = _
     have hne : e ≠ d := fun h => hj (hdst j i d hdj (by rw [hdi, hod, h]))
     simp [Array.getD_eq_getD_getElem?, hne]
  have hputi : slOf ops (a.put o.dst v) i = if o.dst.isSome then v else undef := by
   unfold slOf
   rw [hdi]
   cases hod : o.dst with
   | none => rfl
   | some e =>
    show (a.tmps.setIfInBounds e v).getD e undef = v
    have hlt : e < a.tmps.size := by rw [hFr.size]; exact hdl i e (by rw [hdi, hod])
    simp [Array.getD_eq_getD_getElem?, hlt]
  refine ⟨⟨?_, ?_, fun t ht => ?_⟩, hJ', fun j hj => ?_⟩
  ·rw [← hFr.defers]; cases o.dst <;> rfl
  ·rw [← hFr.size]
   cases o.dst with
   | none => rfl
   | some e => show (a.tmps.setIfInBounds e v).size = _; simp
  ·rw [← hFr.low t ht]
   cases hod : o.dst with
   | none => rfl
   | some e =>
    show (a.tmps.setIfInBounds e v).getD t undef = _
    have hne : e ≠ t := fun h => ht i (by rw [hdi, hod, h])
    simp [Array.getD_eq_getD_getElem?, hne]
  ·rw [hL]
   by_cases hji : j = i
   ·subst hji; rw [hputi]; exact hVi
   ·rw [hput j hji]
    rw [hset listed i hs hi j, if_neg hji] at hj
    exact hR j _ hj (hV j hj)
 ·rintro listed a w hs ⟨hFr, hJ, hV⟩ hall
  have hL : (fun j => listed.getD j false) = fun j => decide (j < n) := funext fun j => by
   by_cases h : j < ops.size
   ·exact hall j h
   ·rw [decide_eq_false (by omega)]
    simp only [Array.getD_eq_getD_getElem?]
    rw [Array.getElem?_eq_none (by omega)]
    rfl
  rw [hL] at hV
  exact hend a w hFr hJ fun j hj => hV j (by rw [hall j (by omega), decide_eq_true hj])
def opsOkG (ops : Array Oper) (n size : Nat) : Bool :=
 decide (n ≤ ops.size) &&
 ((List.range ops.size).all fun i => match ops[i]? with
  | some o => (o.after.toList.all fun e => !Region.binds .any e || decide (e.on < i)) && (match o.dst with | some d => decide (d < size) | none => true)
  | none => true) &&
 ((List.range ops.size).all fun i => (List.range ops.size).all fun j => match dstOf ops i, dstOf ops j with
  | some d, some e => decide (d ≠ e) || decide (i = j)
  | _, _ => true)
theorem opsOkG_facts {n size : Nat} (h : opsOkG ops n size = true) : n ≤ ops.size ∧ (∀ i o, ops[i]? = some o → ∀ e ∈ o.after.toList, Region.binds .any e = true → e.on < i) ∧ (∀ i j d, dstOf ops i = some d → dstOf ops j = some d → i = j) ∧ (∀ i d, dstOf ops i = some d → d < size) := by
 unfold opsOkG at h
 simp only [Bool.and_eq_true] at h
 obtain ⟨⟨h0, h1⟩, h2⟩ := h
 have hd : ∀ i d, dstOf ops i = some d → ∃ o, ops[i]? = some o ∧ o.dst = some d := fun i d h => by
  unfold dstOf at h
  cases ho : ops[i]? with
  | none => rw [ho] at h; cases h
  | some o => rw [ho] at h; exact ⟨o, rfl, h⟩
 have h1' : ∀ (i : Nat) (o : Oper), ops[i]? = some o → (o.after.toList.all fun e => !Region.binds .any e || decide (e.on < i)) = true ∧ (match o.dst with | some d => decide (d < size) | none => true) = true := fun i o ho => by
  have := List.all_eq_true.1 h1 i (List.mem_range.2 (Array.getElem?_eq_some_iff.1 ho).1)
  rw [ho] at this
  simp only [Bool.and_eq_true] at this
  exact this
 refine ⟨of_decide_eq_true h0, fun i o ho e he hb => ?_, fun i j d hi hj => ?_, fun i d hi => ?_⟩
 ·have := List.all_eq_true.1 (h1' i o ho).1 e he
  rw [hb] at this
  simpa using this
 ·obtain ⟨o, ho, _⟩ := hd i d hi
  obtain ⟨o', ho', _⟩ := hd j d hj
  have := List.all_eq_true.1 (List.all_eq_true.1 h2 i (List.mem_range.2 (Array.getElem?_eq_some_iff.1 ho).1)) j (List.mem_range.2 (Array.getElem?_eq_some_iff.1 ho').1)
  rw [hi, hj] at this
  simpa using this
 ·obtain ⟨o, ho, hod⟩ := hd i d hi
  have := (h1' i o ho).2
  rw [hod] at this
  simpa using this
theorem wp_region_gd {id : Nat} (n f size : Nat) {a0 : Act} {w0 : World} (hm : P.follows .mixedOrders = true) (hok : opsOkG ops n size = true) (hF : forcedFrom ops n f = true) (hsz : a0.tmps.size = size)
  (V : (Nat → Bool) → Nat → Value → World → Prop) (J : World → Prop) (h0 : J w0.drew)
  (hstep : ∀ (i : Nat) (o : Oper), i < n → ops[i]? = some o → ∀ (L : Nat → Bool) a w, L i = false → (∀ e ∈ o.after.toList, Region.binds .any e = true → L e.on = true) →
   FrameOf ops a0 a → J w → (∀ j, L j = true → V L j (slOf ops a j) w) → Region.wanted o (yielded ops a.tmps) = true ∧ ∀ K : Act → World → Prop, (∀ v w', (∀ j u, L j = true → V L j u w → V (upd L i) j u w') → V (upd L i) i (if o.dst.isSome then v else undef) w' → J w' → K (a.put o.dst v) w') → o.wp P a w K Q)
  (hend : ∀ a w, FrameOf ops a0 a → J w → (∀ j, j < n → V (fun j => decide (j < n)) j (slOf ops a j) w) → wpList P ops Q (ops.toList.drop n) a w) : (Code.region id ops true).wp P Q a0 w0 := by
 obtain ⟨h1, h2, h3, h4⟩ := opsOkG_facts hok
 exact wp_region_rgd n f hm h1 h2 hF h3 (by rw [hsz]; exact h4) V J h0 hstep hend
theorem wanted_none {o : Oper} {y : Nat → Option Bool} (h : o.guard = none) : Region.wanted o y = true := by unfold Region.wanted; rw [h]
end Go
namespace Go
variable {P : Program} {ops : Array Oper} {Q : Exit → Act → World → Prop}
structure FrameN (ops : Array Oper) (n : Nat) (a0 a : Act) : Prop where
 defers : a.defers = a0.defers
 size : a.tmps.size = a0.tmps.size
 low : ∀ t, (∀ i, i < n → dstOf ops i ≠ some t) → a.tmps.getD t undef = a0.tmps.getD t undef
def notDstN (ops : Array Oper) (n : Nat) (t : Tmp) : Bool := (List.range n).all fun i => !(dstOf ops i == some t)
theorem notDstN_all {n : Nat} {t : Tmp} (h : notDstN ops n t = true) : ∀ i, i < n → dstOf ops i ≠ some t := fun i hn hi => by
 unfold notDstN at h
 have := List.all_eq_true.1 h i (List.mem_range.2 hn)
 rw [hi] at this
 simp at this
theorem FrameN.at {n : Nat} {a0 a : Act} (hF : FrameN ops n a0 a) {t : Tmp} {v : Value} (h : notDstN ops n t = true) (hv : a0.tmps[t]? = some v) : a.tmps[t]? = some v := by
 have ht := (Array.getElem?_eq_some_iff.1 hv).1
 have := hF.low t (notDstN_all h)
 simp only [Array.getD_eq_getD_getElem?, hv] at this
 rw [Array.getElem?_eq_getElem (by rw [hF.size]; exact ht)] at this ⊢
 exact congrArg some this
theorem FrameN.slot {n : Nat} {a0 a : Act} (hF : FrameN ops n a0 a) {i : Nat} {d : Tmp} {v : Value} (hd : dstOf ops i = some d) (hs : d < a0.tmps.size) (hv : slOf ops a i = v) : a.tmps[d]? = some v := by
 unfold slOf at hv
 rw [hd] at hv
 simp only [Array.getD_eq_getD_getElem?] at hv
 rw [Array.getElem?_eq_getElem (by rw [hF.size]; exact hs)] at hv ⊢
 exact congrArg some hv
theorem FrameN.lit {n : Nat} {a a0 : Act} (hF : FrameN ops n a0 a) (ds : List Tmp) (hds : (List.range n).filterMap (dstOf ops) = ds) : a = { tmps := relaid (fun d => a.tmps.getD d undef) ds a0.tmps, defers := a0.defers } := by
 have h : a.tmps = relaid (fun d => a.tmps.getD d undef) ds a0.tmps := by
  apply Array.ext
  ·rw [relaid_size, hF.size]
  ·intro i h1 h2
   have h0 : i < a0.tmps.size := by rw [← hF.size]; exact h1
   have h3 := relaid_get (fun d => a.tmps.getD d undef) ds a0.tmps i h0
   rw [Array.getElem?_eq_getElem h2] at h3
   by_cases hm : i ∈ ds
   ·rw [if_pos hm] at h3
    rw [Option.some.inj h3]
    simp [Array.getD_eq_getD_getElem?, h1]
   ·rw [if_neg hm] at h3
    have hn : ∀ j, j < n → dstOf ops j ≠ some i := fun j hjn hj => hm (by
     rw [← hds]
     exact List.mem_filterMap.2 ⟨j, List.mem_range.2 hjn, hj⟩)
    have := hF.low i hn
    simp only [Array.getD_eq_getD_getElem?] at this
    rw [Array.getElem?_eq_getElem h1, Array.getElem?_eq_getElem h0] at this
    rw [Array.getElem?_eq_getElem h0] at h3
    rw [Option.some.inj h3]
    exact this
 cases a
 have hd := hF.defers
 simp only at hd h
 rw [← h, hd]
theorem wantedN {o : Oper} {a a0 : Act} {n : Nat} (hF : FrameN ops n a0 a) {j : Nat} {b : Bool} {d : Tmp} (h : o.guard = some (j, b)) (hd : dstOf ops j = some d) (hs : d < a0.tmps.size) (hv : slOf ops a j = .bool b) : Region.wanted o (yielded ops a.tmps) = true := by
 have h1 := hF.slot hd hs hv
 unfold Region.wanted
 rw [h]
 unfold yielded
 unfold dstOf at hd
 simp only [hd, Option.bind_some, h1]
 simp
theorem wp_region_rgn {id : Nat} (n f : Nat) {a0 : Act} {w0 : World} (hm : P.follows .mixedOrders = true) (hn : n ≤ ops.size) (hback : ∀ i o, ops[i]? = some o → ∀ e ∈ o.after.toList, Region.binds .any e = true → e.on < i)
  (hF : forcedFrom ops n f = true) (hdst : ∀ i j d, dstOf ops i = some d → dstOf ops j = some d → i = j) (hdl : ∀ i d, dstOf ops i = some d → d < a0.tmps.size)
  (V : (Nat → Bool) → Nat → Value → World → Prop) (J : World → Prop)
  (h0 : J w0.drew)
  (hstep : ∀ (i : Nat) (o : Oper), i < n → ops[i]? = some o → ∀ (L : Nat → Bool) a w, L i = false → (∀ e ∈ o.after.toList, Region.binds .any e = true → L e.on = true) →
   FrameN ops n a0 a → J w → (∀ j, L j = true → V L j (slOf ops a j) w) → Region.wanted o (yielded ops a.tmps) = true ∧ ∀ K : Act → World → Prop, (∀ v w', (∀ j u, L j = true → V L j u w → V (upd L i) j u w') → V (upd L i) i (if o.dst.isSome then v else undef) w' → J w' → K (a.put o.dst v) w') → o.wp P a w K Q)
  (hend : ∀ a w, FrameN ops n a0 a → J w → (∀ j, j < n → V (fun j => decide (j < n)) j (slOf ops a j) w) → wpList P ops Q (ops.toList.drop n) a w) : (Code.region id ops true).wp P Q a0 w0 := by
 have hset : ∀ (listed : Array Bool) (i : Nat), listed.size = ops.size → i < ops.size → ∀ j, (listed.setIfInBounds i true).getD j false = if j = i then true else listed.getD j false := fun listed i hs hi j => by
  simp only [Array.getD_eq_getD_getElem?, Array.getElem?_setIfInBounds]
  by_cases e : i = j
  ·subst e; simp [hs, hi]
  ·rw [if_neg e, if_neg (fun h => e h.symm)]
 refine wp_region_invt hm hn hback hF (fun listed a w => FrameN ops n a0 a ∧ J w ∧ (∀ j, listed.getD j false = true → V (fun j => listed.getD j false) j (slOf ops a j) w)) ?_ ?_ ?_
 ·refine ⟨⟨rfl, rfl, fun _ _ => rfl⟩, h0, fun j hj => ?_⟩
  have hf : (Array.replicate ops.size false).getD j false = false := by
   simp only [Array.getD_eq_getD_getElem?, Array.getElem?_replicate]
   split <;> rfl
  rw [hf] at hj; cases hj
 ·rintro listed a w i o hs ⟨hFr, hJ, hV⟩ hin ho hl hC hd
  have hi := (Array.getElem?_eq_some_iff.1 ho).1
  have hlf : listed.getD i false = false := by rw [← getD_true (by omega)]; exact hl
  unfold wpOp
  rw [ho]
  obtain ⟨hw, hst⟩ := hstep i o hin ho (fun j => listed.getD j false) a w hlf hd hFr hJ hV
  simp only [hw, if_true]
  have hL : (fun j => (listed.setIfInBounds i true).getD j false) = upd (fun j => listed.getD j false) i := funext fun j => by
   rw [hset listed i hs hi j]
   rfl
  refine .inl (hst _ fun v w' hR hVi hJ' => ?_)
  have hdi : dstOf ops i = o.dst := by unfold dstOf; rw [ho]; rfl
  have hput : ∀ j, j ≠ i → slOf ops (a.put o.dst v) j = slOf ops a j := fun j hj => by
   unfold slOf
   cases hdj : dstOf ops j with
   | none => rfl
   | some d =>
    cases hod : o.dst with
    | none => rfl
    | some e =>
     show (a.tmps.setIfInBounds e v).getD d undef = _
     have hne : e ≠ d := fun h => hj (hdst j i d hdj (by rw [hdi, hod, h]))
     simp [Array.getD_eq_getD_getElem?, hne]
  have hputi : slOf ops (a.put o.dst v) i = if o.dst.isSome then v else undef := by
   unfold slOf
   rw [hdi]
   cases hod : o.dst with
   | none => rfl
   | some e =>
    show (a.tmps.setIfInBounds e v).getD e undef = v
    have hlt : e < a.tmps.size := by rw [hFr.size]; exact hdl i e (by rw [hdi, hod])
    simp [Array.getD_eq_getD_getElem?, hlt]
  refine ⟨⟨?_, ?_, fun t ht => ?_⟩, hJ', fun j hj => ?_⟩
  ·rw [← hFr.defers]; cases o.dst <;> rfl
  ·rw [← hFr.size]
   cases o.dst with
   | none => rfl
   | some e => show (a.tmps.setIfInBounds e v).size = _; simp
  ·rw [← hFr.low t ht]
   cases hod : o.dst with
   | none => rfl
   | some e =>
    show (a.tmps.setIfInBounds e v).getD t undef = _
    have hne : e ≠ t := fun h => ht i hin (by rw [hdi, hod, h])
    simp [Array.getD_eq_getD_getElem?, hne]
  ·rw [hL]
   by_cases hji : j = i
   ·subst hji; rw [hputi]; exact hVi
   ·rw [hput j hji]
    rw [hset listed i hs hi j, if_neg hji] at hj
    exact hR j _ hj (hV j hj)
 ·rintro listed a w hs ⟨hFr, hJ, hV⟩ hall
  have hL : (fun j => listed.getD j false) = fun j => decide (j < n) := funext fun j => by
   by_cases h : j < ops.size
   ·exact hall j h
   ·rw [decide_eq_false (by omega)]
    simp only [Array.getD_eq_getD_getElem?]
    rw [Array.getElem?_eq_none (by omega)]
    rfl
  rw [hL] at hV
  exact hend a w hFr hJ fun j hj => hV j (by rw [hall j (by omega), decide_eq_true hj])
theorem wp_region_gn {id : Nat} (n f size : Nat) {a0 : Act} {w0 : World} (hm : P.follows .mixedOrders = true) (hok : opsOkG ops n size = true) (hF : forcedFrom ops n f = true) (hsz : a0.tmps.size = size)
  (V : (Nat → Bool) → Nat → Value → World → Prop) (J : World → Prop) (h0 : J w0.drew)
  (hstep : ∀ (i : Nat) (o : Oper), i < n → ops[i]? = some o → ∀ (L : Nat → Bool) a w, L i = false → (∀ e ∈ o.after.toList, Region.binds .any e = true → L e.on = true) →
   FrameN ops n a0 a → J w → (∀ j, L j = true → V L j (slOf ops a j) w) → Region.wanted o (yielded ops a.tmps) = true ∧ ∀ K : Act → World → Prop, (∀ v w', (∀ j u, L j = true → V L j u w → V (upd L i) j u w') → V (upd L i) i (if o.dst.isSome then v else undef) w' → J w' → K (a.put o.dst v) w') → o.wp P a w K Q)
  (hend : ∀ a w, FrameN ops n a0 a → J w → (∀ j, j < n → V (fun j => decide (j < n)) j (slOf ops a j) w) → wpList P ops Q (ops.toList.drop n) a w) : (Code.region id ops true).wp P Q a0 w0 := by
 obtain ⟨h1, h2, h3, h4⟩ := opsOkG_facts hok
 exact wp_region_rgn n f hm h1 h2 hF h3 (by rw [hsz]; exact h4) V J h0 hstep hend
end Go
namespace Go
variable {P : Program} {ops : Array Oper} {Q : Exit → Act → World → Prop}
theorem wp_region_rgx {id : Nat} (n f : Nat) {a0 : Act} {w0 : World} (hm : P.follows .mixedOrders = true) (hn : n ≤ ops.size) (hback : ∀ i o, ops[i]? = some o → ∀ e ∈ o.after.toList, Region.binds .any e = true → e.on < i)
  (hF : forcedFrom ops n f = true) (hdst : ∀ i j d, dstOf ops i = some d → dstOf ops j = some d → i = j) (hdl : ∀ i d, dstOf ops i = some d → d < a0.tmps.size)
  (V : (Nat → Bool) → Nat → Value → World → Prop) (J : World → Prop)
  (h0 : J w0.drew)
  (hstep : ∀ (i : Nat) (o : Oper), i < n → ops[i]? = some o → ∀ (L : Nat → Bool) a w, L i = false → (∀ e ∈ o.after.toList, Region.binds .any e = true → L e.on = true) →
   FrameN ops n a0 a → J w → (∀ j, L j = true → V L j (slOf ops a j) w) → (Region.wanted o (yielded ops a.tmps) = true ∧ ∀ K : Act → World → Prop, (∀ v w', (∀ j u, L j = true → V L j u w → V (upd L i) j u w') → V (upd L i) i (if o.dst.isSome then v else undef) w' → J w' → K (a.put o.dst v) w') → o.wp P a w K Q) ∨ (Region.wanted o (yielded ops a.tmps) = false ∧ (∀ j u, L j = true → V L j u w → V (upd L i) j u w) ∧ V (upd L i) i undef w))
  (hend : ∀ a w, FrameN ops n a0 a → J w → (∀ j, j < n → V (fun j => decide (j < n)) j (slOf ops a j) w) → wpList P ops Q (ops.toList.drop n) a w) : (Code.region id ops true).wp P Q a0 w0 := by
 have hset : ∀ (listed : Array Bool) (i : Nat), listed.size = ops.size → i < ops.size → ∀ j, (listed.setIfInBounds i true).getD j false = if j = i then true else listed.getD j false := fun listed i hs hi j => by
  simp only [Array.getD_eq_getD_getElem?, Array.getElem?_setIfInBounds]
  by_cases e : i = j
  ·subst e; simp [hs, hi]
  ·rw [if_neg e, if_neg (fun h => e h.symm)]
 refine wp_region_invt hm hn hback hF (fun listed a w => FrameN ops n a0 a ∧ J w ∧ (∀ j, listed.getD j false = true → V (fun j => listed.getD j false) j (slOf ops a j) w)) ?_ ?_ ?_
 ·refine ⟨⟨rfl, rfl, fun _ _ => rfl⟩, h0, fun j hj => ?_⟩
  have hf : (Array.replicate ops.size false).getD j false = false := by
   simp only [Array.getD_eq_getD_getElem?, Array.getElem?_replicate]
   split <;> rfl
  rw [hf] at hj; cases hj
 ·rintro listed a w i o hs ⟨hFr, hJ, hV⟩ hin ho hl hC hd
  have hi := (Array.getElem?_eq_some_iff.1 ho).1
  have hlf : listed.getD i false = false := by rw [← getD_true (by omega)]; exact hl
  unfold wpOp
  rw [ho]
  have hL : (fun j => (listed.setIfInBounds i true).getD j false) = upd (fun j => listed.getD j false) i := funext fun j => by
   rw [hset listed i hs hi j]
   rfl
  have key : ∀ v w', (∀ j u, listed.getD j false = true → V (fun j => listed.getD j false) j u w → V (upd (fun j => listed.getD j false) i) j u w') → V (upd (fun j => listed.getD j false) i) i (if o.dst.isSome then v else undef) w' → J w' → FrameN ops n a0 (a.put o.dst v) ∧ J w' ∧ (∀ j, (listed.setIfInBounds i true).getD j false = true → V (fun j => (listed.setIfInBounds i true).getD j false) j (slOf ops (a.put o.dst v) j) w') := ?key
  ·rcases hstep i o hin ho (fun j => listed.getD j false) a w hlf hd hFr hJ hV with ⟨hw, hst⟩ | ⟨hw, hR, hVi⟩
   ·simp only [hw, if_true]
    exact .inl (hst _ key)
   ·simp only [hw, Bool.false_eq_true, if_false]
    exact key undef w hR (by cases o.dst <;> exact hVi) hJ
  intro v w' hR hVi hJ'
  have hdi : dstOf ops i = o.dst := by unfold dstOf; rw [ho]; rfl
  have hput : ∀ j, j ≠ i → slOf ops (a.put o.dst v) j = slOf ops a j := fun j hj => by
   unfold slOf
   cases hdj : dstOf ops j with
   | none => rfl
   | some d =>
    cases hod : o.dst with
    | none => rfl
    | some e =>
     show (a.tmps.setIfInBounds e v).getD d undef = _
     have hne : e ≠ d := fun h => hj (hdst j i d hdj (by rw [hdi, hod, h]))
     simp [Array.getD_eq_getD_getElem?, hne]
  have hputi : slOf ops (a.put o.dst v) i = if o.dst.isSome then v else undef := by
   unfold slOf
   rw [hdi]
   cases hod : o.dst with
   | none => rfl
   | some e =>
    show (a.tmps.setIfInBounds e v).getD e undef = v
    have hlt : e < a.tmps.size := by rw [hFr.size]; exact hdl i e (by rw [hdi, hod])
    simp [Array.getD_eq_getD_getElem?, hlt]
  refine ⟨⟨?_, ?_, fun t ht => ?_⟩, hJ', fun j hj => ?_⟩
  ·rw [← hFr.defers]; cases o.dst <;> rfl
  ·rw [← hFr.size]
   cases o.dst with
   | none => rfl
   | some e => show (a.tmps.setIfInBounds e v).size = _; simp
  ·rw [← hFr.low t ht]
   cases hod : o.dst with
   | none => rfl
   | some e =>
    show (a.tmps.setIfInBounds e v).getD t undef = _
    have hne : e ≠ t := fun h => ht i hin (by rw [hdi, hod, h])
    simp [Array.getD_eq_getD_getElem?, hne]
  ·rw [hL]
   by_cases hji : j = i
   ·subst hji; rw [hputi]; exact hVi
   ·rw [hput j hji]
    rw [hset listed i hs hi j, if_neg hji] at hj
    exact hR j _ hj (hV j hj)
 ·rintro listed a w hs ⟨hFr, hJ, hV⟩ hall
  have hL : (fun j => listed.getD j false) = fun j => decide (j < n) := funext fun j => by
   by_cases h : j < ops.size
   ·exact hall j h
   ·rw [decide_eq_false (by omega)]
    simp only [Array.getD_eq_getD_getElem?]
    rw [Array.getElem?_eq_none (by omega)]
    rfl
  rw [hL] at hV
  exact hend a w hFr hJ fun j hj => hV j (by rw [hall j (by omega), decide_eq_true hj])
theorem wp_region_gx {id : Nat} (n f size : Nat) {a0 : Act} {w0 : World} (hm : P.follows .mixedOrders = true) (hok : opsOkG ops n size = true) (hF : forcedFrom ops n f = true) (hsz : a0.tmps.size = size)
  (V : (Nat → Bool) → Nat → Value → World → Prop) (J : World → Prop) (h0 : J w0.drew)
  (hstep : ∀ (i : Nat) (o : Oper), i < n → ops[i]? = some o → ∀ (L : Nat → Bool) a w, L i = false → (∀ e ∈ o.after.toList, Region.binds .any e = true → L e.on = true) →
   FrameN ops n a0 a → J w → (∀ j, L j = true → V L j (slOf ops a j) w) → (Region.wanted o (yielded ops a.tmps) = true ∧ ∀ K : Act → World → Prop, (∀ v w', (∀ j u, L j = true → V L j u w → V (upd L i) j u w') → V (upd L i) i (if o.dst.isSome then v else undef) w' → J w' → K (a.put o.dst v) w') → o.wp P a w K Q) ∨ (Region.wanted o (yielded ops a.tmps) = false ∧ (∀ j u, L j = true → V L j u w → V (upd L i) j u w) ∧ V (upd L i) i undef w))
  (hend : ∀ a w, FrameN ops n a0 a → J w → (∀ j, j < n → V (fun j => decide (j < n)) j (slOf ops a j) w) → wpList P ops Q (ops.toList.drop n) a w) : (Code.region id ops true).wp P Q a0 w0 := by
 obtain ⟨h1, h2, h3, h4⟩ := opsOkG_facts hok
 exact wp_region_rgx n f hm h1 h2 hF h3 (by rw [hsz]; exact h4) V J h0 hstep hend
theorem unwantedN {o : Oper} {a a0 : Act} {n : Nat} (hF : FrameN ops n a0 a) {j : Nat} {b : Bool} {d : Tmp} (h : o.guard = some (j, b)) (hd : dstOf ops j = some d) (hs : d < a0.tmps.size) (hv : slOf ops a j = .bool (!b)) : Region.wanted o (yielded ops a.tmps) = false := by
 have h1 := hF.slot hd hs hv
 unfold Region.wanted
 rw [h]
 unfold yielded
 unfold dstOf at hd
 simp only [hd, Option.bind_some, h1]
 cases b <;> simp
theorem unwantedU {o : Oper} {a a0 : Act} {n : Nat} (hF : FrameN ops n a0 a) {j : Nat} {b : Bool} {d : Tmp} (h : o.guard = some (j, b)) (hd : dstOf ops j = some d) (hs : d < a0.tmps.size) (hv : slOf ops a j = undef) : Region.wanted o (yielded ops a.tmps) = false := by
 have h1 := hF.slot hd hs hv
 unfold Region.wanted
 rw [h]
 unfold yielded
 unfold dstOf at hd
 simp only [hd, Option.bind_some, h1]
 cases b <;> simp [undef]
end Go
