/- A PART OF THE PROOF THAT SAVETEXTS HOLDS FOR EVERY INPUT OF BULK AT MOST 1048576. No condition beyond the given statement. This part: EvAllF. -/
import Derived.Test.YtciahohaonhdgaaGreatDoorEvCore
import Derived.Test.YtciahohaonhdgaaGreatDoorEvMemo
import Derived.Test.YtciahohaonhdgaaGreatDoorEvMap
namespace Go.Ev
open Go
def mNextAll (x : AV) (st : St) : Option (List (AV × St)) :=
 match x with
 | .pref b 0 => match hget st.heap b with
  | some (.miter (some m) since seen last) => (hmap st.heap m).bind fun (ks, us, bs, ck) =>
   (chk (seen.isEmpty || bs.isEmpty || bs.any fun n => Nat.blt n last)).bind fun _ =>
   (chk (!(leftL seen ks us bs).isEmpty && (leftL seen ks us bs).all fun p => Nat.blt p.2.2 since)).bind fun _ =>
    some ((leftL seen ks us bs).map fun p => (.tup [.bool true, p.1, p.2.1], st.put b (.miter (some m) since (seen ++ [p.2.2]) ck)))
  | _ => none
 | _ => none
def bindAll {α β : Type} : List α → (α → Option (List β)) → Option (List β)
 | [], _ => some []
 | x :: r, f => (f x).bind fun a => (bindAll r f).bind fun b => some (a ++ b)
def evOpA (C : Ctx) (call : CallF) (ρ : Look) (o : Oper) (st : St) : Option (List (AV × St)) :=
 match evOp C call true ρ o st with
 | some p => some [p]
 | none => match o.op with
  | .next x false => (ρ x).bind fun v => mNextAll v st
  | _ => none
def evSerialA (C : Ctx) (call : CallF) (ops : Array Oper) : List Oper → Fr → Option (List Fr)
 | [], fr => some [fr]
 | o :: r, fr =>
  bif guardOk ops o fr.tmps then
  (bif isWanted ops o fr.tmps then
   (evOpA C call (opVal C fr.tmps) o fr.st).bind fun l => bindAll l fun p => evSerialA C call ops r { tmps := putT fr.tmps o.dst p.1, st := p.2 }
  else evSerialA C call ops r { fr with tmps := putT fr.tmps o.dst (.tup []) })
  else none
def behind (id : Nat) (p : Ex × Fr) : Ex × Fr := match p.1 with
 | .exit i => bif Nat.beq i id then (.norm, p.2) else (.exit i, p.2)
 | _ => p
def evA (C : Ctx) : Nat → Code → Fr → Option (List (Ex × Fr))
 | 0, _, _ => none
 | n + 1, .region id ops draw, fr => bif draw then (ev C (n + 1) (.region id ops draw) fr).map fun p => [p] else (evSerialA C (evCall C (ev C n)) ops ops.toList fr).map fun l => l.map fun fr => (.norm, fr)
 | n + 1, .seq a b, fr => (evA C n a fr).bind fun l => bindAll l fun p => match p.1 with
  | .norm => evA C n b p.2
  | _ => some [p]
 | n + 1, .cond c a b, fr => (opVal C fr.tmps c).bind fun v => match v with
  | .bool true => evA C n a fr
  | .bool false => evA C n b fr
  | _ => none
 | n + 1, .block id c, fr => (evA C n c fr).map fun l => l.map (behind id)
 | n + 1, .loop c, fr => (evA C n c fr).bind fun l => bindAll l fun p => match p.1 with
  | .norm => evA C n (.loop c) p.2
  | _ => some [p]
 | _n + 1, .skip, fr => some [(.norm, fr)]
 | _n + 1, .exit i, fr => some [(.exit i, fr)]
 | _n + 1, .ret, fr => some [(.ret, fr)]
 | _, _, _ => none
def runA (C : Ctx) (n : Nat) (f : FuncId) (args : List AV) : Option (List (AV × St)) :=
 (C.funs.get f).bind fun fn => fn.body.bind fun body =>
  (evA C n body { tmps := args ++ List.replicate (fn.ntmps - args.length) (.tup []), st := { heap := [], nxt := 0, low := 0 } }).bind fun l => bindAll l fun p =>
   (chk (match p.1 with | .exit _ => false | _ => true)).bind fun _ =>
   (results C p.2.st.heap p.2.tmps fn.results.toList).bind fun vs => some [(pack vs, p.2.st)]
def memoChkA (C : Ctx) (n : Nat) (f : FuncId) (p : List AV × AV) : Bool :=
 datL true p.1 && match runA C n f p.1 with
 | some l => l.all fun q => match freezeL C q.2.heap false deep [q.1] with
  | some [r] => avEq r p.2
  | _ => false
 | none => false
end Go.Ev
namespace Go.Ev
open Go
theorem bindAll_mem {α β : Type} {f : α → Option (List β)} : ∀ {l : List α} {r : List β}, bindAll l f = some r → ∀ x ∈ l, ∃ a, f x = some a ∧ ∀ y ∈ a, y ∈ r
 | [], _, _, x, hx => by cases hx
 | y :: l, r, h, x, hx => by
  simp only [bindAll, Option.bind_eq_some_iff, Option.some.injEq] at h
  obtain ⟨a, ha, b, hb, rfl⟩ := h
  rcases List.mem_cons.1 hx with rfl | hx
  ·exact ⟨a, ha, fun z hz => List.mem_append.2 (.inl hz)⟩
  ·obtain ⟨a', h1, h2⟩ := bindAll_mem hb x hx
   exact ⟨a', h1, fun z hz => List.mem_append.2 (.inr (h2 z hz))⟩
section
variable {P : Program} {C C0 : Ctx} {w : World} {O B : Nat → Prop} {M : MapB}
theorem mNextAll_sound {st : St} {l : List (AV × St)} (hs : Sit C w O B M st.heap) {ty : TypeId} {x : AV} {cx : Value} (hx : VR C w O B M x cx) (h : mNextAll x st = some l) :
  ∃ p ∈ l, ∃ cv w', (Instr.next cx false ty).run P w = .ok cv w' ∧ VR C w' O B M p.1 cv ∧ Step C B true w O M st w' O M p.2 := by
 unfold mNextAll at h
 split at h
 ·rename_i b
  split at h
  ·rename_i m since seen last hg
   simp only [Option.bind_eq_some_iff, Option.some.injEq] at h
   obtain ⟨⟨ks, us, bs, ck⟩, hm, _, hch, _, hns, rfl⟩ := h
   have hch := chk_some hch
   have hns := chk_some hns
   simp only [Bool.and_eq_true, Bool.not_eq_true', List.all_eq_true] at hns
   obtain ⟨hne, hns⟩ := hns
   cases hx with
   | pref _ _ cb base hM =>
    obtain ⟨cb', base', hM', hO, hr⟩ := hs.own b _ hg
    rw [hM] at hM'
    obtain ⟨rfl, rfl⟩ := Prod.mk.inj (Option.some.inj hM')
    cases hr with
    | miter _ cm _ _ _ hcm h0 hb0 hblk =>
     subst hb0
     obtain ⟨c, rfl, hMm⟩ := hcm m rfl
     obtain ⟨cb2, base2, hM2, _, hr2⟩ := hs.own m _ (hmap_some hm)
     rw [hMm] at hM2
     obtain ⟨rfl, rfl⟩ := Prod.mk.inj (Option.some.inj hM2)
     obtain ⟨_, es, hblk2, hel⟩ := hr2.map_inv
     have htest : (!seen.toArray.isEmpty && !es.isEmpty && es.all (fun x => decide (x.born ≥ last))) = false := by
      simp only [Bool.or_eq_true] at hch
      rcases hch with (h1 | h1) | h1
      ·have : seen.toArray.isEmpty = true := by simpa using h1
       rw [this]; rfl
      ·have : bs = [] := by simpa using h1
       have h2 := hel.born
       rw [this] at h2
       have : es = #[] := by
        have : es.toList = [] := by simpa using h2
        simpa using this
       subst this
       simp
      ·have h2 : es.all (fun x => decide (x.born ≥ last)) = false := by
        rw [List.any_eq_true] at h1
        obtain ⟨n, hn, hlt⟩ := h1
        have hlt : n < last := by simpa using hlt
        rw [← hel.born] at hn
        obtain ⟨e, he, rfl⟩ := List.mem_map.1 hn
        rw [Bool.eq_false_iff]
        intro hall
        rw [Array.all_eq_true_iff_forall_mem] at hall
        have := hall e (by simpa using he)
        simp at this
        omega
       rw [h2, Bool.and_false]
     obtain ⟨hlen, hrel⟩ := leftL_sound (seen := seen) hel
     have hfil : (es.filter fun e => !seen.toArray.contains e.born).toList = es.toList.filter fun e => !seen.contains e.born := by simp
     have hpos : 0 < (leftL seen ks us bs).length := by
      cases hq : leftL seen ks us bs with
      | nil => rw [hq] at hne; cases hne
      | cons => simp
     have hsz : (es.filter fun e => !seen.toArray.contains e.born).size = (leftL seen ks us bs).length := by rw [← Array.length_toList, hfil, hlen]
     have hmemb : ∀ x ∈ (es.filter fun e => !seen.toArray.contains e.born).toList, x.born < since := fun x hx => by
      rw [hfil] at hx
      obtain ⟨j, hj, rfl⟩ := List.getElem_of_mem hx
      have hj' : j < (leftL seen ks us bs).length := by omega
      rw [(hrel j hj' hj).2.2]
      have := hns _ (List.getElem_mem hj')
      simpa using this
     have hat : ∀ j (h1 : j < (leftL seen ks us bs).length) (h2 : j < (es.filter fun e => !seen.toArray.contains e.born).size), VR C w O B M (leftL seen ks us bs)[j].1 (es.filter fun e => !seen.toArray.contains e.born)[j].key ∧ VR C w O B M (leftL seen ks us bs)[j].2.1 (es.filter fun e => !seen.toArray.contains e.born)[j].val ∧
       (es.filter fun e => !seen.toArray.contains e.born)[j].born = (leftL seen ks us bs)[j].2.2 := fun j h1 h2 => by
      have h3 : j < (es.toList.filter fun e => !seen.contains e.born).length := by omega
      have e1 : (es.filter fun e => !seen.toArray.contains e.born)[j] = (es.toList.filter fun e => !seen.contains e.born)[j] := by
       rw [← Array.getElem_toList]
       simp only [hfil]
      rw [e1]
      exact hrel j h1 h3
     generalize hL : (es.filter fun e => !seen.toArray.contains e.born) = L at hmemb hsz hat
     have e1 : L.filter (fun x => decide (x.born < since)) = L := Array.filter_eq_self.2 (fun x hx => by simpa using hmemb x (by simpa using hx))
     have e2 : L.filter (fun x => decide (x.born ≥ since)) = #[] := by
      rw [Array.filter_eq_empty_iff]
      intro x hx
      have := hmemb x (by simpa using hx)
      simp
      omega
     have hne2 : L.isEmpty = false := by
      have : L.size ≠ 0 := by omega
      simp [Array.isEmpty, this]
     have hch2 : ∃ (j : Nat) (w1 : World), j < L.size ∧ w1.heap = w.heap ∧ w1.os = w.os ∧ w1.tape = w.tape ∧ w1.output = w.output ∧ (choose (Question.mapNext L.size)).run P w = .ok j w1 := by
      by_cases hf : L.size ≤ 1
      ·exact ⟨0, w, by omega, rfl, rfl, rfl, rfl, by simp [choose, Sem.run, Question.forced, hf]⟩
      ·exact ⟨_, w.drew, Nat.mod_lt _ (by omega), rfl, rfl, rfl, rfl, by
        simp only [choose, Sem.run, Question.forced, decide_eq_true_eq, hf, if_false, Question.cut]
        rfl⟩
     obtain ⟨j, w1, hj, h1, h2, h3, h4, hrun⟩ := hch2
     have hset : ∀ (o' : Obj), (setObj cb o').run P w1 = .ok () { w1 with heap := w1.heap.setIfInBounds cb o' } := fun o' => by
      simp only [setObj, Sem.run]
      rw [h1, hblk]
     have hnext : (Instr.next (.pointer (some ⟨cb, 0 + 0, none⟩)) false ty).run P w = .ok (.tuple #[.bool true, L[j].key, L[j].val]) { w1 with heap := w1.heap.setIfInBounds cb (.mapIter (some c) since (seen.toArray.push L[j].born) ck) } := by
      simp only [Instr.next, getObj, Sem.run_bind, Sem.run, hblk, hblk2, Result.andThen, htest, Bool.false_eq_true, if_false, hL, e1, e2, Nat.add_zero, Array.append_empty, hne2, Array.empty_append, Array.size_map, hrun, Array.getElem?_map, Array.getElem?_eq_getElem hj, Option.map_some, hset]
      rfl
     have hj' : j < (leftL seen ks us bs).length := by omega
     obtain ⟨hk, hu, hbn⟩ := hat j hj' hj
     have hx' : Ext w O M { w1 with heap := w1.heap.setIfInBounds cb (.mapIter (some c) since (seen.toArray.push L[j].born) ck) } O M := by
      refine ⟨h2, h3, h4, by simp [h1], fun k hk hn => ?_, fun k c e fz hk => ⟨c, ?_, rfl⟩, fun _ h => .inl h, fun _ _ h => h⟩
      ·simp only [Array.getElem?_setIfInBounds]
       rw [if_neg (fun e : cb = k => hn (e ▸ hO)), h1]
      ·simp only [Array.getElem?_setIfInBounds]
       rw [if_neg (fun e : cb = k => by subst e; rw [hblk] at hk; cases hk), h1]
       exact hk
     have hlt2 : cb < w.heap.size := (Array.getElem?_eq_some_iff.1 hblk).1
     refine ⟨_, List.mem_map.2 ⟨(leftL seen ks us bs)[j], List.getElem_mem hj', rfl⟩, _, _, hnext, .tup _ [_, _, _] rfl (fun i h1 h2 => ?_), Step.put hs hg hM hx' (fun k hk => ?_) (.miter (some m) (some c) since _ ck (fun b e => by cases e; exact ⟨c, rfl, hMm⟩) (fun e => by cases e) rfl (by simp [h1, hlt2, hbn]))⟩
     ·match i with
      | 0 => exact .bool _
      | 1 => exact hk.mono hx'
      | 2 => exact hu.mono hx'
     ·simp only [Array.getElem?_setIfInBounds]
      rw [if_neg (fun e => hk e.symm), h1]
  ·cases h
 ·cases h
theorem evOpA_sound (hT : TyOk P C) (hp : PrimsOk P C) {call : CallF} (hcall : CallOk P C call) {ts : List AV} {a : Act} {o : Oper} {st : St} {l : List (AV × St)} (hs : Sit C w O B M st.heap) (ht : TR C w O B M ts a)
  (hl : ∀ x, O x → x < w.heap.size) (hfr : ∀ b, st.nxt ≤ b → M b = none) (h : evOpA C call (opVal C ts) o st = some l)
  {next : Act → World → Prop} {Q : Exit → Act → World → Prop} (hnext : ∀ p ∈ l, ∀ cv w' O' M', VR C w' O' B M' p.1 cv → Step C B true w O M st w' O' M' p.2 → next (a.put o.dst cv) w') : o.wp P a w next Q := by
 unfold evOpA at h
 split at h
 ·rename_i p hp2
  obtain rfl := Option.some.inj h
  exact evOp_sound hT hp hcall (serial := true) hs ht hl (fun _ => hfr) (fun b hb _ => hfr b hb) (v := p.1) (st2 := p.2) hp2 fun cv w1 O1 M1 hv k => hnext p (by simp) cv w1 O1 M1 hv k
 ·split at h
  ·rename_i x hop
   simp only [Option.bind_eq_some_iff] at h
   obtain ⟨u, hu, h⟩ := h
   obtain ⟨p, hpl, cv, w', h1, h2, h3⟩ := mNextAll_sound (P := P) (ty := o.type) hs (opVal_sound hs ht hu) h
   refine wp_of_runs ?_ (hnext p hpl _ _ _ _ h2 h3)
   simp only [execOp, hop]
   exact run_v h1
  ·cases h
theorem evSerialA_sound (hT : TyOk P C) (hp : PrimsOk P C) {call : CallF} (hcall : CallOk P C call) {ops : Array Oper} {Q : Exit → Act → World → Prop} : ∀ (l : List Oper) {w : World} {O : Nat → Prop} {M : MapB} {fr : Fr} {a : Act} {r : List Fr}, evSerialA C call ops l fr = some r → AR C B w O M fr a →
  (∀ g ∈ r, ∀ w' O' M' a', AR C B w' O' M' g a' → Step C B true w O M fr.st w' O' M' g.st → Q .normal a' w') → wpList P ops Q l a w
 | [], w, O, M, fr, a, r, h, ha, hq => by
  simp only [evSerialA, Option.some.injEq] at h
  subst h
  exact hq _ (by simp) _ _ _ _ ha (.refl ha.sit)
 | o :: ol, w, O, M, fr, a, r, h, ha, hq => by
  unfold evSerialA at h
  unfold wpList
  cases hgk : guardOk ops o fr.tmps with
  | false => rw [hgk] at h; cases h
  | true =>
  rw [hgk] at h
  simp only [cond_true] at h
  rw [← isWanted_sound ha.slots hgk]
  cases hw : isWanted ops o fr.tmps with
  | false =>
   rw [hw] at h
   simp only [cond_false] at h
   simp only [Bool.false_eq_true, if_false]
   have ha' := ha.step (.refl ha.sit) (undef_rel (C := C) (w := w) (O := O) (B := B) (M := M)) o.dst
   exact evSerialA_sound hT hp hcall ol h ha' hq
  | true =>
   rw [hw] at h
   simp only [cond_true, Option.bind_eq_some_iff] at h
   simp only [if_true]
   obtain ⟨l, ho, h⟩ := h
   refine .inl (evOpA_sound hT hp hcall ha.sit ha.slots ha.lt ha.free ho fun p hpl cv w1 O1 M1 hv k => ?_)
   obtain ⟨r1, h1, h2⟩ := bindAll_mem h p hpl
   exact evSerialA_sound hT hp hcall ol h1 (ha.step k hv o.dst) fun g hg w2 O2 M2 a2 ha2 k2 => hq g (h2 g hg) _ _ _ _ ha2 (k.trans k2)
theorem evA_sound (hT : TyOk P C) (hp : PrimsOk P C) (hF : FnsOk P C) (hD : ∀ f fn body, C.funs.get f = some fn → fn.body = some body → Draws P C body) : ∀ (n : Nat) (c : Code) (fr : Fr) (l : List (Ex × Fr)), evA C n c fr = some l → Draws P C c →
  ∀ (B : Nat → Prop) (Q : Exit → Act → World → Prop) (w : World) (O : Nat → Prop) (M : MapB) (a : Act), AR C B w O M fr a →
  (∀ p ∈ l, ∀ w' O' M' a', AR C B w' O' M' p.2 a' → Step C B true w O M fr.st w' O' M' p.2.st → Q p.1.of a' w') → c.wp P Q a w := by
 intro n
 induction n using Nat.strongRecOn with
 | _ n ih =>
  cases n with
  | zero => intro c fr l h; simp [evA] at h
  | succ n =>
   have hcall := callOk_of hT hF hD (code_sound hT hp hF hD n)
   intro c fr l h hd B Q w O M a ha hq
   cases c with
   | skip =>
    simp only [evA, Option.some.injEq] at h
    subst h
    exact wp_skip (hq _ (List.mem_singleton.2 rfl) _ _ _ _ ha (.refl ha.sit))
   | exit i =>
    simp only [evA, Option.some.injEq] at h
    subst h
    exact wp_exit (hq _ (List.mem_singleton.2 rfl) _ _ _ _ ha (.refl ha.sit))
   | ret =>
    simp only [evA, Option.some.injEq] at h
    subst h
    exact wp_ret (hq _ (List.mem_singleton.2 rfl) _ _ _ _ ha (.refl ha.sit))
   | region id ops draw =>
    cases draw with
    | true =>
     simp only [evA, cond_true, Option.map_eq_some_iff] at h
     obtain ⟨p, h5, rfl⟩ := h
     exact code_sound hT hp hF hD (n + 1) _ fr p.2 p.1 h5 hd B Q w O M a ha fun w' O' M' a' ha' k => hq p (List.mem_singleton.2 rfl) _ _ _ _ ha' k
    | false =>
     simp only [evA, cond_false, Option.map_eq_some_iff] at h
     obtain ⟨r, h5, rfl⟩ := h
     exact wp_region_list (evSerialA_sound hT hp hcall _ h5 ha fun g hg w' O' M' a' ha' k => hq (.norm, g) (List.mem_map.2 ⟨g, hg, rfl⟩) _ _ _ _ ha' k)
   | seq c1 c2 =>
    simp only [evA, Option.bind_eq_some_iff] at h
    obtain ⟨l1, h1, h⟩ := h
    refine wp_seq (ih n (by omega) c1 fr l1 h1 (fun call hc => (hd call hc).1) B _ w O M a ha fun p hpl w1 O1 M1 a1 ha1 k1 => ?_)
    obtain ⟨r1, h2, h3⟩ := bindAll_mem h p hpl
    obtain ⟨x1, fr1⟩ := p
    cases x1 with
    | norm =>
     simp only at h2
     exact ih n (by omega) c2 fr1 r1 h2 (fun call hc => (hd call hc).2) B Q w1 O1 M1 a1 ha1 fun q hql w2 O2 M2 a2 ha2 k2 => hq q (h3 q hql) _ _ _ _ ha2 (k1.trans k2)
    | exit i =>
     simp only [Option.some.injEq] at h2
     subst h2
     exact hq _ (h3 _ (List.mem_singleton.2 rfl)) _ _ _ _ ha1 k1
    | ret =>
     simp only [Option.some.injEq] at h2
     subst h2
     exact hq _ (h3 _ (List.mem_singleton.2 rfl)) _ _ _ _ ha1 k1
   | cond o c1 c2 =>
    simp only [evA, Option.bind_eq_some_iff] at h
    obtain ⟨v, hv, h⟩ := h
    have hvr := opVal_sound ha.sit ha.slots hv
    split at h
    ·refine wp_cond_true ?_ (ih n (by omega) c1 fr l h (fun call hc => (hd call hc).1) B Q w O M a ha hq)
     generalize a.eval o = q at hvr; cases hvr; rfl
    ·refine wp_cond_false ?_ (ih n (by omega) c2 fr l h (fun call hc => (hd call hc).2) B Q w O M a ha hq)
     generalize a.eval o = q at hvr; cases hvr; rfl
    ·cases h
   | block id c1 =>
    simp only [evA, Option.map_eq_some_iff] at h
    obtain ⟨l1, h1, rfl⟩ := h
    refine wp_block (ih n (by omega) c1 fr l1 h1 (fun call hc => hd call hc) B _ w O M a ha fun p hpl w1 O1 M1 a1 ha1 k1 => ?_)
    have hm := hq (behind id p) (List.mem_map.2 ⟨p, hpl, rfl⟩) w1 O1 M1 a1
    obtain ⟨x1, fr1⟩ := p
    cases x1 with
    | norm => exact hm ha1 k1
    | ret => exact hm ha1 k1
    | exit i =>
     show (if i = id then Q .normal a1 w1 else Q (.exit i) a1 w1)
     unfold behind at hm
     by_cases e : i = id
     ·rw [if_pos e]
      simp only [(beq_iff i id).2 e, cond_true] at hm
      exact hm ha1 k1
     ·rw [if_neg e]
      simp only [beq_false e, cond_false] at hm
      exact hm ha1 k1
   | loop c1 =>
    refine wp_loop_n (fun k a1 w1 => ∃ fr1 O1 M1 l1, k ≤ n + 1 ∧ evA C k (.loop c1) fr1 = some l1 ∧ (∀ p ∈ l1, p ∈ l) ∧ AR C B w1 O1 M1 fr1 a1 ∧ Step C B true w O M fr.st w1 O1 M1 fr1.st) (n := n + 1) ⟨fr, O, M, l, Nat.le_refl _, h, fun _ h => h, ha, .refl ha.sit⟩ ?_
    rintro k a1 w1 ⟨fr1, O1, M1, l1, hk, hev, hsub, ha1, k1⟩
    cases k with
    | zero => simp [evA] at hev
    | succ m =>
     simp only [evA, Option.bind_eq_some_iff] at hev
     obtain ⟨l2, h2, hev⟩ := hev
     refine ih m (by omega) c1 fr1 l2 h2 (fun call hc => hd call hc) B _ w1 O1 M1 a1 ha1 fun p hpl w2 O2 M2 a2 ha2 k2 => ?_
     obtain ⟨r1, h4, h5⟩ := bindAll_mem hev p hpl
     obtain ⟨x2, fr2⟩ := p
     cases x2 with
     | norm => exact ⟨m, by omega, fr2, O2, M2, r1, by omega, h4, fun q hql => hsub q (h5 q hql), ha2, k1.trans k2⟩
     | exit i =>
      simp only [Option.some.injEq] at h4
      subst h4
      exact hq _ (hsub _ (h5 _ (List.mem_singleton.2 rfl))) _ _ _ _ ha2 (k1.trans k2)
     | ret =>
      simp only [Option.some.injEq] at h4
      subst h4
      exact hq _ (hsub _ (h5 _ (List.mem_singleton.2 rfl))) _ _ _ _ ha2 (k1.trans k2)
   | _ => simp [evA] at h
theorem runA_sound (hT : TyOk P C) (hp : PrimsOk P C) (hF : FnsOk P C) (hD : ∀ f fn body, C.funs.get f = some fn → fn.body = some body → Draws P C body) {n : Nat} {f : FuncId} {args : List AV} {l : List (AV × St)} (h : runA C n f args = some l)
  {cargs : List Value} (hg : ∀ g cs, C.globs g = some cs → VR C w (fun _ => False) B (fun _ => none) (.pdat false cs) (.pointer (some ⟨g, 0, none⟩))) (hB : ∀ b, B b → b < w.heap.size)
  (ha : LR C w (fun _ => False) B (fun _ => none) args cargs) :
  FnOk P f cargs.toArray w fun cv w' => ∃ p ∈ l, ∃ O' M', VR C w' O' B M' p.1 cv ∧ Ext w (fun _ => False) (fun _ => none) w' O' M' ∧ Sit C w' O' B M' p.2.heap := by
 unfold runA at h
 simp only [Option.bind_eq_some_iff] at h
 obtain ⟨fn, hfn, body, hb, l1, hev, h⟩ := h
 obtain ⟨hf, hname⟩ := hF.fn f fn body hfn hb
 intro o a next Q hnext
 rw [run_enter hf hname hb, Oper.upon_enter]
 have hl := ha.len
 have hAR : AR C B w (fun _ => False) (fun _ => none) { tmps := args ++ List.replicate (fn.ntmps - args.length) (.tup []), st := { heap := [], nxt := 0, low := 0 } } { tmps := cargs.toArray ++ Array.replicate (fn.ntmps - cargs.toArray.size) undef, defers := [] } := by
  refine ⟨⟨fun b blk h => (by simp [hget] at h), fun b b' blk blk' _ _ _ h => (by simp [hget] at h), hg, fun _ h => h.elim, hB⟩, fun _ h => h.elim, fun _ _ => rfl, ⟨by simp [hl], fun j h1 h2 _ => ?_⟩, rfl⟩
  simp only
  by_cases hj : j < args.length
  ·rw [List.getElem_append_left hj, Array.getElem_append_left (by simp [hl]; exact hj)]
   simpa using ha.rel j hj (by omega)
  ·rw [List.getElem_append_right (by omega), Array.getElem_append_right (by simp [hl]; omega)]
   simp only [List.getElem_replicate, Array.getElem_replicate]
   exact undef_rel
 refine calls_of_wp hf hb (evA_sound hT hp hF hD n body _ l1 hev (hD f fn body hfn hb) B _ w _ _ _ hAR fun p hpl w' O' M' a' ha' k => ?_)
 obtain ⟨r1, h1, h2⟩ := bindAll_mem h p hpl
 simp only [Option.bind_eq_some_iff, Option.some.injEq] at h1
 obtain ⟨_, hx, vs, hvs, rfl⟩ := h1
 have hx := chk_some hx
 obtain ⟨v, h3, h4⟩ := results_run (P := P) hT ha' hvs
 have fin : a'.defers = [] ∧ ∃ v, (Go.results fn a'.tmps).run P w' = .ok v w' ∧ next (a.put o.dst v) w' := ⟨ha'.nodef, v, h3, hnext v w' ⟨_, h2 _ (List.mem_singleton.2 rfl), O', M', h4, k.ext, k.sit⟩⟩
 obtain ⟨x, g⟩ := p
 cases x with
 | norm => exact fin
 | ret => exact fin
 | exit i => cases hx
theorem memo_primA (ht : C.types = C0.types) (hgl : C.globs = C0.globs) (hT : TyOk P C0) (hp : PrimsOk P C0) (hF : FnsOk P C0) (hD : ∀ f fn body, C0.funs.get f = some fn → fn.body = some body → Draws P C0 body) {n : Nat} {f : FuncId} {tbl : List (List AV × AV)} (h : tbl.all (memoChkA C0 n f) = true)
  {ds : List AV} {r : AV} (hm : memo tbl ds = some r) {cargs : List Value} (hg : ∀ g cs, C.globs g = some cs → VR C w (fun _ => False) B (fun _ => none) (.pdat false cs) (.pointer (some ⟨g, 0, none⟩))) (hB : ∀ b, B b → b < w.heap.size)
  (ha : LR C w (fun _ => False) B (fun _ => none) ds cargs) :
  FnOk P f cargs.toArray w fun cv w' => VR C w' (fun _ => False) B (fun _ => none) r cv ∧ Ext w (fun _ => False) (fun _ => none) w' (fun _ => False) (fun _ => none) := by
 have hc := List.all_eq_true.1 h _ (memo_some hm)
 unfold memoChkA at hc
 simp only [Bool.and_eq_true] at hc
 obtain ⟨hd, hc⟩ := hc
 split at hc
 ·rename_i l hr
  have hg0 : ∀ g cs, C0.globs g = some cs → VR C0 w (fun _ => False) B (fun _ => none) (.pdat false cs) (.pointer (some ⟨g, 0, none⟩)) := fun g cs hgc => (hg g cs (by rw [hgl]; exact hgc)).ctx ht
  refine (runA_sound hT hp hF hD hr hg0 hB ⟨ha.len, fun j h1 h2 => (ha.rel j h1 h2).ctx ht⟩).mono fun cv w' ⟨q, hql, O', M', h1, h2, h3⟩ => ?_
  have hc := List.all_eq_true.1 hc q hql
  split at hc
  ·rename_i r' hf
   have := avEq_eq hc
   subst this
   have hTg : Tgt false O' B M' q.2.heap (fun _ => False) B := ⟨fun _ h => h.elim, fun h => (by cases h), fun _ h => .inr h, fun b blk cb base hb hM => ⟨fun h => h, fun _ => by
    obtain ⟨cb', base', hM', hO', _⟩ := h3.own b blk hb
    rw [hM] at hM'
    obtain ⟨rfl, rfl⟩ := Prod.mk.inj (Option.some.inj hM')
    exact h3.sep cb hO'⟩⟩
   obtain ⟨hl, _, _⟩ := freezeL_sound (M2 := fun _ => none) hTg (.of h3) deep (l := [q.1]) (vs := [cv]) ⟨rfl, fun j a b => by
    have : j = 0 := by simp at a; exact a
    subst this; exact h1⟩ hf
   have hv := hl.rel 0 (by simp) (by simp)
   simp only [List.getElem_cons_zero] at hv
   exact ⟨hv.ctx ht.symm, ⟨h2.os, h2.tape, h2.output, h2.size, h2.keep, h2.shp, fun _ h => h.elim, fun _ _ h => by cases h⟩⟩
  ·cases hc
 ·cases hc
end
end Go.Ev
