/- A PART OF THE PROOF THAT SAVETEXTS HOLDS FOR EVERY INPUT OF BULK AT MOST 1048576. No condition beyond the given statement. This part: EvSwap. -/
import Derived.Test.YtciahohaonhdgaaGreatDoorEvCode
namespace Go.Ev
open Go
section
variable {C : Ctx} {call : CallF} {ops : Array Oper}
theorem vals_congr {ρ ρ' : Look} : ∀ {l : List Operand}, (∀ x ∈ l, ρ x = ρ' x) → vals ρ l = vals ρ' l
 | [], _ => rfl
 | x :: r, h => by
  unfold vals
  rw [h x (by simp), vals_congr (l := r) fun y hy => h y (by simp [hy])]
theorem partV_congr {ρ ρ' : Look} : ∀ {l : List (Nat × Operand)}, (∀ x ∈ l.map (·.2), ρ x = ρ' x) → partV ρ l = partV ρ' l
 | [], _ => rfl
 | (i, x) :: r, h => by
  unfold partV
  rw [h x (by simp), partV_congr (l := r) fun y hy => h y (by simp at hy ⊢; exact .inr hy)]
theorem optV_congr {ρ ρ' : Look} {o : Option Operand} (h : ∀ x, o = some x → ρ x = ρ' x) : optV ρ o = optV ρ' o := by
 cases o with
 | none => rfl
 | some x => show (ρ x).map some = (ρ' x).map some; rw [h x rfl]
theorem evOp_congr {serial : Bool} {ρ ρ' : Look} {o : Oper} {st : St} (h : ∀ x ∈ o.op.operands, ρ x = ρ' x) : evOp C call serial ρ o st = evOp C call serial ρ' o st := by
 unfold evOp
 cases hop : o.op <;> rw [hop] at h <;> simp only [Op.operands] at h <;> try rfl
 case makeFunc f first captured =>
  cases f <;> try rfl
  simp only
  rw [vals_congr fun x hx => h x (by simp at hx ⊢; exact .inr hx), vals_congr (l := first.toList) fun x hx => h x (by simp at hx ⊢; exact .inl hx)]
 case makeMap t r =>
  cases r <;> rfl
 case build t ps => simp only; rw [partV_congr fun x hx => h x (by simpa using hx)]
 case buildSlice t n ps => simp only; rw [partV_congr fun x hx => h x (by simpa using hx)]
 case slice t x lo hi mx =>
  simp only
  rw [h x (by simp), optV_congr (o := lo) fun y hy => h y (by simp [hy]), optV_congr (o := hi) fun y hy => h y (by simp [hy]), optV_congr (o := mx) fun y hy => h y (by simp [hy])]
 case next x s => cases s <;> first | rfl | (simp only; rw [h x (by simp)])
 case call c =>
  simp only [Call.operands] at h
  simp only
  rw [vals_congr fun x hx => h x (by simp at hx ⊢; exact .inr hx)]
  cases hc : c.callee with
  | value f => simp only; rw [h f (by simp [hc])]
  | builtin b => cases b <;> rfl
  | invoke r m => rfl
 all_goals (simp only; first | rw [h _ (by simp)] | skip)
 all_goals (first | rfl | (rw [h _ (by simp), h _ (by simp)]; done) | skip)
 all_goals (first | (simp at h; simp only [h]; done) | skip)
theorem getL_setL {α : Type} : ∀ {l : List α} {n m : Nat} {v : α}, n ≠ m → getL (setL l n v) m = getL l m
 | [], _, _, _, _ => rfl
 | _ :: _, 0, 0, _, h => absurd rfl h
 | _ :: _, 0, _ + 1, _, _ => rfl
 | _ :: _, _ + 1, 0, _, _ => rfl
 | _ :: xs, n + 1, m + 1, v, h => by
  simp only [setL, getL]
  exact getL_setL (l := xs) (fun e => h (by rw [e]))
theorem setL_comm {α : Type} : ∀ {l : List α} {n m : Nat} {v u : α}, n ≠ m → setL (setL l n v) m u = setL (setL l m u) n v
 | [], _, _, _, _, _ => rfl
 | _ :: _, 0, 0, _, _, h => absurd rfl h
 | _ :: _, 0, _ + 1, _, _, _ => rfl
 | _ :: _, _ + 1, 0, _, _, _ => rfl
 | _ :: xs, n + 1, m + 1, v, u, h => by
  simp only [setL]
  rw [setL_comm (l := xs) (fun e => h (by rw [e]))]
theorem opVal_put {ts : List AV} {dst : Option Tmp} {v : AV} {x : Operand} (h : ∀ d, dst = some d → x ≠ .tmp d) : opVal C (putT ts dst v) x = opVal C ts x := by
 cases dst with
 | none => rfl
 | some d =>
  cases x with
  | tmp t => show getV _ t = getV _ t; unfold getV; rw [show getL (putT ts (some d) v) t = getL ts t from getL_setL fun e => h d rfl (by rw [e])]
  | _ => rfl
theorem evOp_put {serial : Bool} {ts : List AV} {dst : Option Tmp} {v : AV} {o : Oper} {st : St} (h : ∀ d, dst = some d → d ∉ o.looksAt ops) : evOp C call serial (opVal C (putT ts dst v)) o st = evOp C call serial (opVal C ts) o st :=
 evOp_congr fun x hx => opVal_put fun d hd hxd => h d hd (by
  subst hxd
  exact List.mem_append_left _ (List.mem_filterMap.2 ⟨.tmp d, by simpa using hx, rfl⟩))
theorem isWanted_put {ts : List AV} {dst : Option Tmp} {v : AV} {o : Oper} (h : ∀ d, dst = some d → d ∉ o.looksAt ops) : isWanted ops o (putT ts dst v) = isWanted ops o ts := by
 cases dst with
 | none => rfl
 | some d =>
  unfold isWanted
  cases hg : o.guard with
  | none => rfl
  | some p =>
   obtain ⟨j, want⟩ := p
   simp only
   have : yields ops (putT ts (some d) v) j = yields ops ts j := by
    unfold yields
    cases hd : (ops[j]?).bind (·.dst) with
    | none => rfl
    | some e =>
     simp only [Option.bind_some]
     have hne : d ≠ e := fun he => h d rfl (by
      subst he
      exact List.mem_append_right _ (by simp [hg, hd]))
     rw [show getL (putT ts (some d) v) e = getL ts e from getL_setL hne]
   rw [this]
theorem guardOk_put {ts : List AV} {dst : Option Tmp} {v : AV} {o : Oper} (h : ∀ d, dst = some d → d ∉ o.looksAt ops) : guardOk ops o (putT ts dst v) = guardOk ops o ts := by
 cases dst with
 | none => rfl
 | some d =>
  unfold guardOk
  cases hg : o.guard with
  | none => rfl
  | some p =>
   obtain ⟨j, want⟩ := p
   simp only
   cases hd : (ops[j]?).bind (·.dst) with
   | none => rfl
   | some e =>
    simp only [Option.bind_some]
    have hne : d ≠ e := fun he => h d rfl (by
     subst he
     exact List.mem_append_right _ (by simp [hg, hd]))
    rw [show getL (putT ts (some d) v) e = getL ts e from getL_setL hne]
theorem readOf_put {ts : List AV} {dst : Option Tmp} {v : AV} {o : Oper} (h : ∀ d, dst = some d → d ∉ o.looksAt ops) : readOf C (opVal C (putT ts dst v)) o.op = readOf C (opVal C ts) o.op := by
 unfold readOf
 cases hop : o.op <;> try rfl
 rename_i t x
 simp only
 rw [opVal_put fun d hd hxd => h d hd (by
  subst hxd
  exact List.mem_append_left _ (List.mem_filterMap.2 ⟨.tmp d, by simp [hop, Op.operands], rfl⟩))]
theorem act_put {base : Nat} {bef : List Nat} {o : Oper} {j : Nat} {ts : List AV} {dst : Option Tmp} {v : AV} {st : St} {lg : Lg} (h : ∀ d, dst = some d → d ∉ o.looksAt ops) : act C call base ops bef o j (putT ts dst v) st lg = act C call base ops bef o j ts st lg := by
 unfold act
 rw [isWanted_put h, guardOk_put h, readOf_put h]
 simp only [evOp_put h]
theorem putT_comm {ts : List AV} {x y : Option Tmp} {v u : AV} (h : ∀ d, x = some d → y ≠ some d) : putT (putT ts x v) y u = putT (putT ts y u) x v := by
 cases x with
 | none => rfl
 | some d => cases y with
  | none => rfl
  | some e => exact setL_comm fun he => h d rfl (by rw [he])
theorem vis_set {bef : Nat} {D : Heap} : ∀ {l : List Heap} {i j : Nat}, bef.testBit (i + j) = false → vis bef (setL l j D) i = vis bef l i
 | [], _, _, _ => rfl
 | x :: r, i, 0, h => by
  have h : bef.testBit i = false := by simpa using h
  simp only [setL, vis, h, cond_false]
 | x :: r, i, j + 1, h => by
  simp only [setL, vis]
  rw [vis_set (l := r) (i := i + 1) (j := j) (by rw [show i + 1 + j = i + (j + 1) by omega]; exact h)]
theorem wipe_set {bef : Nat} {D : Heap} : ∀ {l : List Heap} {i j : Nat}, bef.testBit (i + j) = false → wipe bef (setL l j D) i = setL (wipe bef l i) j D
 | [], _, _, _ => rfl
 | x :: r, i, 0, h => by
  have h : bef.testBit i = false := by simpa using h
  simp only [setL, wipe, h, cond_false]
 | x :: r, i, j + 1, h => by
  simp only [setL, wipe]
  rw [wipe_set (l := r) (i := i + 1) (j := j) (by rw [show i + 1 + j = i + (j + 1) by omega]; exact h)]
mutual
theorem avEq_eq : ∀ {a b : AV}, avEq a b = true → a = b
 | .bool a, b, h => by cases b <;> simp_all [avEq]
 | .int k n, b, h => by
  cases b <;> simp only [avEq, Bool.and_eq_true, beq_iff_eq] at h <;> try (cases h; done)
  rename_i l m
  obtain ⟨h1, rfl⟩ := h
  by_cases e : k = l
  ·subst e; rfl
  ·rw [if_neg e] at h1; cases h1
 | .flt k n, b, h => by
  cases b <;> simp only [avEq, Bool.and_eq_true, beq_iff] at h <;> try (cases h; done)
  rename_i l m
  obtain ⟨h1, rfl⟩ := h
  by_cases e : k = l
  ·subst e; rfl
  ·rw [if_neg e] at h1; cases h1
 | .str a, b, h => by
  cases b <;> simp only [avEq] at h <;> try (cases h; done)
  rw [eq_of_beq h]
 | .pnil, b, h => by cases b <;> first | rfl | (simp [avEq] at h)
 | .snil, b, h => by cases b <;> first | rfl | (simp [avEq] at h)
 | .mnil, b, h => by cases b <;> first | rfl | (simp [avEq] at h)
 | .fnil, b, h => by cases b <;> first | rfl | (simp [avEq] at h)
 | .inil, b, h => by cases b <;> first | rfl | (simp [avEq] at h)
 | .pref c o, b, h => by
  cases b <;> simp only [avEq, Bool.and_eq_true, beq_iff] at h <;> try (cases h; done)
  obtain ⟨rfl, rfl⟩ := h; rfl
 | .pdat t cs, b, h => by
  cases b <;> simp only [avEq, Bool.and_eq_true, beq_iff_eq] at h <;> try (cases h; done)
  obtain ⟨rfl, h⟩ := h
  rw [avEqL_eq h]
 | .sref c o l k, b, h => by
  cases b <;> simp only [avEq, Bool.and_eq_true, beq_iff, beq_iff_eq] at h <;> try (cases h; done)
  obtain ⟨⟨⟨rfl, rfl⟩, rfl⟩, rfl⟩ := h; rfl
 | .sdat t z xs c, b, h => by
  cases b <;> simp only [avEq, Bool.and_eq_true, beq_iff, beq_iff_eq] at h <;> try (cases h; done)
  obtain ⟨⟨⟨rfl, rfl⟩, h⟩, rfl⟩ := h
  rw [avEqL_eq h]
 | .sown .., b, h => by cases b <;> simp [avEq] at h
 | .clo f cs, b, h => by
  cases b <;> simp only [avEq, Bool.and_eq_true, beq_iff] at h <;> try (cases h; done)
  obtain ⟨rfl, h⟩ := h
  rw [avEqL_eq h]
 | .bnd f cs, b, h => by
  cases b <;> simp only [avEq, Bool.and_eq_true, beq_iff] at h <;> try (cases h; done)
  obtain ⟨rfl, h⟩ := h
  rw [avEqL_eq h]
 | .ifc t v, b, h => by
  cases b <;> simp only [avEq, Bool.and_eq_true, beq_iff] at h <;> try (cases h; done)
  obtain ⟨rfl, h⟩ := h
  rw [avEq_eq h]
 | .agg cs, b, h => by
  cases b <;> simp only [avEq] at h <;> try (cases h; done)
  rw [avEqL_eq h]
 | .tup cs, b, h => by
  cases b <;> simp only [avEq] at h <;> try (cases h; done)
  rw [avEqL_eq h]
 | .mref c, b, h => by
  cases b <;> simp only [avEq, beq_iff] at h <;> try (cases h; done)
  subst h; rfl
 | .mdat t ks vs bs c, b, h => by
  cases b <;> simp only [avEq, Bool.and_eq_true, beq_iff, beq_iff_eq] at h <;> try (cases h; done)
  obtain ⟨⟨⟨⟨rfl, h1⟩, h2⟩, rfl⟩, rfl⟩ := h
  rw [avEqL_eq h1, avEqL_eq h2]
 | .mown .., b, h => by cases b <;> simp [avEq] at h
theorem avEqL_eq : ∀ {a b : List AV}, avEqL a b = true → a = b
 | [], [], _ => rfl
 | a :: r, b :: s, h => by
  simp only [avEqL, Bool.and_eq_true] at h
  rw [avEq_eq h.1, avEqL_eq h.2]
 | [], _ :: _, h => by simp [avEqL] at h
 | _ :: _, [], h => by simp [avEqL] at h
end
theorem readAt_take {i : TI} {cs ds : List AV} (h1 : (cs.take i.info.size).length = i.info.size) (h : cs.take i.info.size = ds.take i.info.size) : readAt i cs = readAt i ds := by
 have h2 : (ds.take i.info.size).length = i.info.size := by rw [← h]; exact h1
 rw [List.length_take] at h1 h2
 have e1 : Nat.ble i.info.size cs.length = true := by rw [Nat.ble_eq]; omega
 have e2 : Nat.ble i.info.size ds.length = true := by rw [Nat.ble_eq]; omega
 unfold readAt
 rw [e1, e2, h]
 cases i.agg with
 | true => rfl
 | false =>
  simp only [cond_false]
  cases hq : Nat.beq i.info.size 1 with
  | false => rfl
  | true =>
   have h3 := (beq_iff _ _).1 hq
   rw [h3] at h h1 h2
   cases cs with
   | nil => simp at h1
   | cons c cs => cases ds with
    | nil => simp at h2
    | cons d ds =>
     simp at h
     subst h
     rfl
def rset (reads : List (List (Nat × Nat × Nat))) (j : Nat) : Option (Nat × Nat × Nat) → List (List (Nat × Nat × Nat))
 | none => reads
 | some b => pushL reads j b
theorem logRead_iff {bef : List Nat} {j : Nat} {lg lg' : Lg} {p : Option (Nat × Nat × Nat)} :
  logRead bef j lg p = some lg' ↔ (∀ b, p = some b → effsOk bef j b lg.effs = true) ∧ lg' = { lg with reads := rset lg.reads j p } := by
 cases p with
 | none => exact ⟨fun h => ⟨fun b e => (by cases e), (Option.some.inj h).symm⟩, fun ⟨_, h⟩ => by rw [h]; rfl⟩
 | some b =>
  simp only [logRead, rset, Option.bind_eq_some_iff, Option.some.injEq]
  constructor
  ·rintro ⟨_, h1, h2⟩
   exact ⟨fun b' e => e ▸ chk_some h1, h2.symm⟩
  ·rintro ⟨h1, rfl⟩
   exact ⟨(), by simp [chk, h1 b rfl], rfl⟩
theorem pushL_comm {α : Type} : ∀ {l : List (List α)} {n m : Nat} {v u : α}, n ≠ m → pushL (pushL l n v) m u = pushL (pushL l m u) n v
 | [], _, _, _, _, _ => rfl
 | _ :: _, 0, 0, _, _, h => absurd rfl h
 | _ :: _, 0, _ + 1, _, _, _ => rfl
 | _ :: _, _ + 1, 0, _, _, _ => rfl
 | _ :: xs, n + 1, m + 1, v, u, h => by
  simp only [pushL]
  rw [pushL_comm (l := xs) (fun e => h (by rw [e]))]
theorem rset_comm {l : List (List (Nat × Nat × Nat))} {n m : Nat} {v u : Option (Nat × Nat × Nat)} (h : n ≠ m) : rset (rset l n v) m u = rset (rset l m u) n v := by
 cases v <;> cases u <;> first | rfl | exact pushL_comm h
theorem readsOk_less {bef : List Nat} {j : Nat} {H H' : Heap} {b : Nat × Nat × Nat} : ∀ {l : List (List (Nat × Nat × Nat))} {n i : Nat}, readsOk bef j H H' (pushL l n b) i = true → readsOk bef j H H' l i = true
 | [], _, _, _ => rfl
 | _ :: _, 0, _, h => by
  simp only [pushL, readsOk, List.all_cons, Bool.and_eq_true] at h ⊢
  exact ⟨h.1.2, h.2⟩
 | _ :: xs, n + 1, i, h => by
  simp only [pushL, readsOk, Bool.and_eq_true] at h ⊢
  exact ⟨h.1, readsOk_less h.2⟩
theorem readsOk_hit {bef : List Nat} {j : Nat} {H H' : Heap} {b : Nat × Nat × Nat} : ∀ {l : List (List (Nat × Nat × Nat))} {n i : Nat}, n < l.length → readsOk bef j H H' (pushL l n b) i = true → (ordered bef (i + n) j || sameAt b H H') = true
 | [], _, _, h, _ => by simp at h
 | _ :: _, 0, _, _, h => by
  simp only [pushL, readsOk, List.all_cons, Bool.and_eq_true] at h
  simpa using h.1.1
 | _ :: xs, n + 1, i, hl, h => by
  simp only [pushL, readsOk, Bool.and_eq_true] at h
  have := readsOk_hit (l := xs) (n := n) (i := i + 1) (by simpa using hl) h.2
  rw [show i + (n + 1) = i + 1 + n by omega]
  exact this
theorem readsOk_more {bef : List Nat} {j : Nat} {H H' : Heap} {b : Nat × Nat × Nat} : ∀ {l : List (List (Nat × Nat × Nat))} {n i : Nat}, readsOk bef j H H' l i = true → sameAt b H H' = true → readsOk bef j H H' (pushL l n b) i = true
 | [], _, _, _, _ => rfl
 | _ :: _, 0, _, h, h2 => by
  simp only [pushL, readsOk, List.all_cons, Bool.and_eq_true, Bool.or_eq_true] at h ⊢
  exact ⟨⟨.inr h2, h.1⟩, h.2⟩
 | _ :: xs, n + 1, i, h, h2 => by
  simp only [pushL, readsOk, Bool.and_eq_true] at h ⊢
  exact ⟨h.1, readsOk_more h.2 h2⟩
def genAct (C : Ctx) (call : CallF) (base : Nat) (bef : List Nat) (o : Oper) (j : Nat) (ts : List AV) (st : St) (lg : Lg) : Option (AV × St × Lg) :=
 (evOp C call false (opVal C ts) o { heap := bif isLoad o.op then st.heap else vis (bef.getD j 0) lg.made 0 ++ st.heap, nxt := base + j * share, low := 0 }).bind fun (v, st') =>
   (chk (madeOk (base + j * share) st'.nxt (st'.heap.take (st'.nxt - (base + j * share))))).bind fun _ =>
    (logRead bef j lg (readOf C (opVal C ts) o.op)).map fun lg => (v, st, { lg with made := setL lg.made j (st'.heap.take (st'.nxt - (base + j * share))) })
def weakAct (C : Ctx) (call : CallF) (bef : List Nat) (o : Oper) (j : Nat) (ts : List AV) (st : St) (lg : Lg) : Option (AV × St × Lg) :=
 (evOp C call true (opVal C ts) o { st with heap := vis (bef.getD j 0) lg.made 0 ++ st.heap }).bind fun (v, st') =>
    (chk (readsOk bef j st.heap st'.heap lg.reads 0)).bind fun _ =>
     some (v, st', { lg with made := wipe (bef.getD j 0) lg.made 0, effs := (j, st.heap, st'.heap) :: lg.effs })
theorem gen_iff {base : Nat} {bef : List Nat} {o : Oper} {j : Nat} {ts : List AV} {st st2 : St} {lg lg2 : Lg} {v : AV} : genAct C call base bef o j ts st lg = some (v, st2, lg2) ↔
  ∃ s', evOp C call false (opVal C ts) o { heap := bif isLoad o.op then st.heap else vis (bef.getD j 0) lg.made 0 ++ st.heap, nxt := base + j * share, low := 0 } = some (v, s') ∧ madeOk (base + j * share) s'.nxt (s'.heap.take (s'.nxt - (base + j * share))) = true ∧
   (∀ b, readOf C (opVal C ts) o.op = some b → effsOk bef j b lg.effs = true) ∧ st2 = st ∧ lg2 = { made := setL lg.made j (s'.heap.take (s'.nxt - (base + j * share))), reads := rset lg.reads j (readOf C (opVal C ts) o.op), effs := lg.effs } := by
 unfold genAct
 simp only [Option.bind_eq_some_iff, Option.map_eq_some_iff, Prod.mk.injEq, logRead_iff]
 constructor
 ·rintro ⟨⟨v', s'⟩, h1, _, h2, lg1, ⟨h3, rfl⟩, rfl, rfl, rfl⟩
  exact ⟨s', h1, chk_some h2, h3, rfl, rfl⟩
 ·rintro ⟨s', h1, h2, h3, rfl, rfl⟩
  exact ⟨(v, s'), h1, (), by simp [chk, h2], _, ⟨h3, rfl⟩, rfl, rfl, rfl⟩
theorem weak_iff {bef : List Nat} {o : Oper} {j : Nat} {ts : List AV} {st st2 : St} {lg lg2 : Lg} {v : AV} : weakAct C call bef o j ts st lg = some (v, st2, lg2) ↔
  evOp C call true (opVal C ts) o { st with heap := vis (bef.getD j 0) lg.made 0 ++ st.heap } = some (v, st2) ∧ readsOk bef j st.heap st2.heap lg.reads 0 = true ∧
   lg2 = { made := wipe (bef.getD j 0) lg.made 0, reads := lg.reads, effs := (j, st.heap, st2.heap) :: lg.effs } := by
 unfold weakAct
 simp only [Option.bind_eq_some_iff, Option.some.injEq, Prod.mk.injEq]
 constructor
 ·rintro ⟨⟨v', s'⟩, h1, _, h2, rfl, rfl, rfl⟩
  exact ⟨h1, chk_some h2, rfl⟩
 ·rintro ⟨h1, h2, rfl⟩
  exact ⟨(v, st2), h1, (), by simp [chk, h2], rfl, rfl, rfl⟩
theorem act_kind {base : Nat} {bef : List Nat} {o : Oper} {j : Nat} {ts : List AV} :
  (∃ q : Option AV, ∀ st lg, act C call base ops bef o j ts st lg = q.map fun v => (v, st, lg)) ∨ (quiet C o.op = false ∧ weakAt C ops.toList bef o.op j = true ∧ ∀ st lg, act C call base ops bef o j ts st lg = weakAct C call bef o j ts st lg) ∨
  (quiet C o.op = false ∧ weakAt C ops.toList bef o.op j = false ∧ ∀ st lg, act C call base ops bef o j ts st lg = genAct C call base bef o j ts st lg) := by
 cases hgk : guardOk ops o ts with
 | false => exact .inl ⟨none, fun st lg => by unfold act; rw [hgk]; rfl⟩
 | true =>
 cases hw : isWanted ops o ts with
 | false => exact .inl ⟨some (.tup []), fun st lg => by unfold act; rw [hgk, hw]; rfl⟩
 | true =>
  cases hq : quiet C o.op with
  | true =>
   refine .inl ⟨(evOp C call false (opVal C ts) o { heap := [], nxt := 0, low := 0 }).map (·.1), fun st lg => ?_⟩
   unfold act; rw [hgk, hw, hq]
   cases evOp C call false (opVal C ts) o { heap := [], nxt := 0, low := 0 } <;> rfl
  | false =>
   cases hs : weakAt C ops.toList bef o.op j with
   | true => exact .inr (.inl ⟨rfl, rfl, fun st lg => by unfold act; rw [hgk, hw, hq, hs]; rfl⟩)
   | false => exact .inr (.inr ⟨rfl, rfl, fun st lg => by unfold act; rw [hgk, hw, hq, hs]; rfl⟩)
theorem evOp_blind {o : Oper} (h : blind o.op = true) (ρ : Look) (m : Nat) : ∃ q : Option (AV × Heap × Nat), (∀ v D n, q = some (v, D, n) → n = m + D.length) ∧ ∀ X : Heap, evOp C call false ρ o { heap := X, nxt := m, low := 0 } = q.map fun (v, D, n) => (v, { heap := D ++ X, nxt := n, low := 0 }) := by
 unfold evOp
 cases hop : o.op <;> rw [hop] at h <;> simp only [blind] at h <;> try (cases h; done)
 ·rename_i e
  refine ⟨(C.ti e).bind fun i => i.zero.bind fun z => some (.pref m 0, [(m, .cells e z.cells)], m + 1), fun v D n hq => ?_, fun X => ?_⟩
  ·simp only [Option.bind_eq_some_iff, Option.some.injEq, Prod.mk.injEq] at hq
   obtain ⟨_, _, _, _, _, rfl, rfl⟩ := hq; rfl
  ·simp only
   cases C.ti e with
   | none => rfl
   | some i => cases hz : i.zero with
    | none => simp [hz]
    | some z => simp [hz, St.new]
 ·rename_i e x
  refine ⟨(ρ x).bind fun v => v.row.bind fun row => some (.pref m 0, [(m, .cells e row)], m + 1), fun v D n hq => ?_, fun X => ?_⟩
  ·simp only [Option.bind_eq_some_iff, Option.some.injEq, Prod.mk.injEq] at hq
   obtain ⟨_, _, _, _, _, rfl, rfl⟩ := hq; rfl
  ·simp only
   cases ρ x with
   | none => rfl
   | some i => cases hz : i.row with
    | none => simp [hz]
    | some z => simp [hz, St.new]
 ·rename_i t len parts
  refine ⟨(partV ρ parts.toList).bind fun ps => (mBuildSlice C t len ps { heap := [], nxt := m, low := 0 }).map fun (v, st) => (v, st.heap, st.nxt), fun v D n hq => ?_, fun X => ?_⟩
  ·unfold mBuildSlice at hq
   simp only [Option.bind_eq_some_iff, Option.map_eq_some_iff, Option.some.injEq, Prod.mk.injEq] at hq
   obtain ⟨_, _, ⟨_, _⟩, ⟨_, _, _, _, _, _, _, _, _, _, rfl, rfl⟩, _, rfl, rfl⟩ := hq
   simp [St.new]
  ·simp only
   cases partV ρ parts.toList with
   | none => rfl
   | some ps =>
    unfold mBuildSlice
    simp only [Option.bind_some]
    cases C.elem t with
    | none => rfl
    | some e => simp only [Option.bind_some]; cases C.ti e with
     | none => rfl
     | some i => simp only [Option.bind_some]; cases i.zero with
      | none => rfl
      | some z =>
       simp only [Option.bind_some]
       cases chk (Nat.ble (len * i.info.size) 16777216 && Nat.blt 0 i.info.size) with
       | none => rfl
       | some _ =>
        simp only [Option.bind_some]
        cases fillAV (fun j => some (j * i.info.size, i.info.size)) (rep len z.cells) ps with
        | none => rfl
        | some cs => rfl
 ·rename_i t r
  cases r with
  | some r => cases h
  | none =>
   refine ⟨(C.desc t).bind fun d => (chk (match d with | .map .. => true | _ => false)).bind fun _ => some (.mref m, [(m, .map [] [] [] 0)], m + 1), fun v D n hq => ?_, fun X => ?_⟩
   ·simp only [Option.bind_eq_some_iff, Option.some.injEq, Prod.mk.injEq] at hq
    obtain ⟨_, _, _, _, _, rfl, rfl⟩ := hq; rfl
   ·simp only
    cases C.desc t with
    | none => rfl
    | some d => cases d <;> rfl
 ·rename_i t l c
  refine ⟨(ρ l).bind fun l => (ρ c).bind fun c => (mMakeSlice C t l c { heap := [], nxt := m, low := 0 }).map fun (v, st) => (v, st.heap, st.nxt), fun v D n hq => ?_, fun X => ?_⟩
  ·unfold mMakeSlice at hq
   simp only [Option.bind_eq_some_iff, Option.map_eq_some_iff, Option.some.injEq, Prod.mk.injEq] at hq
   obtain ⟨_, _, _, _, ⟨_, _⟩, ⟨_, _, _, _, _, _, _, _, _, _, _, _, rfl, rfl⟩, _, rfl, rfl⟩ := hq
   simp [St.new]
  ·simp only
   cases ρ l with
   | none => rfl
   | some l => simp only [Option.bind_some]; cases ρ c with
    | none => rfl
    | some c =>
     unfold mMakeSlice
     simp only [Option.bind_some]
     cases C.elem t with
     | none => rfl
     | some e => simp only [Option.bind_some]; cases C.ti e with
      | none => rfl
      | some i => simp only [Option.bind_some]; cases i.zero with
       | none => rfl
       | some z =>
        simp only [Option.bind_some]
        cases asNat 4294967296 c with
        | none => rfl
        | some c =>
         simp only [Option.bind_some]
         cases asNat c l with
         | none => rfl
         | some l =>
          simp only [Option.bind_some]
          cases chk (room c i.info.bytes && Nat.blt 0 i.info.size) with
          | none => rfl
          | some _ => rfl
theorem load_same {o : Oper} {ρ : Look} {X Y : Heap} {m : Nat} {v : AV} {st' : St} (hl : isLoad o.op = true) (h : evOp C call false ρ o { heap := X, nxt := m, low := 0 } = some (v, st'))
  (hs : ∀ p, readOf C ρ o.op = some p → ∃ e cs e' ds, hget X p.1 = some (.cells e cs) ∧ hget Y p.1 = some (.cells e' ds) ∧ ((cs.drop p.2.1).take p.2.2).length = p.2.2 ∧ (cs.drop p.2.1).take p.2.2 = (ds.drop p.2.1).take p.2.2) :
  st' = { heap := X, nxt := m, low := 0 } ∧ evOp C call false ρ o { heap := Y, nxt := m, low := 0 } = some (v, { heap := Y, nxt := m, low := 0 }) := by
 unfold evOp at h ⊢
 cases hop : o.op <;> rw [hop] at hl <;> simp only [isLoad] at hl <;> try (cases hl; done)
 rename_i t a
 rw [hop] at hs
 simp only [hop, Option.bind_eq_some_iff] at h
 obtain ⟨a', ha, h⟩ := h
 obtain ⟨v', hv, e⟩ := Option.map_eq_some_iff.1 h
 simp only [keep, Prod.mk.injEq] at e
 obtain ⟨rfl, rfl⟩ := e
 refine ⟨rfl, ?_⟩
 simp only [ha, Option.bind_some]
 have : mLoad C t a' Y = some v' := by
  unfold mLoad at hv ⊢
  simp only [Option.bind_eq_some_iff] at hv ⊢
  obtain ⟨i, hi, hv⟩ := hv
  refine ⟨i, hi, ?_⟩
  split at hv
  ·rename_i b off
   obtain ⟨e, cs, e', ds, h1, h2, h3, h4⟩ := hs (b, off, i.info.size) (by simp only [readOf, ha]; unfold Ctx.size; unfold Ctx.ti at hi; rw [hi]; rfl)
   simp only [Option.bind_eq_some_iff] at hv
   obtain ⟨⟨e1, cs1⟩, hc, hv⟩ := hv
   have hc := hcells_some hc
   rw [h1] at hc
   obtain ⟨rfl, rfl⟩ : e = e1 ∧ cs = cs1 := by simpa using hc
   have hY : hcells Y b = some (e', ds) := by unfold hcells; rw [h2]
   simp only [hY, Option.bind_some]
   rw [← hv]
   exact (readAt_take h3 h4).symm
  ·exact hv
  ·cases hv
 rw [this]
 rfl
theorem sameAt_cells {p : Nat × Nat × Nat} {X Y : Heap} (h : sameAt p X Y = true) : ∃ e cs e' ds, hget X p.1 = some (.cells e cs) ∧ hget Y p.1 = some (.cells e' ds) ∧ ((cs.drop p.2.1).take p.2.2).length = p.2.2 ∧ (cs.drop p.2.1).take p.2.2 = (ds.drop p.2.1).take p.2.2 := by
 unfold sameAt at h
 split at h
 ·rename_i e cs e' ds h1 h2
  simp only [Bool.and_eq_true, beq_iff] at h
  exact ⟨e, cs, e', ds, h1, h2, h.1, avEqL_eq h.2⟩
 ·cases h
theorem cells_swap {p : Nat × Nat × Nat} {X Y : Heap} (h : ∃ e cs e' ds, hget X p.1 = some (.cells e cs) ∧ hget Y p.1 = some (.cells e' ds) ∧ ((cs.drop p.2.1).take p.2.2).length = p.2.2 ∧ (cs.drop p.2.1).take p.2.2 = (ds.drop p.2.1).take p.2.2) :
  ∃ e cs e' ds, hget Y p.1 = some (.cells e cs) ∧ hget X p.1 = some (.cells e' ds) ∧ ((cs.drop p.2.1).take p.2.2).length = p.2.2 ∧ (cs.drop p.2.1).take p.2.2 = (ds.drop p.2.1).take p.2.2 := by
 obtain ⟨e, cs, e', ds, h1, h2, h3, h4⟩ := h
 exact ⟨e', ds, e, cs, h2, h1, by rw [← h4]; exact h3, h4.symm⟩
theorem act_swap {base : Nat} {bef : List Nat} {x y : Oper} {i j : Nat} (hij : i ≠ j) (h1 : (bef.getD i 0).testBit j = false) (h2 : (bef.getD j 0).testBit i = false)
  (hwx : weakAt C ops.toList bef x.op i = true → quiet C y.op = true ∨ isLoad y.op = true ∨ blind y.op = true) (hwy : weakAt C ops.toList bef y.op j = true → quiet C x.op = true ∨ isLoad x.op = true ∨ blind x.op = true) {ts : List AV} {st st1 st2 : St} {lg lg1 lg2 : Lg} {u v : AV} (hreads : i < lg.reads.length ∧ j < lg.reads.length)
  (ha : act C call base ops bef x i ts st lg = some (u, st1, lg1)) (hb : act C call base ops bef y j ts st1 lg1 = some (v, st2, lg2)) : ∃ st1' lg1', act C call base ops bef y j ts st lg = some (v, st1', lg1') ∧ act C call base ops bef x i ts st1' lg1' = some (u, st2, lg2) := by
 have mp : ∀ {q : Option AV} {s s' : St} {l l' : Lg} {v : AV}, (q.map fun v => (v, s, l)) = some (v, s', l') → q = some v ∧ s' = s ∧ l' = l := fun {q s s' l l' v} h => by
  cases q with
  | none => cases h
  | some q => simp only [Option.map_some, Option.some.injEq, Prod.mk.injEq] at h; exact ⟨by rw [h.1], h.2.1.symm, h.2.2.symm⟩
 have unord : ordered bef i j = false ∧ ordered bef j i = false := by
  unfold ordered
  rw [h1, h2]
  exact ⟨rfl, rfl⟩
 have weakNo : ∀ {o : Oper} {k : Nat}, weakAt C ops.toList bef o.op k = true → isLoad o.op = false ∧ blind o.op = false := fun {o k} h => by
  unfold weakAt at h
  simp only [Bool.and_eq_true, Bool.not_eq_true'] at h
  exact h.1
 have v0 : ∀ {k m : Nat}, (bef.getD k 0).testBit m = false → (bef.getD k 0).testBit (0 + m) = false := fun h => by simpa using h
 rcases act_kind (C := C) (call := call) (ops := ops) (base := base) (bef := bef) (o := x) (j := i) (ts := ts) with ⟨q, hq⟩ | ⟨q1, q2, hx⟩ | ⟨q1, q2, hx⟩
 ·rw [hq] at ha
  obtain ⟨rfl, rfl, rfl⟩ := mp ha
  exact ⟨st2, lg2, hb, by rw [hq]; rfl⟩
 all_goals rcases act_kind (C := C) (call := call) (ops := ops) (base := base) (bef := bef) (o := y) (j := j) (ts := ts) with ⟨q, hq⟩ | ⟨p1, p2, hy⟩ | ⟨p1, p2, hy⟩
 ·rw [hq] at hb
  obtain ⟨rfl, rfl, rfl⟩ := mp hb
  exact ⟨st, lg, by rw [hq]; rfl, ha⟩
 ·-- both weak
  exfalso
  rcases hwx q2 with h | h | h
  ·rw [h] at p1; cases p1
  ·rw [(weakNo p2).1] at h; cases h
  ·rw [(weakNo p2).2] at h; cases h
 ·-- x weak, y of its own
  rw [hx] at ha
  rw [hy] at hb
  obtain ⟨a1, a2, rfl⟩ := weak_iff.1 ha
  obtain ⟨s', b1, b2, b3, rfl, rfl⟩ := gen_iff.1 hb
  have hlb : isLoad y.op = true ∨ blind y.op = true := (hwx q2).resolve_left (fun h => by rw [h] at p1; cases p1)
  have key : ∃ s0, evOp C call false (opVal C ts) y { heap := bif isLoad y.op then st.heap else vis (bef.getD j 0) lg.made 0 ++ st.heap, nxt := base + j * share, low := 0 } = some (v, s0) ∧ s0.nxt = s'.nxt ∧ s0.heap.take (s0.nxt - (base + j * share)) = s'.heap.take (s'.nxt - (base + j * share)) := by
   cases hl : isLoad y.op with
   | true =>
    rw [hl] at b1
    simp only [cond_true] at b1 ⊢
    obtain ⟨rfl, e2⟩ := load_same (Y := st.heap) hl b1 fun p hp => by
     have := b3 p hp
     simp only [effsOk, Bool.and_eq_true, unord.1, Bool.false_or] at this
     exact cells_swap (sameAt_cells this.1)
    exact ⟨_, e2, rfl, by simp⟩
   | false =>
    have hbl : blind y.op = true := hlb.resolve_left (fun h => by rw [h] at hl; cases hl)
    rw [hl] at b1
    simp only [cond_false] at b1 ⊢
    obtain ⟨q, hq1, hq2⟩ := evOp_blind (C := C) (call := call) hbl (opVal C ts) (base + j * share)
    rw [hq2] at b1
    obtain ⟨⟨v', D, n⟩, hqs, e⟩ := Option.map_eq_some_iff.1 b1
    simp only [Prod.mk.injEq] at e
    obtain ⟨rfl, rfl⟩ := e
    have hn := hq1 _ _ _ hqs
    refine ⟨{ heap := D ++ (vis (bef.getD j 0) lg.made 0 ++ st.heap), nxt := n, low := 0 }, by rw [hq2, hqs]; rfl, rfl, ?_⟩
    simp only [hn, Nat.add_sub_cancel_left]
    rw [List.take_left, List.take_left]
  obtain ⟨s0, k1, k2, k3⟩ := key
  refine ⟨st, { made := setL lg.made j (s0.heap.take (s0.nxt - (base + j * share))), reads := rset lg.reads j (readOf C (opVal C ts) y.op), effs := lg.effs }, ?_, ?_⟩
  ·rw [hy]
   exact gen_iff.2 ⟨s0, k1, by rw [k3, k2]; exact b2, fun b hb => by
    have := b3 b hb
    simp only [effsOk, Bool.and_eq_true] at this
    exact this.2, rfl, rfl⟩
  ·rw [hx]
   refine weak_iff.2 ⟨?_, ?_, ?_⟩
   ·simp only [k3]
    rw [vis_set (v0 h1)]
    exact a1
   ·simp only
    cases hr : readOf C (opVal C ts) y.op with
    | none => exact a2
    | some b =>
     have := b3 b hr
     simp only [effsOk, Bool.and_eq_true, unord.1, Bool.false_or] at this
     exact readsOk_more a2 this.1
   ·simp only [k3]
    rw [wipe_set (v0 h1)]
 ·rw [hq] at hb
  obtain ⟨rfl, rfl, rfl⟩ := mp hb
  exact ⟨st, lg, by rw [hq]; rfl, ha⟩
 ·-- x of its own, y weak
  rw [hx] at ha
  rw [hy] at hb
  obtain ⟨s', a1, a2, a3, rfl, rfl⟩ := gen_iff.1 ha
  obtain ⟨b1, b2, rfl⟩ := weak_iff.1 hb
  simp only at b1 b2 ⊢
  rw [vis_set (v0 h2)] at b1
  have hlb : isLoad x.op = true ∨ blind x.op = true := (hwy p2).resolve_left (fun h => by rw [h] at q1; cases q1)
  have hsame : ∀ p, readOf C (opVal C ts) x.op = some p → sameAt p st1.heap st2.heap = true := fun p hp => by
   rw [hp] at b2
   have := readsOk_hit hreads.1 b2
   simpa [unord.1] using this
  refine ⟨st2, { made := wipe (bef.getD j 0) lg.made 0, reads := lg.reads, effs := (j, st1.heap, st2.heap) :: lg.effs }, ?_, ?_⟩
  ·rw [hy]
   refine weak_iff.2 ⟨b1, ?_, rfl⟩
   cases hr : readOf C (opVal C ts) x.op with
   | none => rw [hr] at b2; exact b2
   | some b => rw [hr] at b2; exact readsOk_less b2
  ·rw [hx]
   have key : ∃ s0, evOp C call false (opVal C ts) x { heap := bif isLoad x.op then st2.heap else vis (bef.getD i 0) (wipe (bef.getD j 0) lg.made 0) 0 ++ st2.heap, nxt := base + i * share, low := 0 } = some (u, s0) ∧ s0.nxt = s'.nxt ∧ s0.heap.take (s0.nxt - (base + i * share)) = s'.heap.take (s'.nxt - (base + i * share)) := by
    cases hl : isLoad x.op with
    | true =>
     rw [hl] at a1
     simp only [cond_true] at a1 ⊢
     obtain ⟨rfl, e2⟩ := load_same (Y := st2.heap) hl a1 fun p hp => sameAt_cells (hsame p hp)
     exact ⟨_, e2, rfl, by simp⟩
    | false =>
     have hbl : blind x.op = true := hlb.resolve_left (fun h => by rw [h] at hl; cases hl)
     rw [hl] at a1
     simp only [cond_false] at a1 ⊢
     obtain ⟨q, hq1, hq2⟩ := evOp_blind (C := C) (call := call) hbl (opVal C ts) (base + i * share)
     rw [hq2] at a1
     obtain ⟨⟨v', D, n⟩, hqs, e⟩ := Option.map_eq_some_iff.1 a1
     simp only [Prod.mk.injEq] at e
     obtain ⟨rfl, rfl⟩ := e
     have hn := hq1 _ _ _ hqs
     refine ⟨{ heap := D ++ (vis (bef.getD i 0) (wipe (bef.getD j 0) lg.made 0) 0 ++ st2.heap), nxt := n, low := 0 }, by rw [hq2, hqs]; rfl, rfl, ?_⟩
     simp only [hn, Nat.add_sub_cancel_left]
     rw [List.take_left, List.take_left]
   obtain ⟨s0, k1, k2, k3⟩ := key
   refine gen_iff.2 ⟨s0, k1, by rw [k3, k2]; exact a2, fun b hb => ?_, rfl, ?_⟩
   ·simp only [effsOk, Bool.and_eq_true, unord.2, Bool.false_or]
    exact ⟨hsame b hb, a3 b hb⟩
   ·simp only [k3]
    rw [wipe_set (v0 h2)]
 ·-- both of their own
  rw [hx] at ha
  rw [hy] at hb
  obtain ⟨s', a1, a2, a3, rfl, rfl⟩ := gen_iff.1 ha
  obtain ⟨s'', b1, b2, b3, rfl, rfl⟩ := gen_iff.1 hb
  simp only at b1 b3 ⊢
  rw [vis_set (v0 h2)] at b1
  refine ⟨st2, { made := setL lg.made j (s''.heap.take (s''.nxt - (base + j * share))), reads := rset lg.reads j (readOf C (opVal C ts) y.op), effs := lg.effs }, ?_, ?_⟩
  ·rw [hy]
   exact gen_iff.2 ⟨s'', b1, b2, b3, rfl, rfl⟩
  ·rw [hx]
   refine gen_iff.2 ⟨s', ?_, a2, a3, rfl, ?_⟩
   ·simp only
    rw [vis_set (v0 h1)]
    exact a1
   ·simp only [Lg.mk.injEq, and_true]
    exact ⟨setL_comm hij, rset_comm hij⟩
theorem pushL_length {α : Type} : ∀ (l : List (List α)) (n : Nat) (v : α), (pushL l n v).length = l.length
 | [], _, _ => rfl
 | _ :: _, 0, _ => rfl
 | _ :: xs, n + 1, v => by simp [pushL, pushL_length xs n v]
theorem act_reads {base : Nat} {bef : List Nat} {x : Oper} {i : Nat} {ts : List AV} {st st1 : St} {lg lg1 : Lg} {u : AV} (ha : act C call base ops bef x i ts st lg = some (u, st1, lg1)) : lg1.reads.length = lg.reads.length := by
 rcases act_kind (C := C) (call := call) (ops := ops) (base := base) (bef := bef) (o := x) (j := i) (ts := ts) with ⟨q, hq⟩ | ⟨q1, q2, hx⟩ | ⟨q1, q2, hx⟩
 ·rw [hq] at ha
  obtain ⟨_, _, e⟩ := Option.map_eq_some_iff.1 ha
  simp only [Prod.mk.injEq] at e
  rw [e.2.2]
 ·rw [hx] at ha
  obtain ⟨a1, a2, rfl⟩ := weak_iff.1 ha
  rfl
 ·rw [hx] at ha
  obtain ⟨s', a1, a2, a3, rfl, rfl⟩ := gen_iff.1 ha
  simp only
  cases readOf C (opVal C ts) x.op with
  | none => rfl
  | some b => exact pushL_length _ _ _
theorem evOne_swap {base : Nat} {bef : List Nat} {x y : Oper} {i j : Nat} (hij : i ≠ j) (h1 : (bef.getD i 0).testBit j = false) (h2 : (bef.getD j 0).testBit i = false)
  (hwx : weakAt C ops.toList bef x.op i = true → quiet C y.op = true ∨ isLoad y.op = true ∨ blind y.op = true) (hwy : weakAt C ops.toList bef y.op j = true → quiet C x.op = true ∨ isLoad x.op = true ∨ blind x.op = true) (hap : x.apart ops y = true) {fr f1 f2 : Fr × Lg} (hreads : i < fr.2.reads.length ∧ j < fr.2.reads.length)
  (ha : evOne C call base ops bef x i fr = some f1) (hb : evOne C call base ops bef y j f1 = some f2) : ∃ f1', evOne C call base ops bef y j fr = some f1' ∧ evOne C call base ops bef x i f1' = some f2 := by
 obtain ⟨k1, k2, k3⟩ := Oper.apart_spec hap
 unfold evOne at ha hb
 simp only [Option.map_eq_some_iff] at ha hb
 obtain ⟨⟨u, st1, lg1⟩, ha, rfl⟩ := ha
 obtain ⟨⟨v, st2, lg2⟩, hb, rfl⟩ := hb
 simp only at hb
 rw [act_put k1] at hb
 obtain ⟨st1', lg1', hc, hd⟩ := act_swap hij h1 h2 hwx hwy hreads ha hb
 refine ⟨({ tmps := putT fr.1.tmps y.dst v, st := st1' }, lg1'), by unfold evOne; rw [hc]; rfl, ?_⟩
 unfold evOne
 simp only
 rw [act_put k3, hd]
 simp only [Option.map_some, Option.some.injEq]
 rw [putT_comm k2]
theorem evOne_reads {base : Nat} {bef : List Nat} {x : Oper} {i : Nat} {fr f1 : Fr × Lg} (ha : evOne C call base ops bef x i fr = some f1) : f1.2.reads.length = fr.2.reads.length := by
 unfold evOne at ha
 simp only [Option.map_eq_some_iff] at ha
 obtain ⟨⟨u, st1, lg1⟩, ha, rfl⟩ := ha
 exact act_reads ha
end
end Go.Ev
