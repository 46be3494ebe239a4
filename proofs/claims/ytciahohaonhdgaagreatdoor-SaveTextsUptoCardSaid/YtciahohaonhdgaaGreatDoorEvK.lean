/- A PART OF THE PROOF THAT SAVETEXTS HOLDS FOR EVERY INPUT OF BULK AT MOST 1048576. No condition beyond the given statement. This part: EvK. -/
import Derived.Test.YtciahohaonhdgaaGreatDoorEvCtx
namespace Go.Ev
open Go
inductive Dg where
 | d0 | d1 | d2 | d3 | d4 | d5 | d6 | d7
inductive Tm where
 | nil
 | leaf (v : AV)
 | node (a b c d e f g h : Tm)
noncomputable def Tm.kid0 (t : Tm) : Tm := Tm.casesOn (motive := fun _ => Tm) t .nil (fun _ => .nil) (fun a _ _ _ _ _ _ _ => a)
noncomputable def Tm.kid1 (t : Tm) : Tm := Tm.casesOn (motive := fun _ => Tm) t .nil (fun _ => .nil) (fun _ a _ _ _ _ _ _ => a)
noncomputable def Tm.kid2 (t : Tm) : Tm := Tm.casesOn (motive := fun _ => Tm) t .nil (fun _ => .nil) (fun _ _ a _ _ _ _ _ => a)
noncomputable def Tm.kid3 (t : Tm) : Tm := Tm.casesOn (motive := fun _ => Tm) t .nil (fun _ => .nil) (fun _ _ _ a _ _ _ _ => a)
noncomputable def Tm.kid4 (t : Tm) : Tm := Tm.casesOn (motive := fun _ => Tm) t .nil (fun _ => .nil) (fun _ _ _ _ a _ _ _ => a)
noncomputable def Tm.kid5 (t : Tm) : Tm := Tm.casesOn (motive := fun _ => Tm) t .nil (fun _ => .nil) (fun _ _ _ _ _ a _ _ => a)
noncomputable def Tm.kid6 (t : Tm) : Tm := Tm.casesOn (motive := fun _ => Tm) t .nil (fun _ => .nil) (fun _ _ _ _ _ _ a _ => a)
noncomputable def Tm.kid7 (t : Tm) : Tm := Tm.casesOn (motive := fun _ => Tm) t .nil (fun _ => .nil) (fun _ _ _ _ _ _ _ a => a)
noncomputable def Tm.put0 (f : Tm → Tm) (t : Tm) : Tm := Tm.casesOn (motive := fun _ => Tm) t .nil (fun v => .leaf v) (fun a b c d e g h i => .node (f a) b c d e g h i)
noncomputable def Tm.put1 (f : Tm → Tm) (t : Tm) : Tm := Tm.casesOn (motive := fun _ => Tm) t .nil (fun v => .leaf v) (fun a b c d e g h i => .node a (f b) c d e g h i)
noncomputable def Tm.put2 (f : Tm → Tm) (t : Tm) : Tm := Tm.casesOn (motive := fun _ => Tm) t .nil (fun v => .leaf v) (fun a b c d e g h i => .node a b (f c) d e g h i)
noncomputable def Tm.put3 (f : Tm → Tm) (t : Tm) : Tm := Tm.casesOn (motive := fun _ => Tm) t .nil (fun v => .leaf v) (fun a b c d e g h i => .node a b c (f d) e g h i)
noncomputable def Tm.put4 (f : Tm → Tm) (t : Tm) : Tm := Tm.casesOn (motive := fun _ => Tm) t .nil (fun v => .leaf v) (fun a b c d e g h i => .node a b c d (f e) g h i)
noncomputable def Tm.put5 (f : Tm → Tm) (t : Tm) : Tm := Tm.casesOn (motive := fun _ => Tm) t .nil (fun v => .leaf v) (fun a b c d e g h i => .node a b c d e (f g) h i)
noncomputable def Tm.put6 (f : Tm → Tm) (t : Tm) : Tm := Tm.casesOn (motive := fun _ => Tm) t .nil (fun v => .leaf v) (fun a b c d e g h i => .node a b c d e g (f h) i)
noncomputable def Tm.put7 (f : Tm → Tm) (t : Tm) : Tm := Tm.casesOn (motive := fun _ => Tm) t .nil (fun v => .leaf v) (fun a b c d e g h i => .node a b c d e g h (f i))
noncomputable def Dg.kid (d : Dg) : Tm → Tm := Dg.rec (motive := fun _ => Tm → Tm) Tm.kid0 Tm.kid1 Tm.kid2 Tm.kid3 Tm.kid4 Tm.kid5 Tm.kid6 Tm.kid7 d
noncomputable def Dg.put (d : Dg) : (Tm → Tm) → Tm → Tm := Dg.rec (motive := fun _ => (Tm → Tm) → Tm → Tm) Tm.put0 Tm.put1 Tm.put2 Tm.put3 Tm.put4 Tm.put5 Tm.put6 Tm.put7 d
def dgOf (n : Nat) : Dg := match n % 8 with
 | 0 => .d0 | 1 => .d1 | 2 => .d2 | 3 => .d3 | 4 => .d4 | 5 => .d5 | 6 => .d6 | _ => .d7
noncomputable def Tm.val (t : Tm) : Option AV := Tm.casesOn (motive := fun _ => Option AV) t none (fun v => some v) (fun _ _ _ _ _ _ _ _ => none)
noncomputable def Tm.setVal (v : AV) (t : Tm) : Tm := Tm.casesOn (motive := fun _ => Tm) t .nil (fun _ => .leaf v) (fun a b c d e g h i => .node a b c d e g h i)
inductive Acc where
 | bad
 | mk (g : Tm → Option AV) (s : AV → Tm → Tm)
noncomputable def accOf (t : Nat) : Acc := bif Nat.blt t 512 then
  .mk (fun x => ((dgOf t).kid ((dgOf (t / 8)).kid ((dgOf (t / 64)).kid x))).val) (fun v => (dgOf (t / 64)).put ((dgOf (t / 8)).put ((dgOf t).put (Tm.setVal v))))
 else .bad
noncomputable def Acc.get (a : Acc) (t : Tm) : Option AV := Acc.casesOn (motive := fun _ => Option AV) a none (fun g _ => g t)
noncomputable def Acc.set (a : Acc) (v : AV) (t : Tm) : Tm := Acc.casesOn (motive := fun _ => Tm) a t (fun _ s => s v t)
inductive Arg where
 | tmp (a : Acc)
 | val (v : Option AV)
noncomputable def argOf (C : Ctx) (x : Operand) : Arg := match x with
 | .tmp t => .tmp (accOf t)
 | .const v => .val (ofVal v)
 | .global g => .val ((C.globs g).map (.pdat false))
 | .func f => .val (some (.clo f []))
noncomputable def Arg.get (a : Arg) (t : Tm) : Option AV := Arg.casesOn (motive := fun _ => Option AV) a (fun a => (a.get t).bind fun v => bif known v then some v else none) (fun v => v)
noncomputable def lookK (C : Ctx) (t : Tm) : Look := fun x => (argOf C x).get t
inductive BinC where
 | mk (f : AV → AV → Option AV)
noncomputable def BinC.run (b : BinC) (x y : AV) : Option AV := BinC.casesOn (motive := fun _ => Option AV) b fun f => f x y
def cmpK (f : Int → Int → Bool) (g : List UInt8 → List UInt8 → Bool) (x y : AV) : Option AV := match x with
 | .int k a => match y with
  | .int k' b => if k = k' then some (.bool (f a b)) else none
  | _ => none
 | .str a => match y with
  | .str b => some (.bool (g a b))
  | _ => none
 | _ => none
def ariK (f : IntKind → Int → Int → Option AV) (g : List UInt8 → List UInt8 → Option AV) (x y : AV) : Option AV := match x with
 | .int k a => match y with
  | .int k' b => if k = k' then f k a b else none
  | _ => none
 | .str a => match y with
  | .str b => g a b
  | _ => none
 | _ => none
def binOf (C : Ctx) (op : BinOp) (t : TypeId) (lit : Bool) : BinC := match op with
 | .lss => .mk (cmpK (fun a b => decide (a < b)) bytesLess)
 | .leq => .mk (cmpK (fun a b => decide (a ≤ b)) (fun x y => bytesLess x y || x == y))
 | .gtr => .mk (cmpK (fun a b => decide (a > b)) (fun x y => !(bytesLess x y || x == y)))
 | .geq => .mk (cmpK (fun a b => decide (a ≥ b)) (fun x y => !(bytesLess x y)))
 | .add => .mk (ariK (fun k a b => some (.int k (k.wrap (a + b)))) (strOp .add))
 | .sub => .mk (ariK (fun k a b => some (.int k (k.wrap (a - b)))) (fun _ _ => none))
 | .eql => .mk fun x y => match x with
  | .int k a => match y with
   | .int k' b => if k = k' then some (.bool (a == b)) else none
   | y => (eqAny C t lit (.int k a) y).map .bool
  | .str a => match y with
   | .str b => some (.bool (a == b))
   | y => (eqAny C t lit (.str a) y).map .bool
  | x => (eqAny C t lit x y).map .bool
 | .neq => .mk fun x y => match x with
  | .int k a => match y with
   | .int k' b => if k = k' then some (.bool (a != b)) else none
   | y => (eqAny C t lit (.int k a) y).map fun b => .bool (!b)
  | .str a => match y with
   | .str b => some (.bool (!(a == b)))
   | y => (eqAny C t lit (.str a) y).map fun b => .bool (!b)
  | x => (eqAny C t lit x y).map fun b => .bool (!b)
 | op => .mk (binAV C op t lit)
inductive Clos where
 | mk (f : CallF → Bool → Look → St → Option (AV × St))
noncomputable def Clos.run (c : Clos) (call : CallF) (serial : Bool) (ρ : Look) (st : St) : Option (AV × St) := Clos.casesOn (motive := fun _ => Option (AV × St)) c fun f => f call serial ρ st
noncomputable def closOf (C : Ctx) (o : Oper) : Clos := match o.op with
 | .move x => .mk fun _ _ ρ st => (ρ x).map (keep st)
 | .assign x => .mk fun _ _ ρ st => (ρ x).map (keep st)
 | .alloc e => .mk fun _ _ _ st => (C.ti e).bind fun i => i.zero.bind fun z => some (.pref st.nxt 0, st.new (.cells e z.cells))
 | .box e x => .mk fun _ _ ρ st => (ρ x).bind fun v => v.row.bind fun row => some (.pref st.nxt 0, st.new (.cells e row))
 | .build t parts => .mk fun _ _ ρ st => (partV ρ parts.toList).bind fun ps => (mBuild C t ps).map (keep st)
 | .buildSlice t len parts => .mk fun _ _ ρ st => (partV ρ parts.toList).bind fun ps => mBuildSlice C t len ps st
 | .load t a => .mk fun _ _ ρ st => (ρ a).bind fun a => (mLoad C t a st.heap).map (keep st)
 | .store t a x => .mk fun _ serial ρ st => (chk serial).bind fun _ => (ρ a).bind fun a => (ρ x).bind fun x => (mStore C t a x st).map fun st => (.tup [], st)
 | .binOp op t x y _ => .mk fun _ _ ρ st => (ρ x).bind fun a => (ρ y).bind fun b => ((binOf C op t (isLit x || isLit y)).run a b).map (keep st)
 | .unOp op _ x => .mk fun _ _ ρ st => (ρ x).bind fun a => (unAV op a).map (keep st)
 | .slice t x lo hi mx => .mk fun _ _ ρ st => (ρ x).bind fun x => (optV ρ lo).bind fun lo => (optV ρ hi).bind fun hi => (optV ρ mx).bind fun mx => (mSlice C t x lo hi mx st.heap).map (keep st)
 | .fieldAddr s x f => .mk fun _ _ ρ st => (ρ x).bind fun v => (mFieldAddr C s v f).map (keep st)
 | .field s x f => .mk fun _ _ ρ st => (ρ x).bind fun v => (mField C s v f).map (keep st)
 | .indexAddr t x ix => .mk fun _ _ ρ st => (ρ x).bind fun v => (ρ ix).bind fun i => (mIndexAddr C t v i).map (keep st)
 | .index t x ix => .mk fun _ _ ρ st => (ρ x).bind fun v => (ρ ix).bind fun i => (mIndex C t v i).map (keep st)
 | .extract x i => .mk fun _ _ ρ st => (ρ x).bind fun v => match v with
  | .tup vs => (getL vs i).map (keep st)
  | _ => none
 | .call c => match c.callee with
  | .value f => .mk fun call serial ρ st => (vals ρ c.args.toList).bind fun vs => (ρ f).bind fun f => evCallOp C call serial f vs st
  | .builtin .len => match c.argTypes.toList with
   | t :: _ => .mk fun _ _ ρ st => (vals ρ c.args.toList).bind fun vs => match vs with
    | [v] => (mLen C t v st.heap).map (keep st)
    | _ => none
   | _ => .mk fun _ _ ρ _ => (vals ρ c.args.toList).bind fun _ => none
  | .builtin .append => match c.argTypes.toList with
   | [t, t2] => bif isInt C t2 then .mk fun _ _ ρ st => (vals ρ c.args.toList).bind fun vs => match vs with
     | [s, x] => mAppendZ C t s x st
     | _ => none
    else .mk fun _ serial ρ st => (vals ρ c.args.toList).bind fun vs => match vs with
     | [s, x] => mAppend C serial t t2 s x st
     | _ => none
   | _ => .mk fun _ _ ρ _ => (vals ρ c.args.toList).bind fun _ => none
  | _ => .mk fun call serial ρ st => evOp C call serial ρ o st
 | _ => .mk fun call serial ρ st => evOp C call serial ρ o st
theorem binOf_eq (C : Ctx) (op : BinOp) (t : TypeId) (lit : Bool) (x y : AV) : (binOf C op t lit).run x y = binAV C op t lit x y := by
 cases op <;> first
  | rfl
  | (cases x <;> first | rfl | (cases y <;> rfl))
theorem closOf_eq (C : Ctx) (o : Oper) (call : CallF) (serial : Bool) (ρ : Look) (st : St) : (closOf C o).run call serial ρ st = evOp C call serial ρ o st := by
 unfold closOf
 cases hop : o.op <;> dsimp only <;> try (unfold evOp; rw [hop]; rfl)
 ·unfold evOp
  rw [hop]
  show ((ρ _).bind fun a => (ρ _).bind fun b => _) = _
  simp only [binOf_eq]
 ·rename_i c
  cases hc : c.callee with
  | value f => simp only; unfold evOp; rw [hop]; simp only [hc]; rfl
  | invoke r m => rfl
  | builtin b =>
   cases b <;> try rfl
   ·simp only
    unfold evOp; rw [hop]; simp only [hc]
    cases ht : c.argTypes.toList with
    | nil => cases hv : vals ρ c.args.toList <;> simp [Clos.run, hv]
    | cons t r => cases r with
     | nil => cases hv : vals ρ c.args.toList <;> simp [Clos.run, hv]
     | cons t2 r => cases r with
      | cons t3 r => cases hv : vals ρ c.args.toList <;> simp [Clos.run, hv]
      | nil =>
       simp only
       cases hi : isInt C t2 <;> simp only [cond_true, cond_false, Clos.run] <;> (congr 1; funext vs; cases vs with
        | nil => rfl
        | cons a r => cases r with
         | nil => rfl
         | cons b r => cases r with
          | nil => (simp only [hi]; first | rfl | done)
          | cons c r => rfl)
   ·simp only
    unfold evOp; rw [hop]; simp only [hc]
    cases ht : c.argTypes.toList with
    | nil => cases hv : vals ρ c.args.toList <;> simp [Clos.run, hv]
    | cons t r =>
     simp only [Clos.run]
     congr 1; funext vs
     cases vs with
     | nil => rfl
     | cons a r => cases r <;> rfl
end Go.Ev
namespace Go.Ev
open Go
theorem kid_nil (d : Dg) : d.kid .nil = .nil := by cases d <;> rfl
theorem put_nil (d : Dg) (f : Tm → Tm) : d.put f .nil = .nil := by cases d <;> rfl
theorem kid_put (d : Dg) (f : Tm → Tm) (hf : f .nil = .nil) (t : Tm) : d.kid (d.put f t) = f (d.kid t) := by
 cases t <;> cases d <;> first | rfl | exact hf.symm
theorem kid_put_ne {d e : Dg} (h : d ≠ e) (f : Tm → Tm) (t : Tm) : d.kid (e.put f t) = d.kid t := by
 cases t <;> cases d <;> cases e <;> first | rfl | exact absurd rfl h
theorem val_set (v : AV) (t : Tm) : (Tm.setVal v t).val = t.val.map fun _ => v := by cases t <;> rfl
theorem set_nil (v : AV) : Tm.setVal v .nil = .nil := rfl
def dgNat : Dg → Nat
 | .d0 => 0 | .d1 => 1 | .d2 => 2 | .d3 => 3 | .d4 => 4 | .d5 => 5 | .d6 => 6 | .d7 => 7
theorem dgNat_of (n : Nat) : dgNat (dgOf n) = n % 8 := by
 have h1 : n % 8 < 8 := Nat.mod_lt _ (by decide)
 unfold dgOf
 generalize n % 8 = a at h1
 match a, h1 with
 | 0, _ => rfl
 | 1, _ => rfl
 | 2, _ => rfl
 | 3, _ => rfl
 | 4, _ => rfl
 | 5, _ => rfl
 | 6, _ => rfl
 | 7, _ => rfl
theorem dgOf_inj {n m : Nat} (h : dgOf n = dgOf m) : n % 8 = m % 8 := by
 rw [← dgNat_of n, ← dgNat_of m, h]
def pick8 {α : Type} (f : Nat → α) (d : Dg) : α := match d with
 | .d0 => f 0 | .d1 => f 1 | .d2 => f 2 | .d3 => f 3 | .d4 => f 4 | .d5 => f 5 | .d6 => f 6 | .d7 => f 7
theorem pick8_dg {α : Type} (f : Nat → α) (n : Nat) : pick8 f (dgOf n) = f (n % 8) := by
 have h1 : n % 8 < 8 := Nat.mod_lt _ (by decide)
 unfold dgOf
 generalize n % 8 = a at h1
 match a, h1 with
 | 0, _ => rfl
 | 1, _ => rfl
 | 2, _ => rfl
 | 3, _ => rfl
 | 4, _ => rfl
 | 5, _ => rfl
 | 6, _ => rfl
 | 7, _ => rfl
def node8 (f : Nat → Tm) : Tm := .node (f 0) (f 1) (f 2) (f 3) (f 4) (f 5) (f 6) (f 7)
theorem kid_node8 (f : Nat → Tm) (n : Nat) : (dgOf n).kid (node8 f) = f (n % 8) := by
 rw [← pick8_dg f n]
 cases dgOf n <;> rfl
def leafOf (n : Nat) (l : List AV) (k : Nat) : Tm := bif Nat.blt k n then .leaf ((getL l k).getD (.tup [])) else .nil
def treeOf (n : Nat) (l : List AV) : Tm := node8 fun a => bif Nat.blt (a * 64) n then node8 fun b => bif Nat.blt (a * 64 + b * 8) n then node8 fun c => leafOf n l (a * 64 + b * 8 + c) else .nil else .nil
theorem acc_lt {t : Nat} (h : t < 512) : accOf t = .mk (fun x => ((dgOf t).kid ((dgOf (t / 8)).kid ((dgOf (t / 64)).kid x))).val) (fun v => (dgOf (t / 64)).put ((dgOf (t / 8)).put ((dgOf t).put (Tm.setVal v)))) := by
 unfold accOf
 rw [show Nat.blt t 512 = true by simpa using h]
 rfl
theorem acc_ge {t : Nat} (h : ¬ t < 512) : accOf t = .bad := by
 unfold accOf
 rw [show Nat.blt t 512 = false by cases hq : Nat.blt t 512 with | false => rfl | true => exact absurd (by simpa using hq) h]
 rfl
theorem acc_tree {n : Nat} {l : List AV} (t : Nat) (hn : n ≤ 512) : (accOf t).get (treeOf n l) = if t < n then some ((getL l t).getD (.tup [])) else none := by
 by_cases h : t < 512
 ·rw [acc_lt h]
  show ((dgOf t).kid ((dgOf (t / 8)).kid ((dgOf (t / 64)).kid (treeOf n l)))).val = _
  unfold treeOf
  rw [kid_node8]
  have e0 : t / 64 % 8 = t / 64 := Nat.mod_eq_of_lt (by omega)
  have e : t / 64 * 64 + t / 8 % 8 * 8 + t % 8 = t := by omega
  have b1 : Nat.blt (t / 64 * 64) n = decide (t / 64 * 64 < n) := by
   by_cases hq : t / 64 * 64 < n
   ·rw [show Nat.blt (t / 64 * 64) n = true by simpa using hq]; simp [hq]
   ·cases hb : Nat.blt (t / 64 * 64) n with
    | false => simp [hq]
    | true => exact absurd (by simpa using hb) hq
  rw [e0, b1]
  by_cases hq : t / 64 * 64 < n
  ·simp only [hq, decide_true, cond_true]
   rw [kid_node8]
   by_cases hq2 : t / 64 * 64 + t / 8 % 8 * 8 < n
   ·rw [show Nat.blt (t / 64 * 64 + t / 8 % 8 * 8) n = true by simpa using hq2]
    simp only [cond_true]
    rw [kid_node8, e]
    unfold leafOf
    by_cases hq3 : t < n
    ·rw [show Nat.blt t n = true by simpa using hq3, if_pos hq3]; rfl
    ·rw [show Nat.blt t n = false by cases hb : Nat.blt t n with | false => rfl | true => exact absurd (by simpa using hb) hq3, if_neg hq3]; rfl
   ·rw [show Nat.blt (t / 64 * 64 + t / 8 % 8 * 8) n = false by cases hb : Nat.blt (t / 64 * 64 + t / 8 % 8 * 8) n with | false => rfl | true => exact absurd (by simpa using hb) hq2]
    simp only [cond_false]
    rw [kid_nil, if_neg (by omega)]; rfl
  ·simp only [hq, decide_false, cond_false]
   rw [kid_nil, kid_nil, if_neg (by omega)]; rfl
 ·rw [acc_ge h, if_neg (by omega)]; rfl
theorem acc_set {t t' : Nat} (T : Tm) (v : AV) : (accOf t').get ((accOf t).set v T) = if t = t' then ((accOf t).get T).map fun _ => v else (accOf t').get T := by
 by_cases h : t < 512
 ·rw [acc_lt h]
  show (accOf t').get ((dgOf (t / 64)).put ((dgOf (t / 8)).put ((dgOf t).put (Tm.setVal v))) T) = if t = t' then (((dgOf t).kid ((dgOf (t / 8)).kid ((dgOf (t / 64)).kid T))).val).map _ else _
  by_cases h' : t' < 512
  ·rw [acc_lt h']
   show ((dgOf t').kid ((dgOf (t' / 8)).kid ((dgOf (t' / 64)).kid _))).val = if t = t' then _ else ((dgOf t').kid ((dgOf (t' / 8)).kid ((dgOf (t' / 64)).kid T))).val
   have n1 : (dgOf t).put (Tm.setVal v) .nil = .nil := put_nil _ _
   have n2 : (dgOf (t / 8)).put ((dgOf t).put (Tm.setVal v)) .nil = .nil := put_nil _ _
   by_cases e1 : dgOf (t' / 64) = dgOf (t / 64)
   ·rw [e1, kid_put _ _ n2]
    by_cases e2 : dgOf (t' / 8) = dgOf (t / 8)
    ·rw [e2, kid_put _ _ n1]
     by_cases e3 : dgOf t' = dgOf t
     ·rw [e3, kid_put _ _ (set_nil v), val_set]
      have := dgOf_inj e1; have := dgOf_inj e2; have := dgOf_inj e3
      rw [if_pos (by omega)]
     ·rw [kid_put_ne e3, if_neg (fun e => e3 (by rw [e]))]
    ·rw [kid_put_ne e2, if_neg (fun e => e2 (by rw [e]))]
   ·rw [kid_put_ne e1, if_neg (fun e => e1 (by rw [e]))]
  ·rw [acc_ge h', if_neg (by omega)]; rfl
 ·rw [acc_ge h]
  show (accOf t').get T = _
  by_cases e : t = t'
  ·subst e; rw [if_pos rfl, acc_ge h]; rfl
  ·rw [if_neg e]
theorem getL_setL_if {α : Type} : ∀ (l : List α) (n m : Nat) (v : α), getL (setL l n v) m = if n = m then (getL l n).map fun _ => v else getL l m
 | [], n, m, v => by simp [setL, getL]
 | x :: r, 0, 0, v => rfl
 | x :: r, 0, m + 1, v => by simp [setL, getL]
 | x :: r, n + 1, 0, v => by simp [setL, getL]
 | x :: r, n + 1, m + 1, v => by
  simp only [setL, getL, getL_setL_if r n m v]
  simp
def Like (ts : List AV) (T : Tm) : Prop := ∀ t, (accOf t).get T = getL ts t
theorem Like.set {ts : List AV} {T : Tm} (h : Like ts T) (d : Nat) (v : AV) : Like (setL ts d v) ((accOf d).set v T) := fun t => by
 rw [acc_set, getL_setL_if, h d, h t]
theorem getL_args : ∀ (l : List AV) (n t : Nat), getL (l ++ List.replicate (n - l.length) (AV.tup [])) t = if t < max n l.length then some ((getL l t).getD (.tup [])) else none
 | [], n, t => by
  simp only [List.nil_append, List.length_nil, Nat.sub_zero, Nat.max_zero, getL]
  by_cases h : t < n
  ·rw [if_pos h, getL_of_lt (by simpa using h)]; simp
  ·rw [if_neg h, getL_none (by simpa using h)]
 | x :: r, n, 0 => by
  simp only [List.cons_append, getL, Option.getD_some]
  rw [if_pos (by simp only [List.length_cons]; omega)]
 | x :: r, n, t + 1 => by
  have := getL_args r (n - 1) t
  simp only [List.cons_append, getL, List.length_cons]
  rw [show n - (r.length + 1) = n - 1 - r.length by omega, this]
  by_cases h : t < max (n - 1) r.length
  ·rw [if_pos h, if_pos (by omega)]
  ·rw [if_neg h, if_neg (by omega)]
theorem like_args {n : Nat} {l : List AV} (hn : n ≤ 512) (hl : l.length ≤ n) : Like (l ++ List.replicate (n - l.length) (.tup [])) (treeOf n l) := fun t => by
 rw [acc_tree t hn, getL_args, Nat.max_eq_left hl]
theorem look_eq {C : Ctx} {ts : List AV} {T : Tm} (h : Like ts T) : lookK C T = opVal C ts := by
 funext x
 cases x with
 | tmp t => show ((accOf t).get T).bind _ = getV ts t; rw [h t]; rfl
 | const v => rfl
 | global g => rfl
 | func f => rfl
inductive Gd where
 | free | never
 | at_ (a : Acc) (want : Bool)
noncomputable def guardOf (ops : Array Oper) (o : Oper) : Gd := match o.guard with
 | none => .free
 | some (j, want) => match (ops[j]?).bind (·.dst) with
  | some t => .at_ (accOf t) want
  | none => .never
noncomputable def Gd.run (g : Gd) (T : Tm) : Option Bool := Gd.casesOn (motive := fun _ => Option Bool) g (some true) (some false) fun a want => match a.get T with
 | some (.bool b) => some (b == want)
 | some v => bif known v then some false else none
 | none => some false
theorem guard_eq {ops : Array Oper} {o : Oper} {ts : List AV} {T : Tm} (h : Like ts T) {b : Bool} (hg : (guardOf ops o).run T = some b) : guardOk ops o ts = true ∧ isWanted ops o ts = b := by
 unfold guardOf at hg
 unfold guardOk isWanted
 cases hgd : o.guard with
 | none => rw [hgd] at hg; simp only [Gd.run] at hg; exact ⟨rfl, Option.some.inj hg⟩
 | some p =>
  obtain ⟨j, want⟩ := p
  rw [hgd] at hg
  simp only at hg ⊢
  unfold yields
  cases hd : (ops[j]?).bind (·.dst) with
  | none => rw [hd] at hg; simp only [Gd.run] at hg; exact ⟨rfl, Option.some.inj hg⟩
  | some t =>
   rw [hd] at hg
   have hg : (match (accOf t).get T with
    | some (.bool b) => some (b == want)
    | some v => bif known v then some false else none
    | none => some false) = some b := hg
   rw [h t] at hg
   simp only [Option.bind_some]
   cases hv : getL ts t with
   | none => rw [hv] at hg; exact ⟨rfl, Option.some.inj hg⟩
   | some v =>
    rw [hv] at hg
    cases v with
    | bool c => exact ⟨rfl, Option.some.inj hg⟩
    | sown _ _ _ _ => cases hg
    | _ => exact ⟨rfl, Option.some.inj hg⟩
inductive Dst where
 | no
 | at_ (a : Acc)
noncomputable def dstOf (d : Option Tmp) : Dst := match d with
 | none => .no
 | some t => .at_ (accOf t)
noncomputable def Dst.put (d : Dst) (v : AV) (T : Tm) : Tm := Dst.casesOn (motive := fun _ => Tm) d T fun a => a.set v T
theorem dst_like {ts : List AV} {T : Tm} (h : Like ts T) (d : Option Tmp) (v : AV) : Like (putT ts d v) ((dstOf d).put v T) := by
 cases d with
 | none => exact h
 | some d => exact h.set d v
structure FrK where
 tmps : Tm
 st : St
inductive KSer where
 | nil
 | cons (g : Gd) (c : Clos) (d : Dst) (r : KSer)
noncomputable def serOf (C : Ctx) (ops : Array Oper) (l : List Oper) : KSer := List.rec (motive := fun _ => KSer) .nil (fun o _ ih => .cons (guardOf ops o) (closOf C o) (dstOf o.dst) ih) l
noncomputable def runSer (C : Ctx) (call : CallF) (k : KSer) : FrK → Option FrK :=
 KSer.rec (motive := fun _ => FrK → Option FrK) (fun fr => some fr)
  (fun g c d _ ih fr => (g.run fr.tmps).bind fun w =>
   bif w then (c.run call true (lookK C fr.tmps) fr.st).bind fun r => ih ⟨d.put r.1 fr.tmps, r.2⟩
   else ih ⟨d.put (.tup []) fr.tmps, fr.st⟩) k
inductive Kd where
 | quiet | weak | load | gen
def kdOf (C : Ctx) (ops : Array Oper) (bef : List Nat) (o : Oper) (j : Nat) : Kd :=
 bif quiet C o.op then .quiet else bif weakAt C ops.toList bef o.op j then .weak else bif isLoad o.op then .load else .gen
inductive KDr where
 | nil
 | cons (g : Gd) (k : Kd) (c : Clos) (o : Op) (d : Dst) (j : Nat) (b : Nat) (r : KDr)
noncomputable def drOf (C : Ctx) (ops : Array Oper) (bef : List Nat) (l : List (Oper × Nat)) : KDr := List.rec (motive := fun _ => KDr) .nil (fun p _ ih => .cons (guardOf ops p.1) (kdOf C ops bef p.1 p.2) (closOf C p.1) p.1.op (dstOf p.1.dst) p.2 (bef.getD p.2 0) ih) l
structure FrL where
 tmps : Tm
 st : St
 lg : Lg
noncomputable def runDr (C : Ctx) (call : CallF) (base : Nat) (bef : List Nat) (k : KDr) : FrL → Option FrL :=
 KDr.rec (motive := fun _ => FrL → Option FrL) (fun fr => some fr)
  (fun g kd c o d j b _ ih fr => (g.run fr.tmps).bind fun w =>
   bif w then
    Kd.casesOn (motive := fun _ => Option FrL) kd
     ((c.run call false (lookK C fr.tmps) { heap := [], nxt := 0, low := 0 }).bind fun r => ih ⟨d.put r.1 fr.tmps, fr.st, fr.lg⟩)
     ((c.run call true (lookK C fr.tmps) { fr.st with heap := vis b fr.lg.made 0 ++ fr.st.heap }).bind fun r =>
      bif readsOk bef j fr.st.heap r.2.heap fr.lg.reads 0 then ih ⟨d.put r.1 fr.tmps, r.2, { fr.lg with made := wipe b fr.lg.made 0, effs := (j, fr.st.heap, r.2.heap) :: fr.lg.effs }⟩ else none)
     ((c.run call false (lookK C fr.tmps) { heap := fr.st.heap, nxt := base + j * share, low := 0 }).bind fun r =>
      bif madeOk (base + j * share) r.2.nxt (r.2.heap.take (r.2.nxt - (base + j * share))) then
       (logRead bef j fr.lg (readOf C (lookK C fr.tmps) o)).bind fun lg => ih ⟨d.put r.1 fr.tmps, fr.st, { lg with made := setL lg.made j (r.2.heap.take (r.2.nxt - (base + j * share))) }⟩ else none)
     ((c.run call false (lookK C fr.tmps) { heap := vis b fr.lg.made 0 ++ fr.st.heap, nxt := base + j * share, low := 0 }).bind fun r =>
      bif madeOk (base + j * share) r.2.nxt (r.2.heap.take (r.2.nxt - (base + j * share))) then
       ih ⟨d.put r.1 fr.tmps, fr.st, { fr.lg with made := setL fr.lg.made j (r.2.heap.take (r.2.nxt - (base + j * share))) }⟩ else none)
   else ih ⟨d.put (.tup []) fr.tmps, fr.st, fr.lg⟩) k
inductive KRes where
 | tmp (a : Acc)
 | cell (a : Acc) (t : TypeId)
inductive KCode where
 | skip | bad | ret
 | ser (k : KSer)
 | dr (n : Nat) (bef : List Nat) (k : KDr)
 | seq (a b : KCode)
 | cond (c : Arg) (a b : KCode)
 | block (id : Nat) (b : KCode)
 | loop (b : KCode)
 | exit (i : Nat)
noncomputable def codeOf (C : Ctx) : Code → KCode
 | .skip => .skip
 | .region _ ops draw => bif draw then .dr ops.size (Region.before ops).toList (drOf C ops (Region.before ops).toList (number 0 ops.toList)) else .ser (serOf C ops ops.toList)
 | .seq a b => .seq (codeOf C a) (codeOf C b)
 | .cond c a b => .cond (argOf C c) (codeOf C a) (codeOf C b)
 | .block id b => .block id (codeOf C b)
 | .loop b => .loop (codeOf C b)
 | .exit i => .exit i
 | .ret => .ret
 | _ => .bad
inductive KFn where
 | bad
 | mk (n : Nat) (b : KCode) (res : List ResultVar)
noncomputable def fnOf (C : Ctx) (f : FuncId) : KFn := match C.funs.get f with
 | none => .bad
 | some fn => match fn.body with
  | none => .bad
  | some b => bif Nat.ble fn.ntmps 512 then .mk fn.ntmps (codeOf C b) fn.results.toList else .bad
noncomputable def resultsK (C : Ctx) (H : Heap) (T : Tm) (l : List ResultVar) : Option (List AV) :=
 List.rec (motive := fun _ => Option (List AV)) (some [])
  (fun r _ ih => ResultVar.casesOn (motive := fun _ => Option (List AV)) r
   (fun t => (lookK C T (.tmp t)).bind fun v => ih.bind fun vs => some (v :: vs))
   (fun a t => (lookK C T (.tmp a)).bind fun a => (mLoad C t a H).bind fun v => ih.bind fun vs => some (v :: vs))) l
noncomputable def callK (C : Ctx) (ev : KCode → FrK → Option (Ex × FrK)) : CallF := fun f args st =>
 KFn.casesOn (motive := fun _ => Option (AV × St)) (fnOf C f) none fun n b res =>
  bif Nat.ble args.length n then
   (ev b ⟨treeOf n args, st⟩).bind fun r => Ex.casesOn (motive := fun _ => Option (AV × St)) r.1
    ((resultsK C r.2.st.heap r.2.tmps res).bind fun vs => some (pack vs, r.2.st)) (fun _ => none) ((resultsK C r.2.st.heap r.2.tmps res).bind fun vs => some (pack vs, r.2.st))
  else none
noncomputable def stepK (C : Ctx) (ev : KCode → FrK → Option (Ex × FrK)) (c : KCode) (fr : FrK) : Option (Ex × FrK) :=
 KCode.casesOn (motive := fun _ => Option (Ex × FrK)) c
  (some (.norm, fr)) none (some (.ret, fr))
  (fun k => (runSer C (callK C ev) k fr).bind fun fr => some (.norm, fr))
  (fun n bef k => (runDr C (callK C ev) fr.st.nxt bef k ⟨fr.tmps, { fr.st with nxt := fr.st.nxt + n * share }, lg0 n⟩).bind fun fl => some (.norm, ⟨fl.tmps, full fl.st fl.lg⟩))
  (fun a b => (ev a fr).bind fun r => Ex.casesOn (motive := fun _ => Option (Ex × FrK)) r.1 (ev b r.2) (fun i => some (.exit i, r.2)) (some (.ret, r.2)))
  (fun x a b => (x.get fr.tmps).bind fun v => match v with
   | .bool t => bif t then ev a fr else ev b fr
   | _ => none)
  (fun id b => (ev b fr).bind fun r => Ex.casesOn (motive := fun _ => Option (Ex × FrK)) r.1 (some (.norm, r.2)) (fun i => bif Nat.beq i id then some (.norm, r.2) else some (.exit i, r.2)) (some (.ret, r.2)))
  (fun b => (ev b fr).bind fun r => Ex.casesOn (motive := fun _ => Option (Ex × FrK)) r.1 (ev (.loop b) r.2) (fun i => some (.exit i, r.2)) (some (.ret, r.2)))
  (fun i => some (.exit i, fr))
noncomputable def evK (C : Ctx) (n : Nat) : KCode → FrK → Option (Ex × FrK) :=
 Nat.rec (motive := fun _ => KCode → FrK → Option (Ex × FrK)) (fun _ _ => none) (fun _ ih => stepK C ih) n
noncomputable def runK (C : Ctx) (n : Nat) (f : FuncId) (args : List AV) : Option (AV × St) := callK C (evK C n) f args { heap := [], nxt := 0, low := 0 }
section
variable {C : Ctx}
theorem runSer_sound {call call' : CallF} (hc : CallLe call call') {ops : Array Oper} : ∀ (l : List Oper) {ts : List AV} {k k' : FrK}, Like ts k.tmps → runSer C call (serOf C ops l) k = some k' → ∃ ts', evSerial C call' ops l { tmps := ts, st := k.st } = some { tmps := ts', st := k'.st } ∧ Like ts' k'.tmps
 | [], ts, k, k', hl, h => by
  have h : some k = some k' := h
  cases h
  exact ⟨ts, rfl, hl⟩
 | o :: r, ts, k, k', hl, h => by
  have h : ((guardOf ops o).run k.tmps).bind (fun w => bif w then ((closOf C o).run call true (lookK C k.tmps) k.st).bind fun q => runSer C call (serOf C ops r) ⟨(dstOf o.dst).put q.1 k.tmps, q.2⟩
   else runSer C call (serOf C ops r) ⟨(dstOf o.dst).put (.tup []) k.tmps, k.st⟩) = some k' := h
  obtain ⟨w, hw, h⟩ := Option.bind_eq_some_iff.1 h
  obtain ⟨h1, h2⟩ := guard_eq hl hw
  unfold evSerial
  simp only [h1, h2, cond_true]
  cases w with
  | false =>
   simp only [cond_false] at h ⊢
   exact runSer_sound hc r (k := ⟨(dstOf o.dst).put (.tup []) k.tmps, k.st⟩) (dst_like hl _ _) h
  | true =>
   simp only [cond_true] at h ⊢
   obtain ⟨⟨v, st⟩, hq, h⟩ := Option.bind_eq_some_iff.1 h
   rw [closOf_eq, look_eq hl] at hq
   rw [evOp_le hc hq]
   exact runSer_sound hc r (k := ⟨(dstOf o.dst).put v k.tmps, st⟩) (dst_like hl _ _) h
theorem runDr_sound {call call' : CallF} (hc : CallLe call call') {ops : Array Oper} {base : Nat} {bef : List Nat} : ∀ (l : List (Oper × Nat)) {ts : List AV} {k k' : FrL}, Like ts k.tmps → runDr C call base bef (drOf C ops bef l) k = some k' →
  ∃ ts', evDrawn C call' base ops bef l ({ tmps := ts, st := k.st }, k.lg) = some ({ tmps := ts', st := k'.st }, k'.lg) ∧ Like ts' k'.tmps
 | [], ts, k, k', hl, h => by
  have h : some k = some k' := h
  cases h
  exact ⟨ts, rfl, hl⟩
 | (o, j) :: r, ts, k, k', hl, h => by
  have step : ∀ (v : AV) (st : St) (lg : Lg), act C call' base ops bef o j ts k.st k.lg = some (v, st, lg) → runDr C call base bef (drOf C ops bef r) ⟨(dstOf o.dst).put v k.tmps, st, lg⟩ = some k' →
    ∃ ts', evDrawn C call' base ops bef ((o, j) :: r) ({ tmps := ts, st := k.st }, k.lg) = some ({ tmps := ts', st := k'.st }, k'.lg) ∧ Like ts' k'.tmps := fun v st lg ha h => by
   obtain ⟨ts', h1, h2⟩ := runDr_sound hc r (k := ⟨(dstOf o.dst).put v k.tmps, st, lg⟩) (dst_like hl _ _) h
   refine ⟨ts', ?_, h2⟩
   unfold evDrawn evOne
   simp only [ha, Option.map_some, Option.bind_some]
   exact h1
  have h : ((guardOf ops o).run k.tmps).bind (fun w => bif w then
    Kd.casesOn (motive := fun _ => Option FrL) (kdOf C ops bef o j)
     (((closOf C o).run call false (lookK C k.tmps) { heap := [], nxt := 0, low := 0 }).bind fun q => runDr C call base bef (drOf C ops bef r) ⟨(dstOf o.dst).put q.1 k.tmps, k.st, k.lg⟩)
     (((closOf C o).run call true (lookK C k.tmps) { k.st with heap := vis (bef.getD j 0) k.lg.made 0 ++ k.st.heap }).bind fun q =>
      bif readsOk bef j k.st.heap q.2.heap k.lg.reads 0 then runDr C call base bef (drOf C ops bef r) ⟨(dstOf o.dst).put q.1 k.tmps, q.2, { k.lg with made := wipe (bef.getD j 0) k.lg.made 0, effs := (j, k.st.heap, q.2.heap) :: k.lg.effs }⟩ else none)
     (((closOf C o).run call false (lookK C k.tmps) { heap := k.st.heap, nxt := base + j * share, low := 0 }).bind fun q =>
      bif madeOk (base + j * share) q.2.nxt (q.2.heap.take (q.2.nxt - (base + j * share))) then
       (logRead bef j k.lg (readOf C (lookK C k.tmps) o.op)).bind fun lg => runDr C call base bef (drOf C ops bef r) ⟨(dstOf o.dst).put q.1 k.tmps, k.st, { lg with made := setL lg.made j (q.2.heap.take (q.2.nxt - (base + j * share))) }⟩ else none)
     (((closOf C o).run call false (lookK C k.tmps) { heap := vis (bef.getD j 0) k.lg.made 0 ++ k.st.heap, nxt := base + j * share, low := 0 }).bind fun q =>
      bif madeOk (base + j * share) q.2.nxt (q.2.heap.take (q.2.nxt - (base + j * share))) then
       runDr C call base bef (drOf C ops bef r) ⟨(dstOf o.dst).put q.1 k.tmps, k.st, { k.lg with made := setL k.lg.made j (q.2.heap.take (q.2.nxt - (base + j * share))) }⟩ else none)
   else runDr C call base bef (drOf C ops bef r) ⟨(dstOf o.dst).put (.tup []) k.tmps, k.st, k.lg⟩) = some k' := h
  obtain ⟨w, hw, h⟩ := Option.bind_eq_some_iff.1 h
  obtain ⟨h1, h2⟩ := guard_eq hl hw
  cases w with
  | false =>
   simp only [cond_false] at h
   exact step (.tup []) k.st k.lg (by unfold act; simp only [h1, h2, cond_true, cond_false]) h
  | true =>
   simp only [cond_true] at h
   have noRead : isLoad o.op = false → readOf C (opVal C ts) o.op = none := fun hn => by
    cases ho : o.op <;> rw [ho] at hn <;> first | rfl | (cases hn)
   cases hqt : quiet C o.op with
   | true =>
    have hk : kdOf C ops bef o j = .quiet := by unfold kdOf; rw [hqt]; rfl
    rw [hk] at h
    simp only at h
    obtain ⟨⟨v, st⟩, hq, h⟩ := Option.bind_eq_some_iff.1 h
    rw [closOf_eq, look_eq hl] at hq
    exact step v k.st k.lg (by unfold act; simp only [h1, h2, hqt, cond_true]; rw [evOp_le hc hq]; rfl) h
   | false =>
    cases hwk : weakAt C ops.toList bef o.op j with
    | true =>
     have hk : kdOf C ops bef o j = .weak := by unfold kdOf; rw [hqt, hwk]; rfl
     rw [hk] at h
     simp only at h
     obtain ⟨⟨v, st⟩, hq, h⟩ := Option.bind_eq_some_iff.1 h
     rw [closOf_eq, look_eq hl] at hq
     cases hr : readsOk bef j k.st.heap st.heap k.lg.reads 0 with
     | false => rw [hr] at h; cases h
     | true =>
      rw [hr] at h
      simp only [cond_true] at h
      exact step v st _ (by unfold act; simp only [h1, h2, hqt, hwk, cond_true, cond_false]; rw [evOp_le hc hq]; simp only [Option.bind_some, hr, chk, cond_true]) h
    | false =>
     cases hld : isLoad o.op with
     | true =>
      have hk : kdOf C ops bef o j = .load := by unfold kdOf; rw [hqt, hwk, hld]; rfl
      rw [hk] at h
      simp only at h
      obtain ⟨⟨v, st⟩, hq, h⟩ := Option.bind_eq_some_iff.1 h
      rw [closOf_eq, look_eq hl] at hq
      rw [look_eq hl] at h
      cases hm : madeOk (base + j * share) st.nxt (st.heap.take (st.nxt - (base + j * share))) with
      | false => rw [hm] at h; cases h
      | true =>
       rw [hm] at h
       simp only [cond_true] at h
       obtain ⟨lg, hlg, h⟩ := Option.bind_eq_some_iff.1 h
       exact step v k.st _ (by unfold act; simp only [h1, h2, hqt, hwk, hld, cond_true, cond_false]; rw [evOp_le hc hq]; simp only [Option.bind_some, hm, chk, cond_true, hlg, Option.map_some]) h
     | false =>
      have hk : kdOf C ops bef o j = .gen := by unfold kdOf; rw [hqt, hwk, hld]; rfl
      rw [hk] at h
      simp only at h
      obtain ⟨⟨v, st⟩, hq, h⟩ := Option.bind_eq_some_iff.1 h
      rw [closOf_eq, look_eq hl] at hq
      cases hm : madeOk (base + j * share) st.nxt (st.heap.take (st.nxt - (base + j * share))) with
      | false => rw [hm] at h; cases h
      | true =>
       rw [hm] at h
       simp only [cond_true] at h
       exact step v k.st _ (by unfold act; simp only [h1, h2, hqt, hwk, hld, cond_true, cond_false]; rw [evOp_le hc hq]; simp only [Option.bind_some, hm, chk, cond_true, noRead hld, logRead, Option.map_some]) h
theorem resultsK_sound {H : Heap} {ts : List AV} {T : Tm} (hl : Like ts T) : ∀ (l : List ResultVar), resultsK C H T l = results C H ts l
 | [] => rfl
 | .tmp t :: r => by
  have ih := resultsK_sound (H := H) hl r
  show ((lookK C T (.tmp t)).bind fun v => (resultsK C H T r).bind fun vs => some (v :: vs)) = _
  rw [ih, look_eq hl]
  rfl
 | .cell a t :: r => by
  have ih := resultsK_sound (H := H) hl r
  show ((lookK C T (.tmp a)).bind fun a => (mLoad C t a H).bind fun v => (resultsK C H T r).bind fun vs => some (v :: vs)) = _
  rw [ih, look_eq hl]
  rfl
def KLe (C : Ctx) (e : KCode → FrK → Option (Ex × FrK)) (e' : Code → Fr → Option (Ex × Fr)) : Prop :=
 ∀ (c : Code) (ts : List AV) (k k' : FrK) (x : Ex), Like ts k.tmps → e (codeOf C c) k = some (x, k') → ∃ ts', e' c { tmps := ts, st := k.st } = some (x, { tmps := ts', st := k'.st }) ∧ Like ts' k'.tmps
theorem callK_le {e : KCode → FrK → Option (Ex × FrK)} {e' : Code → Fr → Option (Ex × Fr)} (he : KLe C e e') : CallLe (callK C e) (evCall C e') := fun f args st r h => by
 unfold callK fnOf at h
 unfold evCall
 cases hf : C.funs.get f with
 | none => rw [hf] at h; cases h
 | some fn =>
  rw [hf] at h
  simp only [Option.bind_some] at h ⊢
  cases hb : fn.body with
  | none => rw [hb] at h; cases h
  | some b =>
   rw [hb] at h
   simp only [Option.bind_some] at h ⊢
   cases hn : Nat.ble fn.ntmps 512 with
   | false => rw [hn] at h; cases h
   | true =>
    rw [hn] at h
    have h : (bif Nat.ble args.length fn.ntmps then
     (e (codeOf C b) ⟨treeOf fn.ntmps args, st⟩).bind fun r => Ex.casesOn (motive := fun _ => Option (AV × St)) r.1
      ((resultsK C r.2.st.heap r.2.tmps fn.results.toList).bind fun vs => some (pack vs, r.2.st)) (fun _ => none) ((resultsK C r.2.st.heap r.2.tmps fn.results.toList).bind fun vs => some (pack vs, r.2.st))
     else none) = some r := h
    cases ha : Nat.ble args.length fn.ntmps with
    | false => rw [ha] at h; cases h
    | true =>
     rw [ha] at h
     simp only [cond_true] at h
     obtain ⟨⟨x, k'⟩, h1, h⟩ := Option.bind_eq_some_iff.1 h
     obtain ⟨ts', h2, h3⟩ := he b _ _ _ _ (like_args (by simpa using hn) (by simpa using ha)) h1
     rw [h2]
     simp only [Option.bind_some]
     cases x with
     | norm => simp only [resultsK_sound h3] at h; exact h
     | exit i => cases h
     | ret => simp only [resultsK_sound h3] at h; exact h
theorem stepK_le {e : KCode → FrK → Option (Ex × FrK)} {e' : Code → Fr → Option (Ex × Fr)} (he : KLe C e e') : KLe C (stepK C e) (evStep C e') := fun c ts k k' x hl h => by
 cases c with
 | skip => have h : some (Ex.norm, k) = some (x, k') := h; cases h; exact ⟨ts, rfl, hl⟩
 | ret => have h : some (Ex.ret, k) = some (x, k') := h; cases h; exact ⟨ts, rfl, hl⟩
 | exit i => have h : some (Ex.exit i, k) = some (x, k') := h; cases h; exact ⟨ts, rfl, hl⟩
 | region id ops draw =>
  cases draw with
  | false =>
   have h : ((runSer C (callK C e) (serOf C ops ops.toList) k).bind fun fr => some (Ex.norm, fr)) = some (x, k') := h
   obtain ⟨k1, h1, h⟩ := Option.bind_eq_some_iff.1 h
   cases h
   obtain ⟨ts', h2, h3⟩ := runSer_sound (callK_le he) _ hl h1
   exact ⟨ts', by show (evSerial C (evCall C e') ops ops.toList _).map _ = _; rw [h2]; rfl, h3⟩
  | true =>
   have h : ((runDr C (callK C e) k.st.nxt (Region.before ops).toList (drOf C ops (Region.before ops).toList (number 0 ops.toList)) ⟨k.tmps, { k.st with nxt := k.st.nxt + ops.size * share }, lg0 ops.size⟩).bind fun fl => some (Ex.norm, (⟨fl.tmps, full fl.st fl.lg⟩ : FrK))) = some (x, k') := h
   obtain ⟨k1, h1, h⟩ := Option.bind_eq_some_iff.1 h
   cases h
   obtain ⟨ts', h2, h3⟩ := runDr_sound (callK_le he) _ hl h1
   exact ⟨ts', by show ((evDrawn C (evCall C e') _ ops _ _ _).map _).map _ = _; rw [h2]; rfl, h3⟩
 | seq a b =>
  have h : ((e (codeOf C a) k).bind fun r => Ex.casesOn (motive := fun _ => Option (Ex × FrK)) r.1 (e (codeOf C b) r.2) (fun i => some (.exit i, r.2)) (some (.ret, r.2))) = some (x, k') := h
  obtain ⟨⟨y, k1⟩, h1, h⟩ := Option.bind_eq_some_iff.1 h
  obtain ⟨ts1, h2, h3⟩ := he a _ _ _ _ hl h1
  cases y with
  | norm =>
   obtain ⟨ts2, h4, h5⟩ := he b _ _ _ _ h3 h
   exact ⟨ts2, by show (e' a _).bind _ = _; rw [h2]; exact h4, h5⟩
  | exit i => cases h; exact ⟨ts1, by show (e' a _).bind _ = _; rw [h2]; rfl, h3⟩
  | ret => cases h; exact ⟨ts1, by show (e' a _).bind _ = _; rw [h2]; rfl, h3⟩
 | cond o a b =>
  have h : ((lookK C k.tmps o).bind fun v => match v with
   | .bool t => bif t then e (codeOf C a) k else e (codeOf C b) k
   | _ => none) = some (x, k') := h
  rw [look_eq hl] at h
  obtain ⟨v, hv, h⟩ := Option.bind_eq_some_iff.1 h
  cases v <;> simp only at h <;> try (cases h; done)
  rename_i t
  cases t with
  | true =>
   obtain ⟨ts2, h4, h5⟩ := he a _ _ _ _ hl h
   exact ⟨ts2, by show (opVal C ts o).bind _ = _; rw [hv]; exact h4, h5⟩
  | false =>
   obtain ⟨ts2, h4, h5⟩ := he b _ _ _ _ hl h
   exact ⟨ts2, by show (opVal C ts o).bind _ = _; rw [hv]; exact h4, h5⟩
 | block id a =>
  have h : ((e (codeOf C a) k).bind fun r => Ex.casesOn (motive := fun _ => Option (Ex × FrK)) r.1 (some (.norm, r.2)) (fun i => bif Nat.beq i id then some (.norm, r.2) else some (.exit i, r.2)) (some (.ret, r.2))) = some (x, k') := h
  obtain ⟨⟨y, k1⟩, h1, h⟩ := Option.bind_eq_some_iff.1 h
  obtain ⟨ts1, h2, h3⟩ := he a _ _ _ _ hl h1
  cases y with
  | norm => cases h; exact ⟨ts1, by show (e' a _).bind _ = _; rw [h2]; rfl, h3⟩
  | exit i =>
   have h : (bif Nat.beq i id then some (Ex.norm, k1) else some (Ex.exit i, k1)) = some (x, k') := h
   cases hb : Nat.beq i id with
   | true => rw [hb] at h; cases h; exact ⟨ts1, by show (e' a _).bind _ = _; rw [h2]; simp only [Option.bind_some, hb, cond_true], h3⟩
   | false => rw [hb] at h; cases h; exact ⟨ts1, by show (e' a _).bind _ = _; rw [h2]; simp only [Option.bind_some, hb, cond_false], h3⟩
  | ret => cases h; exact ⟨ts1, by show (e' a _).bind _ = _; rw [h2]; rfl, h3⟩
 | loop a =>
  have h : ((e (codeOf C a) k).bind fun r => Ex.casesOn (motive := fun _ => Option (Ex × FrK)) r.1 (e (codeOf C (.loop a)) r.2) (fun i => some (.exit i, r.2)) (some (.ret, r.2))) = some (x, k') := h
  obtain ⟨⟨y, k1⟩, h1, h⟩ := Option.bind_eq_some_iff.1 h
  obtain ⟨ts1, h2, h3⟩ := he a _ _ _ _ hl h1
  cases y with
  | norm =>
   obtain ⟨ts2, h4, h5⟩ := he (.loop a) _ _ _ _ h3 h
   exact ⟨ts2, by show (e' a _).bind _ = _; rw [h2]; exact h4, h5⟩
  | exit i => cases h; exact ⟨ts1, by show (e' a _).bind _ = _; rw [h2]; rfl, h3⟩
  | ret => cases h; exact ⟨ts1, by show (e' a _).bind _ = _; rw [h2]; rfl, h3⟩
 | _ => cases h
theorem evK_le : ∀ n, KLe C (evK C n) (ev C n)
 | 0 => fun c ts k k' x hl h => by cases h
 | n + 1 => stepK_le (evK_le n)
theorem runK_sound {n : Nat} {f : FuncId} {args : List AV} {r : AV × St} (h : runK C n f args = some r) : run C n f args = some r :=
 callK_le (evK_le n) f args _ r h
end
end Go.Ev
