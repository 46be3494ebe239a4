/- A PART OF THE PROOF THAT ONE CALL OF A LAW OF LAYER 46 (which of any patches have a line with any word) returns true, whatever the input; the input reads as it did. No condition beyond the given statement. This part: EvK. -/
import Derived.Test.YtklmbhogclaieaaGreatDoorEvMono
namespace Go.Ev
open Go

/-! THE FAST EVALUATOR: the same as 'ev', for the kernel: slots in a tree of eights, code laid out once as data. -/
inductive Dg where
  | d0 | d1 | d2 | d3 | d4 | d5 | d6 | d7

inductive Tm where
  | nil
  | leaf (v : AV)
  | node (a b c d e f g h : Tm)

noncomputable def Tm.kid0 (t : Tm) : Tm := Tm.casesOn (motive := fun _ => Tm) t .nil (fun _ => .nil) (fun a _ _ _ _ _ _ _ => a)
noncomputable def Tm.kid1 (t : Tm) : Tm := Tm.casesOn (motive := fun _ => Tm) t .nil (fun _ => .nil) (fun _ a _ _ _ _ _ _ => a)
noncomputable def Tm.kid2 (t : Tm) : Tm := Tm.casesOn (motive := fun _ => Tm) t .nil (fun _ => .nil) (fun _ _ a _ _ _ _ _ => a)
noncomputable def Tm.kid3 (t : Tm) : Tm := Tm.casesOn (motive := fun _ => Tm) t .nil (fun _ => .nil) (fun _ _ _ a _ _ _ _ => a)
noncomputable def Tm.kid4 (t : Tm) : Tm := Tm.casesOn (motive := fun _ => Tm) t .nil (fun _ => .nil) (fun _ _ _ _ a _ _ _ => a)
noncomputable def Tm.kid5 (t : Tm) : Tm := Tm.casesOn (motive := fun _ => Tm) t .nil (fun _ => .nil) (fun _ _ _ _ _ a _ _ => a)
noncomputable def Tm.kid6 (t : Tm) : Tm := Tm.casesOn (motive := fun _ => Tm) t .nil (fun _ => .nil) (fun _ _ _ _ _ _ a _ => a)
noncomputable def Tm.kid7 (t : Tm) : Tm := Tm.casesOn (motive := fun _ => Tm) t .nil (fun _ => .nil) (fun _ _ _ _ _ _ _ a => a)
noncomputable def Tm.put0 (f : Tm → Tm) (t : Tm) : Tm := Tm.casesOn (motive := fun _ => Tm) t .nil (fun v => .leaf v) (fun a b c d e g h i => .node (f a) b c d e g h i)
noncomputable def Tm.put1 (f : Tm → Tm) (t : Tm) : Tm := Tm.casesOn (motive := fun _ => Tm) t .nil (fun v => .leaf v) (fun a b c d e g h i => .node a (f b) c d e g h i)
noncomputable def Tm.put2 (f : Tm → Tm) (t : Tm) : Tm := Tm.casesOn (motive := fun _ => Tm) t .nil (fun v => .leaf v) (fun a b c d e g h i => .node a b (f c) d e g h i)
noncomputable def Tm.put3 (f : Tm → Tm) (t : Tm) : Tm := Tm.casesOn (motive := fun _ => Tm) t .nil (fun v => .leaf v) (fun a b c d e g h i => .node a b c (f d) e g h i)
noncomputable def Tm.put4 (f : Tm → Tm) (t : Tm) : Tm := Tm.casesOn (motive := fun _ => Tm) t .nil (fun v => .leaf v) (fun a b c d e g h i => .node a b c d (f e) g h i)
noncomputable def Tm.put5 (f : Tm → Tm) (t : Tm) : Tm := Tm.casesOn (motive := fun _ => Tm) t .nil (fun v => .leaf v) (fun a b c d e g h i => .node a b c d e (f g) h i)
noncomputable def Tm.put6 (f : Tm → Tm) (t : Tm) : Tm := Tm.casesOn (motive := fun _ => Tm) t .nil (fun v => .leaf v) (fun a b c d e g h i => .node a b c d e g (f h) i)
noncomputable def Tm.put7 (f : Tm → Tm) (t : Tm) : Tm := Tm.casesOn (motive := fun _ => Tm) t .nil (fun v => .leaf v) (fun a b c d e g h i => .node a b c d e g h (f i))

noncomputable def Dg.kid (d : Dg) : Tm → Tm := Dg.rec (motive := fun _ => Tm → Tm) Tm.kid0 Tm.kid1 Tm.kid2 Tm.kid3 Tm.kid4 Tm.kid5 Tm.kid6 Tm.kid7 d
noncomputable def Dg.put (d : Dg) : (Tm → Tm) → Tm → Tm := Dg.rec (motive := fun _ => (Tm → Tm) → Tm → Tm) Tm.put0 Tm.put1 Tm.put2 Tm.put3 Tm.put4 Tm.put5 Tm.put6 Tm.put7 d

def dgOf (n : Nat) : Dg := match n % 8 with
  | 0 => .d0 | 1 => .d1 | 2 => .d2 | 3 => .d3 | 4 => .d4 | 5 => .d5 | 6 => .d6 | _ => .d7

noncomputable def Tm.val (t : Tm) : Option AV := Tm.casesOn (motive := fun _ => Option AV) t none (fun v => some v) (fun _ _ _ _ _ _ _ _ => none)
noncomputable def Tm.setVal (v : AV) (t : Tm) : Tm := Tm.casesOn (motive := fun _ => Tm) t .nil (fun _ => .leaf v) (fun a b c d e g h i => .node a b c d e g h i)

/-- where a slot is -/
inductive Acc where
  | bad
  | mk (g : Tm → Option AV) (s : AV → Tm → Tm)

noncomputable def accOf (t : Nat) : Acc := bif Nat.blt t 512 then
    .mk (fun x => ((dgOf t).kid ((dgOf (t / 8)).kid ((dgOf (t / 64)).kid x))).val) (fun v => (dgOf (t / 64)).put ((dgOf (t / 8)).put ((dgOf t).put (Tm.setVal v))))
  else .bad
noncomputable def Acc.get (a : Acc) (t : Tm) : Option AV := Acc.casesOn (motive := fun _ => Option AV) a none (fun g _ => g t)
noncomputable def Acc.set (a : Acc) (v : AV) (t : Tm) : Tm := Acc.casesOn (motive := fun _ => Tm) a t (fun _ s => s v t)

/-- an operand -/
inductive Arg where
  | tmp (a : Acc)
  | val (v : Option AV)

noncomputable def argOf (C : Ctx) (x : Operand) : Arg := match x with
  | .tmp t => .tmp (accOf t)
  | .const v => .val (ofVal v)
  | .global g => .val ((C.globs g).map (.pdat false))
  | .func f => .val (some (.clo f []))

noncomputable def Arg.get (a : Arg) (t : Tm) : Option AV := Arg.casesOn (motive := fun _ => Option AV) a (fun a => (a.get t).bind fun v => bif known v then some v else none) (fun v => v)

noncomputable def lookK (C : Ctx) (t : Tm) : Look := fun x => (argOf C x).get t

/-! ### Operations, laid out -/
inductive BinC where
  | mk (f : AV → AV → Option AV)
noncomputable def BinC.run (b : BinC) (x y : AV) : Option AV := BinC.casesOn (motive := fun _ => Option AV) b fun f => f x y

def cmpK (f : Int → Int → Bool) (g : List UInt8 → List UInt8 → Bool) (x y : AV) : Option AV := match x with
  | .int k a => match y with
    | .int k' b => if k = k' then some (.bool (f a b)) else none
    | _ => none
  | .str a => match y with
    | .str b => some (.bool (g a b))
    | _ => none
  | _ => none

def ariK (f : IntKind → Int → Int → Option AV) (g : List UInt8 → List UInt8 → Option AV) (x y : AV) : Option AV := match x with
  | .int k a => match y with
    | .int k' b => if k = k' then f k a b else none
    | _ => none
  | .str a => match y with
    | .str b => g a b
    | _ => none
  | _ => none

def binOf (C : Ctx) (op : BinOp) (t : TypeId) (lit : Bool) : BinC := match op with
  | .lss => .mk (cmpK (fun a b => decide (a < b)) bytesLess)
  | .leq => .mk (cmpK (fun a b => decide (a ≤ b)) (fun x y => bytesLess x y || x == y))
  | .gtr => .mk (cmpK (fun a b => decide (a > b)) (fun x y => !(bytesLess x y || x == y)))
  | .geq => .mk (cmpK (fun a b => decide (a ≥ b)) (fun x y => !(bytesLess x y)))
  | .add => .mk (ariK (fun k a b => some (.int k (k.wrap (a + b)))) (strOp .add))
  | .sub => .mk (ariK (fun k a b => some (.int k (k.wrap (a - b)))) (fun _ _ => none))
  | .eql => .mk fun x y => match x with
    | .int k a => match y with
      | .int k' b => if k = k' then some (.bool (a == b)) else none
      | y => (eqAny C t lit (.int k a) y).map .bool
    | .str a => match y with
      | .str b => some (.bool (a == b))
      | y => (eqAny C t lit (.str a) y).map .bool
    | x => (eqAny C t lit x y).map .bool
  | .neq => .mk fun x y => match x with
    | .int k a => match y with
      | .int k' b => if k = k' then some (.bool (a != b)) else none
      | y => (eqAny C t lit (.int k a) y).map fun b => .bool (!b)
    | .str a => match y with
      | .str b => some (.bool (!(a == b)))
      | y => (eqAny C t lit (.str a) y).map fun b => .bool (!b)
    | x => (eqAny C t lit x y).map fun b => .bool (!b)
  | op => .mk (binAV C op t lit)

inductive Clos where
  | mk (f : CallF → Bool → Look → St → Option (AV × St))
noncomputable def Clos.run (c : Clos) (call : CallF) (serial : Bool) (ρ : Look) (st : St) : Option (AV × St) := Clos.casesOn (motive := fun _ => Option (AV × St)) c fun f => f call serial ρ st

noncomputable def closOf (C : Ctx) (o : Oper) : Clos := match o.op with
  | .move x => .mk fun _ _ ρ st => (ρ x).map (keep st)
  | .assign x => .mk fun _ _ ρ st => (ρ x).map (keep st)
  | .alloc e => .mk fun _ _ _ st => (C.ti e).bind fun i => i.zero.bind fun z => some (.pref st.nxt 0, st.new (.cells e z.cells))
  | .box e x => .mk fun _ _ ρ st => (ρ x).bind fun v => v.row.bind fun row => some (.pref st.nxt 0, st.new (.cells e row))
  | .build t parts => .mk fun _ _ ρ st => (partV ρ parts.toList).bind fun ps => (mBuild C t ps).map (keep st)
  | .buildSlice t len parts => .mk fun _ _ ρ st => (partV ρ parts.toList).bind fun ps => mBuildSlice C t len ps st
  | .load t a => .mk fun _ _ ρ st => (ρ a).bind fun a => (mLoad C t a st.heap).map (keep st)
  | .store t a x => .mk fun _ serial ρ st => (chk serial).bind fun _ => (ρ a).bind fun a => (ρ x).bind fun x => (mStore C t a x st).map fun st => (.tup [], st)
  | .binOp op t x y _ => .mk fun _ _ ρ st => (ρ x).bind fun a => (ρ y).bind fun b => ((binOf C op t (isLit x || isLit y)).run a b).map (keep st)
  | .unOp op _ x => .mk fun _ _ ρ st => (ρ x).bind fun a => (unAV op a).map (keep st)
  | .slice t x lo hi mx => .mk fun _ _ ρ st => (ρ x).bind fun x => (optV ρ lo).bind fun lo => (optV ρ hi).bind fun hi => (optV ρ mx).bind fun mx => (mSlice C t x lo hi mx st.heap).map (keep st)
  | .fieldAddr s x f => .mk fun _ _ ρ st => (ρ x).bind fun v => (mFieldAddr C s v f).map (keep st)
  | .field s x f => .mk fun _ _ ρ st => (ρ x).bind fun v => (mField C s v f).map (keep st)
  | .indexAddr t x ix => .mk fun _ _ ρ st => (ρ x).bind fun v => (ρ ix).bind fun i => (mIndexAddr C t v i).map (keep st)
  | .index t x ix => .mk fun _ _ ρ st => (ρ x).bind fun v => (ρ ix).bind fun i => (mIndex C t v i).map (keep st)
  | .extract x i => .mk fun _ _ ρ st => (ρ x).bind fun v => match v with
    | .tup vs => (getL vs i).map (keep st)
    | _ => none
  | .call c => match c.callee with
    | .value f => .mk fun call serial ρ st => (vals ρ c.args.toList).bind fun vs => (ρ f).bind fun f => evCallOp C call serial f vs st
    | .builtin .len => match c.argTypes.toList with
      | t :: _ => .mk fun _ _ ρ st => (vals ρ c.args.toList).bind fun vs => match vs with
        | [v] => (mLen C t v st.heap).map (keep st)
        | _ => none
      | _ => .mk fun _ _ ρ _ => (vals ρ c.args.toList).bind fun _ => none
    | .builtin .append => match c.argTypes.toList with
      | [t, t2] => bif isInt C t2 then .mk fun _ _ ρ st => (vals ρ c.args.toList).bind fun vs => match vs with
          | [s, x] => mAppendZ C t s x st
          | _ => none
        else .mk fun _ serial ρ st => (vals ρ c.args.toList).bind fun vs => match vs with
          | [s, x] => mAppend C serial t t2 s x st
          | _ => none
      | _ => .mk fun _ _ ρ _ => (vals ρ c.args.toList).bind fun _ => none
    | _ => .mk fun call serial ρ st => evOp C call serial ρ o st
  | _ => .mk fun call serial ρ st => evOp C call serial ρ o st

theorem binOf_eq (C : Ctx) (op : BinOp) (t : TypeId) (lit : Bool) (x y : AV) : (binOf C op t lit).run x y = binAV C op t lit x y := by
  cases op <;> first
    | rfl
    | (cases x <;> first | rfl | (cases y <;> rfl))

theorem closOf_eq (C : Ctx) (o : Oper) (call : CallF) (serial : Bool) (ρ : Look) (st : St) : (closOf C o).run call serial ρ st = evOp C call serial ρ o st := by
  unfold closOf
  cases hop : o.op <;> dsimp only <;> try (unfold evOp; rw [hop]; rfl)
  · unfold evOp
    rw [hop]
    show ((ρ _).bind fun a => (ρ _).bind fun b => _) = _
    simp only [binOf_eq]
  · rename_i c
    cases hc : c.callee with
    | value f => simp only; unfold evOp; rw [hop]; simp only [hc]; rfl
    | invoke r m => rfl
    | builtin b =>
      cases b <;> try rfl
      · simp only
        unfold evOp; rw [hop]; simp only [hc]
        cases ht : c.argTypes.toList with
        | nil => cases hv : vals ρ c.args.toList <;> simp [Clos.run, hv]
        | cons t r => cases r with
          | nil => cases hv : vals ρ c.args.toList <;> simp [Clos.run, hv]
          | cons t2 r => cases r with
            | cons t3 r => cases hv : vals ρ c.args.toList <;> simp [Clos.run, hv]
            | nil =>
              simp only
              cases hi : isInt C t2 <;> simp only [cond_true, cond_false, Clos.run] <;> (congr 1; funext vs; cases vs with
                | nil => rfl
                | cons a r => cases r with
                  | nil => rfl
                  | cons b r => cases r with
                    | nil => (simp only [hi]; first | rfl | done)
                    | cons c r => rfl)
      · simp only
        unfold evOp; rw [hop]; simp only [hc]
        cases ht : c.argTypes.toList with
        | nil => cases hv : vals ρ c.args.toList <;> simp [Clos.run, hv]
        | cons t r =>
          simp only [Clos.run]
          congr 1; funext vs
          cases vs with
          | nil => rfl
          | cons a r => cases r <;> rfl
end Go.Ev
