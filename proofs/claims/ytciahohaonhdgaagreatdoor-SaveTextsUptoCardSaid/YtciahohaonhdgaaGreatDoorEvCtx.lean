/- A PART OF THE PROOF THAT SAVETEXTS HOLDS FOR EVERY INPUT OF BULK AT MOST 1048576. No condition beyond the given statement. This part: EvCtx. -/
import Derived.Test.YtciahohaonhdgaaGreatDoorEvDraw
import Derived.Eval
import Derived.Lib.Bytealg
import Derived.Lib.Join
import Derived.Below
namespace Go.Ev
open Go
def BT.All {α : Type} (p : Nat → α → Prop) : BT α → Prop
 | .nil => True
 | .node l k v r => BT.All p l ∧ p k v ∧ BT.All p r
theorem BT.All.get {α : Type} {p : Nat → α → Prop} : ∀ {t : BT α} {n : Nat} {v : α}, BT.All p t → t.get n = some v → p n v
 | .nil, _, _, _, h => by cases h
 | .node l k u r, n, v, ha, h => by
  unfold BT.get at h
  cases h1 : Nat.beq n k with
  | true =>
   rw [h1] at h
   simp only [cond_true, Option.some.injEq] at h
   subst h
   have := (beq_iff n k).1 h1
   subst this
   exact ha.2.1
  | false =>
   rw [h1] at h
   simp only [cond_false] at h
   cases h2 : Nat.ble n k with
   | true => rw [h2] at h; exact BT.All.get ha.1 h
   | false => rw [h2] at h; exact BT.All.get ha.2.2 h
def fieldsOk : TypeDesc → Bool
 | .struct fs => fs.toList.all fun f => f.name != "_"
 | _ => true
def bodyDraws (fn : Func) : Bool := match fn.body with
 | some c => codeDraws c
 | none => true
def TyRow (P : Program) (t : Nat) (i : TI) : Prop :=
 P.underlying t = some i.desc ∧ P.info? t = some i.info ∧ (i.eqok = true → P.eqGuardType P.depth t = false ∧ P.stoodInHeld t = false ∧ fieldsOk i.desc = true)
def FnRow (P : Program) (f : Nat) (fn : Func) : Prop :=
 P.funcs[f]? = some fn ∧ (fn.name == "runtime.NumGoroutine") = false ∧ bodyDraws fn = true
section
variable {P : Program} {C : Ctx}
theorem tyOk_of (h : BT.All (TyRow P) C.types) : TyOk P C where
 ty := fun t i hi => ⟨(h.get hi).1, (h.get hi).2.1⟩
 eq := fun t i hi he => by
  obtain ⟨h1, h2, h3⟩ := (h.get hi).2.2 he
  refine ⟨h1, h2, fun fs hd f hf hn => ?_⟩
  rw [hd] at h3
  unfold fieldsOk at h3
  rw [List.all_eq_true] at h3
  have := h3 f hf
  simp [hn] at this
theorem fnsOk_of (h : BT.All (FnRow P) C.funs) : FnsOk P C where
 fn := fun _f _fn _body hf _ => ⟨(h.get hf).1, (h.get hf).2.1⟩
theorem drawsOk_of (hm : P.follows .mixedOrders = true) (hT : TyOk P C) (hp : PrimsOk P C) (h : BT.All (FnRow P) C.funs) : ∀ f fn body, C.funs.get f = some fn → fn.body = some body → Draws P C body := fun f fn body hf hb => by
 have := (h.get hf).2.2
 unfold bodyDraws at this
 rw [hb] at this
 exact draws_of hm hT hp body this
end
end Go.Ev
namespace Go.Ev
open Go Go.RowKit
section
variable {P : Program} {C : Ctx}
def PrimOk (P : Program) (C : Ctx) (f : FuncId) (φ : List AV → Option AV) : Prop :=
 ∀ (ds : List AV) (r : AV), φ ds = some r → ∀ (w : World) (B : Nat → Prop) (cargs : List Value), LR C w (fun _ => False) B (fun _ => none) ds cargs →
  FnOk P f cargs.toArray w fun cv w' => VR C w' (fun _ => False) B (fun _ => none) r cv ∧ Ext w (fun _ => False) (fun _ => none) w' (fun _ => False) (fun _ => none)
theorem ext_of_below {w w' : World} (h : Below w.heap.size w w') : Ext w (fun _ => False) (fun _ => none) w' (fun _ => False) (fun _ => none) where
 os := h.os
 tape := h.tape
 output := h.output
 size := h.size
 keep := fun b hb _ => h.block b hb
 shp := fun b c e fz hc => ⟨c, by rw [h.block b (Array.getElem?_eq_some_iff.1 hc).1]; exact hc, rfl⟩
 own := fun _ h => .inl h
 sub := fun _ _ h => h
def ixByte : List UInt8 → UInt8 → Nat → Int
 | [], _, _ => -1
 | b :: l, c, k => bif b == c then (k : Int) else ixByte l c (k + 1)
theorem ixByte_eq (c : UInt8) : ∀ (l : List UInt8) (k : Nat), ixByte l c k = if Lib.indexByte l c = -1 then -1 else Lib.indexByte l c + k
 | [], k => by simp [ixByte, Lib.indexByte]
 | b :: l, k => by
  unfold ixByte Lib.indexByte
  cases hb : b == c with
  | true => simp
  | false =>
   simp only [cond_false, Bool.false_eq_true, if_false]
   rw [ixByte_eq c l (k + 1)]
   have hge := Lib.indexByte_ge l c
   by_cases h : Lib.indexByte l c = -1
   ·simp [h]
   ·have h2 : (Lib.indexByte l c == -1) = false := by simpa using h
    rw [if_neg h, h2]
    simp only [Bool.false_eq_true, if_false]
    rw [if_neg (by omega)]
    push_cast
    omega
def phiIndexByte : List AV → Option AV
 | [.str s, .int .u8 c] => some (.int .i64 (ixByte s c.toNat.toUInt8 0))
 | _ => none
def cntByte : List UInt8 → UInt8 → Nat → Nat
 | [], _, k => k
 | b :: l, c, k => bif b == c then cntByte l c (k + 1) else cntByte l c k
theorem cntByte_eq (c : UInt8) : ∀ (l : List UInt8) (k : Nat), cntByte l c k = l.count c + k
 | [], k => by simp [cntByte]
 | b :: l, k => by
  unfold cntByte
  rw [List.count_cons]
  cases hb : b == c with
  | true => simp only [cond_true, if_true]; rw [cntByte_eq c l]; omega
  | false => simp only [cond_false, Bool.false_eq_true, if_false]; rw [cntByte_eq c l]; omega
def phiCount : List AV → Option AV
 | [.str s, .int .u8 c] => some (.int .i64 (cntByte s c.toNat.toUInt8 0))
 | _ => none
def joinL (sep : List UInt8) : List (List UInt8) → List UInt8
 | [] => []
 | [x] => x
 | x :: r => x ++ (sep ++ joinL sep r)
def strsOf : List AV → Option (List (List UInt8))
 | [] => some []
 | .str s :: r => (strsOf r).map (s :: ·)
 | _ => none
theorem joinL_eq (sep : List UInt8) : ∀ xs, joinL sep xs = Lib.join xs sep
 | [] => rfl
 | [x] => by simp [joinL, Lib.join, List.intercalate]
 | x :: y :: r => by
  have := joinL_eq sep (y :: r)
  rw [Lib.join_cons] at this ⊢
  simp only [joinL] at this ⊢
  rw [this]
  simp [Lib.joinTail]
def phiJoin : List AV → Option AV
 | [.snil, .str _] => some (.str [])
 | [.sdat _ 1 xs _, .str sep] => (strsOf xs).bind fun ss => (chk (Nat.ble (joinL sep ss).length 140737488355328 && Nat.ble xs.length 140737488355328)).bind fun _ => some (.str (joinL sep ss))
 | _ => none
theorem lr_one {w O B M a} {l : List Value} (h : LR C w O B M [a] l) : ∃ x, l = [x] ∧ VR C w O B M a x := by
 obtain ⟨x, rfl⟩ := List.length_eq_one_iff.1 h.len
 exact ⟨x, rfl, h.rel 0 (by simp) (by simp)⟩
theorem lr_two {w O B M a b} {l : List Value} (h : LR C w O B M [a, b] l) : ∃ x y, l = [x, y] ∧ VR C w O B M a x ∧ VR C w O B M b y := by
 obtain ⟨x, y, rfl⟩ := list_two h.len
 exact ⟨x, y, rfl, h.rel 0 (by simp) (by simp), h.rel 1 (by simp) (by simp)⟩
theorem primIndexByte {f : FuncId} (hc : ∀ (args : Array Value) (w : World), (callFunc f args).run P w = ((Extern.BytealgIndexByte.indexByte args).run P w).andThen fun v w' => .ok (.value v) w') : PrimOk P C f phiIndexByte := by
 intro ds r h w B cargs hl o a next Q hn
 unfold phiIndexByte at h
 split at h
 ·rename_i s c
  obtain rfl := Option.some.inj h
  obtain ⟨x, y, rfl, hx, hy⟩ := lr_two hl
  cases hx with
  | str _ bs hs =>
   cases hy with
   | int =>
    subst hs
    rw [hc]
    have := Lib.run_indexByteString (P := P) bs c w
    rw [this]
    refine hn _ _ ⟨?_, .refl _ _ _⟩
    rw [ixByte_eq]
    have e : (if Lib.indexByte bs.data.toList c.toNat.toUInt8 = -1 then (-1 : Int) else Lib.indexByte bs.data.toList c.toNat.toUInt8 + (0 : Nat)) = Lib.indexByte bs.data.toList c.toNat.toUInt8 := by
     split
     ·rename_i h; exact h.symm
     ·simp
    rw [e]
    exact .int _ _
 ·cases h
theorem primCount {f : FuncId} (hc : ∀ (args : Array Value) (w : World), (callFunc f args).run P w = ((Extern.BytealgCount.count args).run P w).andThen fun v w' => .ok (.value v) w') : PrimOk P C f phiCount := by
 intro ds r h w B cargs hl o a next Q hn
 unfold phiCount at h
 split at h
 ·rename_i s c
  obtain rfl := Option.some.inj h
  obtain ⟨x, y, rfl, hx, hy⟩ := lr_two hl
  cases hx with
  | str _ bs hs =>
   cases hy with
   | int =>
    subst hs
    rw [hc]
    have := Lib.run_countString (P := P) bs c w
    rw [this]
    refine hn _ _ ⟨?_, .refl _ _ _⟩
    rw [cntByte_eq]
    exact .int _ _
 ·cases h
theorem strsOf_spec : ∀ {xs : List AV} {ss : List (List UInt8)}, strsOf xs = some ss → ss.length = xs.length ∧ ∀ j (h : j < xs.length) (h' : j < ss.length), xs[j] = .str ss[j]
 | [], ss, h => by simp [strsOf] at h; subst h; exact ⟨rfl, fun j h => by cases h⟩
 | x :: r, ss, h => by
  cases x with
  | str s =>
   simp only [strsOf, Option.map_eq_some_iff] at h
   obtain ⟨t, ht, rfl⟩ := h
   obtain ⟨h1, h2⟩ := strsOf_spec ht
   refine ⟨by simp [h1], fun j hj h' => ?_⟩
   cases j with
   | zero => rfl
   | succ j => exact h2 j (by simpa using hj) (by simpa using h')
  | _ => simp [strsOf] at h
theorem primJoin {f : FuncId} (he : ∀ (args : Array Value) (w : World), (callFunc f args).run P w = .ok (.enter f args) w)
  (h0 : ∀ (a : Option Addr) (c : Nat) (sep : ByteArray) (w : World), Calls P f #[.slice a 0 c, .string sep] w fun e w' => e = .returned (.string ⟨#[]⟩) ∧ w' = w)
  (h1 : ∀ (bk o c : Nat) (xs : List ByteArray) (sep : ByteArray) (w : World), (∀ (j : Nat) x, xs[j]? = some x → w.cell? ⟨bk, o + j, none⟩ = some (.string x)) → bk < w.heap.size → xs.length ≤ 140737488355328 → xs.length ≤ c →
   (Lib.join (xs.map (·.data.toList)) sep.data.toList).length ≤ 140737488355328 → Calls P f #[.slice (some ⟨bk, o, none⟩) xs.length c, .string sep] w fun e w' => e = .returned (.string ⟨(Lib.join (xs.map (·.data.toList)) sep.data.toList).toArray⟩) ∧ Below w.heap.size w w') : PrimOk P C f phiJoin := by
 intro ds r h w B cargs hl o a next Q hn
 rw [he, Oper.upon_enter]
 have fin : ∀ {R : Ending → World → Prop} {s : List UInt8} {bs : ByteArray}, bs.data.toList = s → r = .str s → (∀ e w', R e w' → e = .returned (.string bs) ∧ Below w.heap.size w w') → Calls P f cargs.toArray w R → Calls P f cargs.toArray w (fun
  | .returned v, w'' => next (a.put o.dst v) w''
  | .panicked chain, w'' => Q (.panic chain) a w''
  | .outgrown, _ => LetsOut Q) := fun {R s bs} hs hr hR hc => hc.mono fun e w' he => by
   obtain ⟨rfl, hb⟩ := hR e w' he
   subst hr
   exact hn _ _ ⟨.str _ _ hs, ext_of_below hb⟩
 unfold phiJoin at h
 split at h
 ·rename_i sep
  obtain ⟨x, y, rfl, hx, hy⟩ := lr_two hl
  cases hx
  cases hy with
  | str _ bs hs => exact fin (s := []) (bs := ⟨#[]⟩) rfl (Option.some.inj h).symm (fun e w' hh => by exact ⟨hh.1, hh.2 ▸ .refl _ _⟩) (h0 none 0 bs w)
 ·rename_i t xs cap sep
  simp only [Option.bind_eq_some_iff, Option.some.injEq] at h
  obtain ⟨ss, hss, _, hch, hr⟩ := h
  have hch := chk_some hch
  simp only [Bool.and_eq_true, Nat.ble_eq] at hch
  obtain ⟨x, y, rfl, hx, hy⟩ := lr_two hl
  obtain ⟨e1, e2⟩ := strsOf_spec hss
  cases hy with
  | str _ bs hs =>
   subst hs
   cases hx with
   | sdat _ _ _ _ blk o' c vs hlt hO hB hc hlen hcap hsz hcell hic hv =>
    by_cases hx0 : xs = []
    ·subst hx0
     have : ss = [] := by simpa using e1
     subst this
     exact fin (s := []) (bs := ⟨#[]⟩) rfl hr.symm (fun e w' hh => by exact ⟨hh.1, hh.2 ▸ .refl _ _⟩) (h0 (some ⟨blk, o', none⟩) c bs w)
    ·have hb := hlt hx0
     have hcells : ∀ j (h : j < xs.length) (h' : j < ss.length), ∃ x : ByteArray, vs j 0 = .string x ∧ x.data.toList = ss[j] := fun j h h' => by
      have e3 := e2 j h h'
      have hcl : xs[j].cells = [AV.str ss[j]] := by rw [e3]; rfl
      have := hv j h 0 (by rw [hcl]; simp)
      simp only [hcl, List.getElem_cons_zero] at this
      generalize vs j 0 = q at this
      cases this with
      | str _ x hx => exact ⟨x, rfl, hx⟩
     let ys : List ByteArray := (List.range xs.length).map fun j => match vs j 0 with | .string x => x | _ => default
     have hyl : ys.length = xs.length := by simp [ys]
     have hyg : ∀ j (h : j < xs.length) (h' : j < ss.length), ∃ hj : j < ys.length, vs j 0 = .string ys[j] ∧ ys[j].data.toList = ss[j] := fun j h h' => by
      obtain ⟨x, hx1, hx2⟩ := hcells j h h'
      refine ⟨by rw [hyl]; exact h, ?_⟩
      simp only [ys, List.getElem_map, List.getElem_range, hx1]
      exact ⟨trivial, hx2⟩
     have hym : ys.map (·.data.toList) = ss := by
      refine List.ext_getElem (by simp [hyl, e1]) fun j h2 h3 => ?_
      obtain ⟨_, _, h4⟩ := hyg j (by rw [← e1]; exact h3) h3
      rw [List.getElem_map]; exact h4
     have hcall := h1 blk o' c ys bs w (fun j x hj => by
      obtain ⟨hjl, hjx⟩ := List.getElem?_eq_some_iff.1 hj
      have hjx1 : j < xs.length := by rw [← hyl]; exact hjl
      obtain ⟨_, h4, _⟩ := hyg j hjx1 (by rw [e1]; exact hjx1)
      have := hcell j 0 hjx1 (by omega)
      simp only [Nat.mul_one, Nat.add_zero] at this
      rw [this, h4, hjx]) hb (by rw [hyl]; exact hch.2) (by rw [hyl]; exact hlen) (by rw [hym, ← joinL_eq]; exact hch.1)
     rw [hyl, hym, ← joinL_eq] at hcall
     exact fin (bs := ⟨(joinL bs.data.toList ss).toArray⟩) (by simp) hr.symm (fun e w' hh => by exact hh) hcall
 ·cases h
end
end Go.Ev
namespace Go.Ev
open Go
def CallLe (c c' : CallF) : Prop := ∀ f args st r, c f args st = some r → c' f args st = some r
section
variable {C : Ctx} {c c' : CallF}
theorem bind_le {α β : Type} {x y : Option α} {f g : α → Option β} {r : β} (hx : ∀ a, x = some a → y = some a) (hf : ∀ a b, f a = some b → g a = some b) (h : x.bind f = some r) : y.bind g = some r := by
 obtain ⟨a, ha, h⟩ := Option.bind_eq_some_iff.1 h
 exact Option.bind_eq_some_iff.2 ⟨a, hx a ha, hf a r h⟩
theorem callHere_le (hc : CallLe c c') {g : FuncId} {args : List AV} {st : St} {r : AV × St} (h : callHere C c g args st = some r) : callHere C c' g args st = some r :=
 bind_le (fun a ha => hc _ _ _ a ha) (fun _ _ h => h) h
theorem callData_le (hc : CallLe c c') {g : FuncId} {args : List AV} {st : St} {r : AV × St} (h : callData C c g args st = some r) : callData C c' g args st = some r :=
 bind_le (fun _ h => h) (fun _ _ h => bind_le (fun a ha => hc _ _ _ a ha) (fun _ _ h => h) h) h
theorem evCallTo_le (hc : CallLe c c') {serial : Bool} {g : FuncId} {args : List AV} {st : St} {r : AV × St} (h : evCallTo C c serial g args st = some r) : evCallTo C c' serial g args st = some r := by
 unfold evCallTo at h ⊢
 split at h
 ·exact h
 ·split at h
  ·exact h
  ·cases hsd : (serial && !(C.data g)) with
   | true => rw [hsd] at h; exact callHere_le hc h
   | false => rw [hsd] at h; exact callData_le hc h
theorem evCallOp_le (hc : CallLe c c') {serial : Bool} {f : AV} {args : List AV} {st : St} {r : AV × St} (h : evCallOp C c serial f args st = some r) : evCallOp C c' serial f args st = some r := by
 unfold evCallOp at h ⊢
 split at h
 ·exact evCallTo_le hc h
 ·exact evCallTo_le hc h
 ·cases h
theorem evOp_le (hc : CallLe c c') {serial : Bool} {ρ : Look} {o : Oper} {st : St} {r : AV × St} (h : evOp C c serial ρ o st = some r) : evOp C c' serial ρ o st = some r := by
 unfold evOp at h ⊢
 cases hop : o.op with
 | call k =>
  simp only [hop] at h ⊢
  refine bind_le (fun _ h => h) (fun vs b h => ?_) h
  cases hk : k.callee with
  | value f =>
   simp only [hk] at h ⊢
   exact bind_le (fun _ h => h) (fun _ _ h => evCallOp_le hc h) h
  | builtin bi => cases bi <;> (simp only [hk] at h ⊢; exact h)
  | invoke a b => simp only [hk] at h; cases h
 | makeFunc f a b => cases f <;> (simp only [hop] at h ⊢; exact h)
 | next a b => cases b <;> (simp only [hop] at h ⊢; exact h)
 | makeMap t r => cases r <;> (simp only [hop] at h ⊢; exact h)
 | _ => simp only [hop] at h ⊢ <;> first | exact h | cases h
end
end Go.Ev
