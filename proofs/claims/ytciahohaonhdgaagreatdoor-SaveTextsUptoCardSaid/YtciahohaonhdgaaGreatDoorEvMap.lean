/- A PART OF THE PROOF THAT SAVETEXTS HOLDS FOR EVERY INPUT OF BULK AT MOST 1048576. No condition beyond the given statement. This part: EvMap. -/
import Derived.Test.YtciahohaonhdgaaGreatDoorEvOpsA
namespace Go.Ev
open Go
def EL (R : AV → Value → Prop) : List AV → List AV → List Nat → List MapEntry → Prop
 | [], [], [], [] => True
 | k :: ks, u :: us, b :: bs, e :: es => R k e.key ∧ R u e.val ∧ e.born = b ∧ EL R ks us bs es
 | _, _, _, _ => False
theorem EL.of {R : AV → Value → Prop} : ∀ {es : List MapEntry} {ks us : List AV} {bs : List Nat}, ks.length = es.length → us.length = es.length → bs.length = es.length →
  (∀ j (h : j < es.length) (h' : j < bs.length), es[j].born = bs[j]) → (∀ j (h : j < es.length) (h' : j < ks.length), R ks[j] es[j].key) → (∀ j (h : j < es.length) (h' : j < us.length), R us[j] es[j].val) → EL R ks us bs es
 | [], [], [], [], _, _, _, _, _, _ => trivial
 | e :: es, k :: ks, u :: us, b :: bs, h1, h2, h3, h4, h5, h6 => by
  refine ⟨h5 0 (by simp) (by simp), h6 0 (by simp) (by simp), h4 0 (by simp) (by simp), EL.of (by simpa using h1) (by simpa using h2) (by simpa using h3) (fun j a b => ?_) (fun j a b => ?_) (fun j a b => ?_)⟩
  ·exact h4 (j + 1) (by simpa using a) (by simpa using b)
  ·exact h5 (j + 1) (by simpa using a) (by simpa using b)
  ·exact h6 (j + 1) (by simpa using a) (by simpa using b)
 | [], _ :: _, _, _, h, _, _, _, _, _ => by simp at h
 | [], _, _ :: _, _, _, h, _, _, _, _ => by simp at h
 | [], _, _, _ :: _, _, _, h, _, _, _ => by simp at h
 | _ :: _, [], _, _, h, _, _, _, _, _ => by simp at h
 | _ :: _, _, [], _, _, h, _, _, _, _ => by simp at h
 | _ :: _, _, _, [], _, _, h, _, _, _ => by simp at h
theorem EL.mono {R R' : AV → Value → Prop} (hr : ∀ a b, R a b → R' a b) : ∀ {ks us : List AV} {bs : List Nat} {es : List MapEntry}, EL R ks us bs es → EL R' ks us bs es
 | [], [], [], [], _ => trivial
 | _ :: _, _ :: _, _ :: _, _ :: _, h => ⟨hr _ _ h.1, hr _ _ h.2.1, h.2.2.1, h.2.2.2.mono hr⟩
 | [], [], [], _ :: _, h => h.elim
 | [], [], _ :: _, _, h => h.elim
 | [], _ :: _, _, _, h => h.elim
 | _ :: _, [], _, _, h => h.elim
 | _ :: _, _ :: _, [], _, h => h.elim
 | _ :: _, _ :: _, _ :: _, [], h => h.elim
structure EI (R : AV → Value → Prop) (ks us : List AV) (bs : List Nat) (es : List MapEntry) : Prop where
 lk : ks.length = es.length
 lu : us.length = es.length
 lb : bs.length = es.length
 b : ∀ j (h : j < es.length) (h' : j < bs.length), es[j].born = bs[j]
 k : ∀ j (h : j < es.length) (h' : j < ks.length), R ks[j] es[j].key
 u : ∀ j (h : j < es.length) (h' : j < us.length), R us[j] es[j].val
theorem EL.to {R : AV → Value → Prop} : ∀ {ks us : List AV} {bs : List Nat} {es : List MapEntry}, EL R ks us bs es → EI R ks us bs es
 | [], [], [], [], _ => ⟨rfl, rfl, rfl, fun j h => by simp at h, fun j h => by simp at h, fun j h => by simp at h⟩
 | _ :: _, _ :: _, _ :: _, _ :: _, h => by
  have i := h.2.2.2.to
  refine ⟨by simp [i.lk], by simp [i.lu], by simp [i.lb], fun j a b => ?_, fun j a b => ?_, fun j a b => ?_⟩
  ·cases j with
   | zero => exact h.2.2.1
   | succ j => exact i.b j (by simpa using a) (by simpa using b)
  ·cases j with
   | zero => exact h.1
   | succ j => exact i.k j (by simpa using a) (by simpa using b)
  ·cases j with
   | zero => exact h.2.1
   | succ j => exact i.u j (by simpa using a) (by simpa using b)
 | [], [], [], _ :: _, h => h.elim
 | [], [], _ :: _, _, h => h.elim
 | [], _ :: _, _, _, h => h.elim
 | _ :: _, [], _, _, h => h.elim
 | _ :: _, _ :: _, [], _, h => h.elim
 | _ :: _, _ :: _, _ :: _, [], h => h.elim
theorem EL.push {R : AV → Value → Prop} {k u : AV} {b : Nat} {e : MapEntry} (h1 : R k e.key) (h2 : R u e.val) (h3 : e.born = b) : ∀ {ks us : List AV} {bs : List Nat} {es : List MapEntry}, EL R ks us bs es → EL R (ks ++ [k]) (us ++ [u]) (bs ++ [b]) (es ++ [e])
 | [], [], [], [], _ => ⟨h1, h2, h3, trivial⟩
 | _ :: _, _ :: _, _ :: _, _ :: _, h => ⟨h.1, h.2.1, h.2.2.1, h.2.2.2.push h1 h2 h3⟩
 | [], [], [], _ :: _, h => h.elim
 | [], [], _ :: _, _, h => h.elim
 | [], _ :: _, _, _, h => h.elim
 | _ :: _, [], _, _, h => h.elim
 | _ :: _, _ :: _, [], _, h => h.elim
 | _ :: _, _ :: _, _ :: _, [], h => h.elim
theorem EL.set {R : AV → Value → Prop} {k u : AV} {ck cu : Value} (h1 : R k ck) (h2 : R u cu) : ∀ {ks us : List AV} {bs : List Nat} {es : List MapEntry} (i : Nat), EL R ks us bs es → EL R (setL ks i k) (setL us i u) bs (es.modify i fun e => { e with key := ck, val := cu })
 | [], [], [], [], i, _ => by cases i <;> exact trivial
 | _ :: _, _ :: _, _ :: _, _ :: _, 0, h => ⟨h1, h2, h.2.2.1, h.2.2.2⟩
 | _ :: _, _ :: _, _ :: _, _ :: _, i + 1, h => ⟨h.1, h.2.1, h.2.2.1, h.2.2.2.set h1 h2 i⟩
 | [], [], [], _ :: _, _, h => h.elim
 | [], [], _ :: _, _, _, h => h.elim
 | [], _ :: _, _, _, _, h => h.elim
 | _ :: _, [], _, _, _, h => h.elim
 | _ :: _, _ :: _, [], _, _, h => h.elim
 | _ :: _, _ :: _, _ :: _, [], _, h => h.elim
theorem EL.erase {R : AV → Value → Prop} : ∀ {ks us : List AV} {bs : List Nat} {es : List MapEntry} (i : Nat), EL R ks us bs es → EL R (ks.eraseIdx i) (us.eraseIdx i) (bs.eraseIdx i) (es.eraseIdx i)
 | [], [], [], [], _i, _ => trivial
 | _ :: _, _ :: _, _ :: _, _ :: _, 0, h => h.2.2.2
 | _ :: _, _ :: _, _ :: _, _ :: _, i + 1, h => ⟨h.1, h.2.1, h.2.2.1, h.2.2.2.erase i⟩
 | [], [], [], _ :: _, _, h => h.elim
 | [], [], _ :: _, _, _, h => h.elim
 | [], _ :: _, _, _, _, h => h.elim
 | _ :: _, [], _, _, _, h => h.elim
 | _ :: _, _ :: _, [], _, _, h => h.elim
 | _ :: _, _ :: _, _ :: _, [], _, h => h.elim
section
variable {P : Program} {C : Ctx} {w : World} {O B : Nat → Prop} {M : MapB} {H : Heap}
theorem BlkR.map_inv {cb base : Nat} {ks us : List AV} {bs : List Nat} {ck : Nat} (h : BlkR C w O B M cb base (.map ks us bs ck)) : base = 0 ∧ ∃ es : Array MapEntry, w.heap[cb]? = some (.map es ck) ∧ EL (VR C w O B M) ks us bs es.toList := by
 cases h with
 | map _ _ _ _ es h0 hblk hlk hlu hlb hb hk hu =>
  exact ⟨h0, es, hblk, .of (by simpa using hlk) (by simpa using hlu) (by simpa using hlb) (fun j a b => by simpa using hb j (by simpa using a) b) (fun j a b => by simpa using hk j (by simpa using a) b) (fun j a b => by simpa using hu j (by simpa using a) b)⟩
theorem BlkR.mk_map {cb : Nat} {ks us : List AV} {bs : List Nat} {ck : Nat} {es : Array MapEntry} (hblk : w.heap[cb]? = some (.map es ck)) (h : EL (VR C w O B M) ks us bs es.toList) : BlkR C w O B M cb 0 (.map ks us bs ck) := by
 have i := h.to
 exact .map ks us bs ck es rfl hblk (by simpa using i.lk) (by simpa using i.lu) (by simpa using i.lb) (fun j a b => by have := i.b j (by rw [Array.length_toList]; exact a) b; rw [Array.getElem_toList] at this; exact this) (fun j a b => by have := i.k j (by rw [Array.length_toList]; exact a) b; rw [Array.getElem_toList] at this; exact this) (fun j a b => by have := i.u j (by rw [Array.length_toList]; exact a) b; rw [Array.getElem_toList] at this; exact this)
theorem VR.mdat_inv {t : Bool} {ks us : List AV} {bs : List Nat} {ck : Nat} {cv : Value} (h : VR C w O B M (.mdat t ks us bs ck) cv) : ∃ blk, ∃ es : Array MapEntry, cv = .map (some blk) ∧ blk < w.heap.size ∧ ¬ O blk ∧ (t = false → ¬ B blk) ∧ datL t ks = true ∧ datL t us = true ∧
  w.heap[blk]? = some (.map es ck) ∧ EL (VR C w O B M) ks us bs es.toList := by
 cases h with
 | mdat _ _ _ _ _ blk es hlt hO hB hck hcu hblk hlk hlu hlb hb hk hu =>
  exact ⟨blk, es, rfl, hlt, hO, hB, hck, hcu, hblk, .of (by simpa using hlk) (by simpa using hlu) (by simpa using hlb) (fun j a b => by simpa using hb j (by simpa using a) b) (fun j a b => by simpa using hk j (by simpa using a) b) (fun j a b => by simpa using hu j (by simpa using a) b)⟩
theorem VR.mk_mdat {t : Bool} {ks us : List AV} {bs : List Nat} {ck : Nat} {blk : Nat} {es : Array MapEntry} (hlt : blk < w.heap.size) (hO : ¬ O blk) (hB : t = false → ¬ B blk) (hck : datL t ks = true) (hcu : datL t us = true) (hblk : w.heap[blk]? = some (.map es ck))
  (h : EL (VR C w O B M) ks us bs es.toList) : VR C w O B M (.mdat t ks us bs ck) (.map (some blk)) := by
 have i := h.to
 exact .mdat t ks us bs ck blk es hlt hO hB hck hcu hblk (by simpa using i.lk) (by simpa using i.lu) (by simpa using i.lb) (fun j a b => by have := i.b j (by rw [Array.length_toList]; exact a) b; rw [Array.getElem_toList] at this; exact this) (fun j a b => by have := i.k j (by rw [Array.length_toList]; exact a) b; rw [Array.getElem_toList] at this; exact this) (fun j a b => by have := i.u j (by rw [Array.length_toList]; exact a) b; rw [Array.getElem_toList] at this; exact this)
theorem mapOf_sound (hs : Sit C w O B M H) {x : AV} {cx : Value} (hx : VR C w O B M x cx) {ks us : List AV} {bs : List Nat} {ck : Nat} (h : mapOf H x = some (ks, us, bs, ck)) :
  ∃ es : Array MapEntry, EL (VR C w O B M) ks us bs es.toList ∧ ((cx = .map none ∧ es = #[]) ∨ ∃ r, cx = .map (some r) ∧ w.heap[r]? = some (.map es ck)) := by
 cases hx <;> simp only [mapOf] at h <;> try (cases h; done)
 ·simp only [Option.some.injEq, Prod.mk.injEq] at h
  obtain ⟨rfl, rfl, rfl, rfl⟩ := h
  exact ⟨#[], trivial, .inl ⟨rfl, rfl⟩⟩
 ·rename_i b cb hM
  obtain ⟨cb', base, hM', _, hr⟩ := hs.own b _ (hmap_some h)
  rw [hM] at hM'
  obtain ⟨rfl, rfl⟩ := Prod.mk.inj (Option.some.inj hM')
  obtain ⟨_, es, h1, h2⟩ := hr.map_inv
  exact ⟨es, h2, .inr ⟨cb, rfl, h1⟩⟩
 ·rename_i t ks' us' bs' ck' blk es hlt hO hB hck hcu hblk hlk hlu hlb hb hk hu
  obtain ⟨rfl, rfl, rfl, rfl⟩ : ks' = ks ∧ us' = us ∧ bs' = bs ∧ ck' = ck := by simpa using h
  obtain ⟨blk', es', e, _, _, _, _, _, h1, h2⟩ := (VR.mdat (C := C) (w := w) (O := O) (B := B) (M := M) t ks' us' bs' ck' blk es hlt hO hB hck hcu hblk hlk hlu hlb hb hk hu).mdat_inv
  cases e
  exact ⟨es', h2, .inr ⟨blk, rfl, h1⟩⟩
theorem run_forIn_unit {α : Type} {F : α → PUnit → Sem (ForInStep PUnit)} : ∀ {l : List α}, (∀ f ∈ l, (F f ⟨⟩).run P w = .ok (.yield ⟨⟩) w) → (forIn l PUnit.unit F).run P w = .ok ⟨⟩ w
 | [], _ => by simp
 | f :: r, h => by
  have ih := run_forIn_unit (l := r) fun g hg => h g (by simp [hg])
  simp [h f (by simp), ih]
def plainKind (d : TypeDesc) : Bool := match d with
 | .int _ | .string => true
 | _ => false
theorem checkKey_plain {b : Bool} {n : Nat} {t : TypeId} {d : TypeDesc} (hd : P.underlying t = some d) (h : plainKind d = true) (v : Value) : (Instr.checkKey b (n + 1) t v).run P w = .ok () w := by
 cases d <;> first | (cases h; done) | simp [Instr.checkKey, run_underlying hd]
theorem checkKey_struct {b : Bool} {m : Nat} {kt : TypeId} {fs : Array Field} (hu : P.underlying kt = some (.struct fs)) {cells : Array Value}
  (h : ∀ f ∈ fs.toList, ∃ v, (part f.type cells f.offset).run P w = .ok v w ∧ (Instr.checkKey b m f.type v).run P w = .ok () w) : (Instr.checkKey b (m + 1) kt (.agg cells)).run P w = .ok () w := by
 rw [Instr.checkKey]
 simp only [Sem.run_bind, run_underlying hu, Result.andThen_ok]
 rw [← Array.forIn_toList]
 rw [run_forIn_unit fun f hf => ?_]
 ·rfl
 ·obtain ⟨v, h1, h2⟩ := h f hf
  by_cases hn : f.name = "_"
  ·simp [hn]
  ·simp [hn, h1, h2]
theorem checkKey_sound (hT : TyOk P C) {kt : TypeId} {k : AV} {ck : Value} (hk : VR C w O B M k ck) (h : keyFine C kt k = true) (b : Bool) : (Instr.checkKey b 10000 kt ck).run P w = .ok () w := by
 unfold keyFine at h
 split at h
 ·rename_i hd; exact checkKey_plain (n := 9999) (hT.under hd) rfl ck
 ·rename_i hd; exact checkKey_plain (n := 9999) (hT.under hd) rfl ck
 ·rename_i fs hd
  split at h
  ·rename_i cs
   obtain ⟨vs, rfl, hcr⟩ := hk.agg_cells
   refine checkKey_struct (m := 9999) (hT.under hd) fun f hf => ?_
   have := List.all_eq_true.1 h f hf
   simp only [Bool.and_eq_true, Nat.blt_eq] at this
   obtain ⟨h1, h2⟩ := this
   split at h2
   ·rename_i i hi
    obtain ⟨h3, h4⟩ := hT.ty _ i hi
    have hlv : f.offset < vs.length := by rw [hcr.len]; exact h1
    have hp : plainKind i.desc = true := by unfold plainKind; exact h2
    have ha : i.agg = false := by
     unfold TI.agg
     revert hp
     cases i.desc <;> intro hp <;> first | rfl | cases hp
    refine ⟨vs[f.offset], ?_, checkKey_plain (n := 9998) h3 hp _⟩
    simp [part, run_isAgg h3, ha, hlv]
   ·cases h2
  ·cases h
 ·cases h
def hitOf (es : List MapEntry) (i : Nat) : Option Nat → Option (Nat × Value)
 | none => none
 | some j => (es[j - i]?).map fun e => (j, e.val)
theorem mfind_lt {kt : TypeId} {k : AV} : ∀ {ks : List AV} {i j : Nat}, mfind C kt k ks i = some (some j) → i ≤ j ∧ j - i < ks.length
 | [], i, j, h => by simp [mfind] at h
 | e :: r, i, j, h => by
  simp only [mfind, Option.bind_eq_some_iff] at h
  obtain ⟨b, _, h⟩ := h
  cases b with
  | true => simp at h; subst h; simp
  | false =>
   simp only [cond_false] at h
   obtain ⟨h1, h2⟩ := mfind_lt h
   simp only [List.length_cons]
   omega
theorem findNow_sound (hT : TyOk P C) {kt : TypeId} {d : TypeDesc} (hd : C.desc kt = some d) (hp : plainKind d = true) {k : AV} {ck : Value} (hk : VR C w O B M k ck) : ∀ {ks us : List AV} {bs : List Nat} {es : List MapEntry} {i : Nat} {r : Option Nat}, EL (VR C w O B M) ks us bs es →
  mfind C kt k ks i = some r → Instr.findNow d ck es i = some (hitOf es i r)
 | [], [], [], [], i, r, _, h => by simp [mfind] at h; subst h; rfl
 | e :: ks, _ :: us, _ :: bs, me :: es, i, r, hl, h => by
  simp only [mfind, Option.bind_eq_some_iff] at h
  obtain ⟨b, hb, h⟩ := h
  have hsame : Instr.sameNow d ck me.key = some b := by
   obtain ⟨ti, hti, hde⟩ : ∃ ti, C.ti kt = some ti ∧ ti.desc = d := by
    unfold Ctx.desc at hd
    obtain ⟨ti, h1, h2⟩ := Option.map_eq_some_iff.1 hd
    exact ⟨ti, h1, h2⟩
   have he := hl.1
   simp only [eqOp, Option.bind_eq_some_iff] at hb
   obtain ⟨ti', hti', hb⟩ := hb
   rw [hti] at hti'
   obtain rfl := Option.some.inj hti'
   rw [hde] at hb
   cases d <;> first | (cases hp; done) | skip
   ·rename_i q
    generalize me.key = ky at he
    split at hb <;> first
     | (cases hb; done)
     | skip
    all_goals rename_i heq; cases heq
    cases hk; cases he
    split at hb
    ·rename_i hkk
     subst hkk
     simp only [Option.some.injEq] at hb
     subst hb
     simp [Instr.sameNow]
    ·cases hb
   ·generalize me.key = ky at he
    split at hb <;> first
     | (cases hb; done)
     | skip
    all_goals rename_i heq; cases heq
    obtain ⟨b1, rfl, h3⟩ := hk.str_inv
    obtain ⟨b2, rfl, h4⟩ := he.str_inv
    subst h3; subst h4
    simp only [Option.some.injEq] at hb
    subst hb
    simp [Instr.sameNow, beq_bytes]
  cases b with
  | true =>
   simp at h; subst h
   simp [Instr.findNow, hsame, hitOf]
  | false =>
   simp only [cond_false] at h
   have ih := findNow_sound hT hd hp hk hl.2.2.2 h
   simp only [Instr.findNow, hsame, ih]
   cases r with
   | none => rfl
   | some j =>
    obtain ⟨h1, _⟩ := mfind_lt h
    have e : j - i = (j - (i + 1)) + 1 := by omega
    simp only [hitOf, e, List.getElem?_cons_succ]
 | [], [], [], _ :: _, _, _, h, _ => h.elim
 | [], [], _ :: _, _, _, _, h, _ => h.elim
 | [], _ :: _, _, _, _, _, h, _ => h.elim
 | _ :: _, [], _, _, _, _, h, _ => h.elim
 | _ :: _, _ :: _, [], _, _, _, h, _ => h.elim
 | _ :: _, _ :: _, _ :: _, [], _, _, h, _ => h.elim
theorem findAsking_sound (hT : TyOk P C) {kt : TypeId} {k : AV} {ck : Value} (hk : VR C w O B M k ck) : ∀ {ks us : List AV} {bs : List Nat} {es : List MapEntry} {i : Nat} {r : Option Nat}, EL (VR C w O B M) ks us bs es →
  mfind C kt k ks i = some r → (Instr.findAsking kt ck es i).run P w = .ok (hitOf es i r) w
 | [], [], [], [], i, r, _, h => by simp [mfind] at h; subst h; rfl
 | e :: ks, _ :: us, _ :: bs, me :: es, i, r, hl, h => by
  simp only [mfind, Option.bind_eq_some_iff] at h
  obtain ⟨b, hb, h⟩ := h
  have heq : (Op.equal kt ck me.key).run P w = .ok b w := eqOp_sound hT _ hk hl.1 hb _ (by simp [Op.maxDepth]) w
  cases b with
  | true =>
   simp at h; subst h
   simp [Instr.findAsking, heq, hitOf]
  | false =>
   simp only [cond_false] at h
   have ih := findAsking_sound hT hk hl.2.2.2 h
   simp only [Instr.findAsking, Sem.run_bind, heq, Result.andThen_ok, Bool.false_eq_true, if_false, ih]
   cases r with
   | none => rfl
   | some j =>
    obtain ⟨h1, _⟩ := mfind_lt h
    have e : j - i = (j - (i + 1)) + 1 := by omega
    simp only [hitOf, e, List.getElem?_cons_succ]
 | [], [], [], _ :: _, _, _, h, _ => h.elim
 | [], [], _ :: _, _, _, _, h, _ => h.elim
 | [], _ :: _, _, _, _, _, h, _ => h.elim
 | _ :: _, [], _, _, _, _, h, _ => h.elim
 | _ :: _, _ :: _, [], _, _, _, h, _ => h.elim
 | _ :: _, _ :: _, _ :: _, [], _, _, h, _ => h.elim
theorem findKey_sound (hT : TyOk P C) {kt : TypeId} {k : AV} {ck : Value} (hk : VR C w O B M k ck) (hf : keyFine C kt k = true) {ks us : List AV} {bs : List Nat} {es : List MapEntry} {r : Option Nat} (hl : EL (VR C w O B M) ks us bs es)
  (h : mfind C kt k ks 0 = some r) : (Instr.findKey kt ck es).run P w = .ok (hitOf es 0 r) w := by
 unfold keyFine at hf
 split at hf
 ·rename_i q hd
  have := findNow_sound hT hd rfl hk hl h
  simp [Instr.findKey, run_underlying (hT.under hd), this]
 ·rename_i hd
  have := findNow_sound hT hd rfl hk hl h
  simp [Instr.findKey, run_underlying (hT.under hd), this]
 ·rename_i fs hd
  split at hf
  ·rename_i cs
   have ha := findAsking_sound hT hk hl h
   obtain ⟨vs, rfl, _⟩ := hk.agg_cells
   cases es with
   | nil =>
    have hi := hl.to
    have : ks = [] := List.length_eq_zero_iff.1 (by rw [hi.lk]; rfl)
    subst this
    simp [mfind] at h; subst h
    simp [Instr.findKey, run_underlying (hT.under hd), Instr.findNow, hitOf]
   | cons e es =>
    have hn : Instr.findNow (.struct fs) (.agg vs.toArray) (e :: es) 0 = none := by simp [Instr.findNow, Instr.sameNow]
    simp [Instr.findKey, run_underlying (hT.under hd), hn, ha]
  ·cases hf
 ·cases hf
theorem mLookup_sound (hT : TyOk P C) (hs : Sit C w O B M H) {t : TypeId} {x k v : AV} {cx ck : Value} {ok : Bool} (hx : VR C w O B M x cx) (hk : VR C w O B M k ck) (h : mLookup C t x k ok H = some v) :
  ∃ cv, (Instr.lookup t cx ck ok).run P w = .ok cv w ∧ VR C w O B M v cv := by
 unfold mLookup at h
 simp only [Option.bind_eq_some_iff] at h
 obtain ⟨d, hd, h⟩ := h
 have hu := hT.under hd
 split at h
 ·rename_i kt et
  simp only [Option.bind_eq_some_iff, Option.some.injEq] at h
  obtain ⟨_, hf, ⟨ks, us, bs, ckk⟩, hm, r, hr, u, hv, rfl⟩ := h
  have hf := chk_some hf
  obtain ⟨es, hl, hcx⟩ := mapOf_sound hs hx hm
  have hfind := findKey_sound (P := P) hT hk hf hl hr
  have hck := fun b => checkKey_sound (P := P) (w := w) hT hk hf b
  have hi := hl.to
  have main : ∃ cu, VR C w O B M u cu ∧ ((hitOf es.toList 0 r = none ∧ r = none ∧ (zeroValue et).run P w = .ok cu w) ∨ ∃ j, hitOf es.toList 0 r = some (j, cu) ∧ r = some j) := by
   cases r with
   | none =>
    simp only [Option.bind_eq_some_iff] at hv
    obtain ⟨ei, hei, hz⟩ := hv
    obtain ⟨zv, hz1, hz2, hz3, hz4, hz5⟩ := zero_some hz
    exact ⟨zv, (ofVal_sound hz2).1, .inl ⟨rfl, rfl, run_zeroValue (P := P) (w := w) (hT.ty et ei hei).2 hz1⟩⟩
   | some j =>
    simp only at hv
    obtain ⟨hj1, hj2⟩ := getL_some hv
    have hj : j < es.toList.length := by rw [← hi.lu]; exact hj1
    refine ⟨es.toList[j].val, ?_, .inr ⟨j, ?_, rfl⟩⟩
    ·have := hi.u j hj hj1
     rw [hj2] at this
     exact this
    ·simp only [hitOf, Nat.sub_zero, List.getElem?_eq_getElem hj, Option.map_some]
  obtain ⟨cu, hvr, main⟩ := main
  have run2 : (Instr.lookup t cx ck ok).run P w = .ok (if ok then .tuple #[cu, .bool r.isSome] else cu) w := by
   rcases hcx with ⟨rfl, hes⟩ | ⟨rb, rfl, hblk⟩
   ·simp only [Instr.lookup, Sem.run_bind, run_underlying hu, Result.andThen_ok, Sem.run_pure]
    have hel : es.toList = [] := by rw [hes]
    rw [hel] at hfind main
    simp only [hck, hfind, Result.andThen_ok]
    rcases main with ⟨h1, rfl, h3⟩ | ⟨j, h1, rfl⟩ <;> rw [h1]
    ·simp [h3]
    ·simp
   ·simp only [Instr.lookup, Sem.run_bind, run_underlying hu, Result.andThen_ok, Sem.run_pure, run_getMap hblk, hck, hfind]
    rcases main with ⟨h1, rfl, h3⟩ | ⟨j, h1, rfl⟩ <;> rw [h1]
    ·simp [h3]
    ·simp
  refine ⟨_, run2, ?_⟩
  cases ok with
  | false => exact hvr
  | true =>
   refine .tup [u, .bool r.isSome] [cu, .bool r.isSome] rfl fun j h1 h2 => ?_
   match j, h1, h2 with
   | 0, _, _ => exact hvr
   | 1, _, _ => exact .bool _
 ·cases h
end
end Go.Ev
namespace Go.Ev
open Go
section
variable {P : Program} {C : Ctx} {w : World} {O B : Nat → Prop} {M : MapB} {H : Heap}
theorem setIf_at (w : World) (g k : Nat) (o : Obj) (h : k ≠ g) : ({ w with heap := w.heap.setIfInBounds g o } : World).heap[k]? = w.heap[k]? := by
 simp only [Array.getElem?_setIfInBounds]
 rw [if_neg (fun e => h e.symm)]
theorem setIf_same {w : World} {g : Nat} (o : Obj) (h : g < w.heap.size) : ({ w with heap := w.heap.setIfInBounds g o } : World).heap[g]? = some o := by
 simp [h]
theorem Ext.setMap {g ck : Nat} {es : Array MapEntry} (hO : O g) (hg : w.heap[g]? = some (.map es ck)) (o : Obj) : Ext w O M { w with heap := w.heap.setIfInBounds g o } O M where
 os := rfl
 tape := rfl
 output := rfl
 size := by simp
 keep := fun b hb hn => setIf_at w g b o (fun e => hn (e ▸ hO))
 shp := fun b c e fz hc => by
  have hb : b ≠ g := fun e => by subst e; rw [hg] at hc; cases hc
  exact ⟨c, (setIf_at w g b o hb).trans hc, rfl⟩
 own := fun b hb => .inl hb
 sub := fun b x hx => hx
theorem step_map {st : St} (hs : Sit C w O B M st.heap) {b : Nat} {blk : Blk} (hb : hget st.heap b = some blk) {cb base : Nat} (hM : M b = some (cb, base)) {es es' : Array MapEntry} {ck ck' : Nat} (hblk : w.heap[cb]? = some (.map es ck))
  {ks us : List AV} {bs : List Nat} (hb0 : base = 0) (hl : EL (VR C w O B M) ks us bs es'.toList) :
  Step C B true w O M st { w with heap := w.heap.setIfInBounds cb (.map es' ck') } O M (st.put b (.map ks us bs ck')) := by
 obtain ⟨cb', base', hM', hO, _⟩ := hs.own b blk hb
 rw [hM] at hM'
 obtain ⟨rfl, rfl⟩ := Prod.mk.inj (Option.some.inj hM')
 subst hb0
 have hx : Ext w O M { w with heap := w.heap.setIfInBounds cb (.map es' ck') } O M := Ext.setMap hO hblk _
 exact Step.put hs hb hM hx (fun k hk => setIf_at w cb k _ hk) (.mk_map (setIf_same _ (Array.getElem?_eq_some_iff.1 hblk).1) (hl.mono fun a b h => h.mono hx))
theorem keyBit_eq {a b : AV} {ca cb : Value} (ha : VR C w O B M a ca) (hb : VR C w O B M b cb) (h : keyBit a b = true) : ca = cb ∧ ((∃ k n, ca = .int k n) ∨ ∃ s, ca = .string s) := by
 unfold keyBit at h
 split at h
 ·rename_i k n l m
  cases ha; cases hb
  simp only [Bool.and_eq_true, beq_iff_eq] at h
  obtain ⟨h1, rfl⟩ := h
  by_cases e : k = l
  ·subst e; exact ⟨rfl, .inl ⟨_, _, rfl⟩⟩
  ·rw [if_neg e] at h1; cases h1
 ·obtain ⟨b1, rfl, h3⟩ := ha.str_inv
  obtain ⟨b2, rfl, h4⟩ := hb.str_inv
  have h := eq_of_beq h
  have : b1 = b2 := by
   cases b1; cases b2
   congr 1
   apply Array.ext'
   rw [h3, h4, h]
  subst this
  exact ⟨rfl, .inr ⟨_, rfl⟩⟩
 ·cases h
theorem keyBitL_eq : ∀ {xs ys : List AV} {vs us : List Value}, LR C w O B M xs vs → LR C w O B M ys us → keyBitL xs ys = true → vs = us ∧ ∀ v ∈ vs, (∃ k n, v = .int k n) ∨ ∃ s, v = .string s
 | [], [], vs, us, h1, h2, _ => by
  have e1 : vs = [] := List.length_eq_zero_iff.1 (by rw [h1.len]; rfl)
  have e2 : us = [] := List.length_eq_zero_iff.1 (by rw [h2.len]; rfl)
  subst e1; subst e2
  exact ⟨rfl, fun v h => by cases h⟩
 | a :: r, b :: s, vs, us, h1, h2, h => by
  simp only [keyBitL, Bool.and_eq_true] at h
  cases vs with
  | nil => have := h1.len; simp at this
  | cons v vs => cases us with
   | nil => have := h2.len; simp at this
   | cons u us =>
    have hv := h1.rel 0 (by simp) (by simp)
    have hu := h2.rel 0 (by simp) (by simp)
    obtain ⟨e, k⟩ := keyBit_eq hv hu h.1
    simp only [List.getElem_cons_zero] at e k
    obtain ⟨e2, k2⟩ := keyBitL_eq (xs := r) (ys := s) (vs := vs) (us := us) ⟨by have := h1.len; simpa using this, fun j a b => by have := h1.rel (j + 1) (by simpa using a) (by simpa using b); simpa using this⟩ ⟨by have := h2.len; simpa using this, fun j a b => by have := h2.rel (j + 1) (by simpa using a) (by simpa using b); simpa using this⟩ h.2
    subst e; subst e2
    refine ⟨rfl, fun x hx => ?_⟩
    rcases List.mem_cons.1 hx with rfl | hx
    ·exact k
    ·exact k2 x hx
 | [], _ :: _, _, _, _, _, h => by simp [keyBitL] at h
 | _ :: _, [], _, _, _, _, h => by simp [keyBitL] at h
theorem sameBits_plain {n : Nat} {v : Value} (h : (∃ k n, v = .int k n) ∨ ∃ s, v = .string s) : Instr.sameBits n v v = true := by
 rcases h with ⟨k, m, rfl⟩ | ⟨s, rfl⟩ <;> cases n <;> simp [Instr.sameBits, beq_bytes]
theorem zip_self {n : Nat} : ∀ {vs : List Value}, (∀ v ∈ vs, (∃ k n, v = .int k n) ∨ ∃ s, v = .string s) → ((vs.zip vs).all fun (x, y) => Instr.sameBits n x y) = true
 | [], _ => rfl
 | v :: r, h => by
  simp only [List.zip_cons_cons, List.all_cons, Bool.and_eq_true]
  exact ⟨sameBits_plain (h v (by simp)), zip_self fun u hu => h u (by simp [hu])⟩
theorem keyBits_stays {a b : AV} {ca cb : Value} (ha : VR C w O B M a ca) (hb : VR C w O B M b cb) (h : keyBits a b = true) : (Instr.keyThatStays ca cb).run P w = .ok cb w := by
 have : Instr.sameBits (9999 + 1) ca cb = true := by
  unfold keyBits at h
  split at h
  ·obtain ⟨vs, rfl, h1⟩ := ha.agg_cells
   obtain ⟨us, rfl, h2⟩ := hb.agg_cells
   obtain ⟨rfl, k⟩ := keyBitL_eq ⟨h1.len, h1.rel⟩ ⟨h2.len, h2.rel⟩ h
   have := zip_self (n := 9999) k
   simp only [Instr.sameBits, beq_self_eq_true, Bool.true_and]
   exact this
  ·obtain ⟨rfl, k⟩ := keyBit_eq ha hb h
   exact sameBits_plain k
 unfold Instr.keyThatStays
 rw [show Instr.sameBits 10000 ca cb = true from this]
 rfl
theorem mUpdate_sound (hT : TyOk P C) {st st' : St} (hs : Sit C w O B M st.heap) {t : TypeId} {x k v : AV} {cx ck cv : Value} (hx : VR C w O B M x cx) (hk : VR C w O B M k ck) (hv : VR C w O B M v cv) (h : mUpdate C t x k v st = some st') :
  ∃ w', (Instr.mapUpdate t cx ck cv).run P w = .ok () w' ∧ Step C B true w O M st w' O M st' := by
 unfold mUpdate at h
 simp only [Option.bind_eq_some_iff] at h
 obtain ⟨d, hd, h⟩ := h
 have hu := hT.under hd
 split at h
 ·rename_i kt et b
  simp only [Option.bind_eq_some_iff] at h
  obtain ⟨_, hf, ⟨ks, us, bs, clk⟩, hm, r, hr, h⟩ := h
  have hf := chk_some hf
  simp only [Bool.and_eq_true] at hf
  cases hx with
  | mref _ cb hM =>
   have hb := hmap_some hm
   obtain ⟨cb', base, hM', _, hrr⟩ := hs.own b _ hb
   rw [hM] at hM'
   obtain ⟨rfl, rfl⟩ := Prod.mk.inj (Option.some.inj hM')
   obtain ⟨_, es, hblk, hl⟩ := hrr.map_inv
   have hfind := findKey_sound (P := P) hT hk hf.1 hl hr
   have hck := checkKey_sound (P := P) (w := w) hT hk hf.1 false
   have hi := hl.to
   cases r with
   | none =>
    simp only [Option.some.injEq] at h
    subst h
    refine ⟨_, ?_, step_map hs hb hM hblk rfl (es' := es.push { key := ck, val := cv, born := clk }) (ck' := clk + 1) ?_⟩
    ·simp [Instr.mapUpdate, run_underlying hu, run_getMap hblk, hck, hfind, hitOf, run_setMap _ hblk]
    ·rw [Array.toList_push]
     exact hl.push (e := { key := ck, val := cv, born := clk }) hk hv rfl
   | some i =>
    simp only [Option.bind_eq_some_iff, Option.some.injEq] at h
    obtain ⟨e, he, _, hbits, rfl⟩ := h
    obtain ⟨h1, h2⟩ := getL_some he
    have hie : i < es.toList.length := by rw [← hi.lk]; exact h1
    have hie' : i < es.size := by simpa using hie
    have hke := hi.k i hie h1
    rw [h2] at hke
    have hst := keyBits_stays (P := P) hke hk (chk_some hbits)
    refine ⟨_, ?_, step_map hs hb hM hblk rfl (es' := es.modify i fun e => { e with key := ck, val := cv }) (ck' := clk) ?_⟩
    ·rw [Array.getElem_toList] at hst
     simp [Instr.mapUpdate, run_underlying hu, run_getMap hblk, hck, hfind, hitOf, hie', hst, run_setMap _ hblk]
    ·have e1 : (es.modify i fun e => { e with key := ck, val := cv }).toList = es.toList.modify i fun e => { e with key := ck, val := cv } := by simp
     rw [e1]
     exact hl.set hk hv i
 ·cases h
theorem mDelete_sound (hT : TyOk P C) {st st' : St} (hs : Sit C w O B M st.heap) {t ty : TypeId} {ts : Array TypeId} (h0 : ts[0]? = some t) {x k v : AV} {cx ck : Value} (hx : VR C w O B M x cx) (hk : VR C w O B M k ck) (h : mDelete C t x k st = some (v, st')) :
  ∃ cv w', (Builtin.delete_ ts ty #[cx, ck]).run P w = .ok cv w' ∧ VR C w' O B M v cv ∧ Step C B true w O M st w' O M st' := by
 unfold mDelete at h
 simp only [Option.bind_eq_some_iff] at h
 obtain ⟨d, hd, h⟩ := h
 have hu := hT.under hd
 split at h
 ·rename_i kt et b
  simp only [Option.bind_eq_some_iff] at h
  obtain ⟨_, hf, ⟨ks, us, bs, clk⟩, hm, r, hr, h⟩ := h
  have hf := chk_some hf
  cases hx with
  | mref _ cb hM =>
   have hb := hmap_some hm
   obtain ⟨cb', base, hM', _, hrr⟩ := hs.own b _ hb
   rw [hM] at hM'
   obtain ⟨rfl, rfl⟩ := Prod.mk.inj (Option.some.inj hM')
   obtain ⟨_, es, hblk, hl⟩ := hrr.map_inv
   have hfind := findKey_sound (P := P) hT hk hf hl hr
   have hck := fun b => checkKey_sound (P := P) (w := w) hT hk hf b
   have hi := hl.to
   cases r with
   | none =>
    simp only [Option.some.injEq, Prod.mk.injEq] at h
    obtain ⟨rfl, rfl⟩ := h
    refine ⟨.tuple #[], _, ?_, .tup [] [] rfl (fun j h => by cases h), step_map hs hb hM hblk rfl (es' := es) (ck' := clk) hl⟩
    simp [Builtin.delete_, h0, run_underlying hu, run_getMap hblk, hck, hfind, hitOf, run_setMap _ hblk]
   | some i =>
    simp only [Option.some.injEq, Prod.mk.injEq] at h
    obtain ⟨rfl, rfl⟩ := h
    obtain ⟨_, hlt⟩ := mfind_lt hr
    have hie' : i < es.size := by rw [hi.lk] at hlt; simpa using hlt
    refine ⟨.tuple #[], _, ?_, .tup [] [] rfl (fun j h => by cases h), step_map hs hb hM hblk rfl (es' := es.eraseIdxIfInBounds i) (ck' := clk) ?_⟩
    ·simp [Builtin.delete_, h0, run_underlying hu, run_getMap hblk, hck, hfind, hitOf, hie', run_setMap _ hblk]
    ·have e1 : (es.eraseIdxIfInBounds i).toList = es.toList.eraseIdx i := by
      unfold Array.eraseIdxIfInBounds
      rw [dif_pos hie', Array.toList_eraseIdx]
     rw [e1]
     exact hl.erase i
 ·cases h
end
end Go.Ev
namespace Go.Ev
open Go
section
variable {P : Program} {C : Ctx} {w : World} {O B : Nat → Prop} {M : MapB} {H : Heap}
theorem step_newMap {serial : Bool} {st : St} (hs : Sit C w O B M st.heap) (hn : M st.nxt = none) {ks us : List AV} {bs : List Nat} {ck : Nat} {es : Array MapEntry} (hl : EL (VR C w O B M) ks us bs es.toList) :
  VR C (w.alloc (.map es ck)) (fun b => O b ∨ b = w.heap.size) B (upd M st.nxt (w.heap.size, 0)) (.mref st.nxt) (.map (some w.heap.size)) ∧
  Step C B serial w O M st (w.alloc (.map es ck)) (fun b => O b ∨ b = w.heap.size) (upd M st.nxt (w.heap.size, 0)) (st.new (.map ks us bs ck)) := by
 have hnew := heap_alloc_new w (.map es ck)
 have hx : Ext w O M (w.alloc (.map es ck)) (fun b => O b ∨ b = w.heap.size) (upd M st.nxt (w.heap.size, 0)) := Ext.alloc _ hn 0
 exact ⟨.mref _ _ (by simp [upd]), Step.new hs _ hn (.mk_map hnew (hl.mono fun a b h => h.mono hx))⟩
theorem isInt_some {t : TypeId} (h : isInt C t = true) : ∃ k, C.desc t = some (.int k) := by
 unfold isInt at h
 split at h
 ·rename_i k hd; exact ⟨k, hd⟩
 ·cases h
theorem freeze_alloc (w : World) (c : Array Value) (e : TypeId) : (w.alloc (.cells c e)).freeze { block := w.heap.size, off := c.size } 1 = w.alloc (.cells c e (c.size, c.size + 1)) := by
 unfold World.freeze
 rw [if_neg (by decide)]
 unfold World.alloc
 congr 1
 apply Array.ext
 ·simp
 ·intro j h1 h2
  rw [Array.getElem_modify]
  by_cases e : j = w.heap.size
  ·subst e; simp
  ·rw [if_neg (fun h => e h.symm)]
   have hj : j < w.heap.size := by simp at h1; omega
   simp [Array.getElem_push, hj]
theorem run_chooseD {q : Question} (h : q.forced = false) : (choose q).run P w = .ok (q.cut (w.tape w.drawn q)) w.drew := by simp [run_choose, h]; try rfl
theorem run_newObjA (o : Obj) : (newObj o).run P w = .ok w.heap.size (w.alloc o) := rfl
theorem run_stringToBytes (e : TypeId) (s : ByteArray) : ∃ cap rest, (Conv.stringToBytes e s).run P w = .ok (.slice (some ⟨w.heap.size, 0, none⟩) s.size cap) (w.drew.alloc (.cells ((byteCells s) ++ rest).toArray e (((byteCells s) ++ rest).length, ((byteCells s) ++ rest).length + 1))) ∧
  s.size ≤ cap ∧ ((byteCells s) ++ rest).length = cap := by
 have hq : (Question.appendCap s.size 0 e).forced = false := rfl
 have hge : s.size ≤ (Question.appendCap s.size 0 e).cut (w.tape w.drawn (.appendCap s.size 0 e)) := Nat.le_add_right _ _
 generalize hc : (Question.appendCap s.size 0 e).cut (w.tape w.drawn (.appendCap s.size 0 e)) = cap at hge
 refine ⟨cap, List.replicate (cap - s.size) (.int .u8 0), ?_, hge, by simp [byteCells]; show s.data.size + _ = _; have : s.data.size = s.size := rfl; omega⟩
 have e1 : (s.data.map fun b => Value.int .u8 b.toNat) ++ Array.replicate (cap - s.size) (.int .u8 0) = (byteCells s ++ List.replicate (cap - s.size) (Value.int .u8 0)).toArray := by
  apply Array.ext'
  simp [byteCells]
 have hsh : (w.drew.alloc (.cells (byteCells s ++ List.replicate (cap - s.size) (Value.int .u8 0)).toArray e)).shape? w.drew.heap.size = some (e, (byteCells s ++ List.replicate (cap - s.size) (Value.int .u8 0)).length) := by
  unfold World.shape?
  rw [heap_alloc_new]
  simp
 have hfz := freeze_alloc w.drew (byteCells s ++ List.replicate (cap - s.size) (Value.int .u8 0)).toArray e
 simp only [List.size_toArray] at hfz
 have hsz : w.drew.heap.size = w.heap.size := rfl
 rw [hsz] at hsh hfz
 simp only [Conv.stringToBytes, Sem.run_bind, run_chooseD hq, Result.andThen_ok, hc, e1, newRow, run_newObjA, Sem.run_pure, markStringish, run_shape, hsz, hsh]
 show Result.andThen (Result.ok () ((w.drew.alloc (.cells (byteCells s ++ List.replicate (cap - s.size) (Value.int .u8 0)).toArray e)).freeze { block := w.heap.size, off := (byteCells s ++ List.replicate (cap - s.size) (Value.int .u8 0)).length } 1)) _ = _
 rw [hfz]
 rfl
theorem mBytes_sound (hT : TyOk P C) {serial : Bool} {st st' : St} (hs : Sit C w O B M st.heap) (hn : M st.nxt = none) {src dst e : TypeId} {s : List UInt8} {v : AV} {cx : Value} (hd : C.desc dst = some (.slice e)) (hx : VR C w O B M (.str s) cx) (h : mBytes C src e s st = some (v, st')) :
  ∃ cv w' O' M', (convert src dst cx).run P w = .ok cv w' ∧ VR C w' O' B M' v cv ∧ Step C B serial w O M st w' O' M' st' := by
 unfold mBytes at h
 simp only [Option.bind_eq_some_iff] at h
 obtain ⟨sd, hsd, i, hi, h⟩ := h
 obtain ⟨h1, h2⟩ := hT.ty e i hi
 split at h
 ·rename_i hde
  simp only [Option.bind_eq_some_iff, Option.some.injEq, Prod.mk.injEq] at h
  obtain ⟨_, hsz, rfl, rfl⟩ := h
  have hsz := (beq_iff _ _).1 (chk_some hsz)
  rw [hde] at h1
  obtain ⟨bs, rfl, rfl⟩ := hx.str_inv
  have hus := hT.under hsd
  have hud := hT.under hd
  obtain ⟨cap, rest, hrun, hge, hfull⟩ := run_stringToBytes (P := P) (w := w) e bs
  have hcr : CR C w O B M (bs.data.toList.map fun c => AV.int .u8 c.toNat) (byteCells bs) := ⟨by simp [byteCells], fun j hj => by simp [AV.isCell], fun j hj h' => by simp [byteCells]; exact .int _ _⟩
  have hx : Ext w.drew O M (w.drew.alloc (.cells ((byteCells bs) ++ rest).toArray e (((byteCells bs) ++ rest).length, ((byteCells bs) ++ rest).length + 1))) (fun b => O b ∨ b = w.drew.heap.size) (upd M st.nxt (w.drew.heap.size, 0)) := Ext.alloc _ hn 0
  have hnew := heap_alloc_new w.drew (.cells ((byteCells bs) ++ rest).toArray e (((byteCells bs) ++ rest).length, ((byteCells bs) ++ rest).length + 1))
  have hd8 : C.desc e = some (.int .u8) := by unfold Ctx.desc; unfold Ctx.ti at hi; rw [hi]; simp [hde]
  have hlb : (byteCells bs).length = bs.data.toList.length := by simp [byteCells]
  have hst : Step C B serial w.drew O M st _ _ _ (st.new (.cells e (bs.data.toList.map fun c => AV.int .u8 c.toNat))) := Step.new hs.drew _ hn (.ofCRf hnew (.inr ⟨by simp, hd8⟩) (by simp [byteCells]) (by
   have e1 : (((byteCells bs ++ rest).toArray.toList.drop 0).take (bs.data.toList.map fun c => AV.int .u8 c.toNat).length) = byteCells bs := by simp [byteCells]
   rw [e1]
   exact hcr.mono (Ext.toDrew.trans hx)))
  refine ⟨.slice (some ⟨w.heap.size, 0, none⟩) bs.size cap, _, _, _, ?_, ?_, hst.undrew⟩
  ·have : (convert src dst (.string bs)).run P w = (Conv.stringToBytes e bs).run P w := by
    cases sd <;> simp [convert, run_underlying hus, run_underlying hud, run_underlying h1]
   rw [this]
   exact hrun
  ·have := VR.sref (C := C) (w := w.drew.alloc (.cells ((byteCells bs) ++ rest).toArray e (((byteCells bs) ++ rest).length, ((byteCells bs) ++ rest).length + 1))) (O := fun b => O b ∨ b = w.drew.heap.size) (B := B) (M := upd M st.nxt (w.drew.heap.size, 0)) st.nxt 0 bs.data.toList.length none w.drew.heap.size 0 cap e i _ _
    (by simp [upd]) hnew hi (by simpa using hge) (by rw [List.size_toArray, hfull, hsz]; omega) (fun k hk => by cases hk) (fun _ => by rw [List.size_toArray, hfull, hsz]; omega)
   simpa using this
 ·cases h
theorem mAppendZ_sound (hT : TyOk P C) {serial : Bool} {st st' : St} (hs : Sit C w O B M st.heap) (hn : M st.nxt = none) {t t2 ty : TypeId} {s x v : AV} {cs cx : Value} (hi2 : isInt C t2 = true) (hsv : VR C w O B M s cs) (hxv : VR C w O B M x cx) (h : mAppendZ C t s x st = some (v, st')) :
  ∃ cv w' O' M', (Builtin.append_ #[t, t2] ty #[cs, cx]).run P w = .ok cv w' ∧ VR C w' O' B M' v cv ∧ Step C B serial w O M st w' O' M' st' := by
 obtain ⟨k2, hd2⟩ := isInt_some hi2
 have hu2 := hT.under hd2
 unfold mAppendZ at h
 simp only [Option.bind_eq_some_iff] at h
 obtain ⟨e, hte, i, hie, z, hz, _, hpos, n, hnx, h⟩ := h
 have hpos : 0 < i.info.size := by simpa using chk_some hpos
 obtain ⟨zv, hz1, hz2, hz3, hz4, hz5⟩ := zero_some hz
 obtain ⟨h1, h2⟩ := hT.ty e i hie
 have hut := hT.elem hte
 obtain ⟨k1, rfl, hn4⟩ := asNat_sound hxv hnx
 have hw : IntKind.i64.wrap (n : Int) = n := wrap_nat (by omega)
 split at h
 ·cases hsv
  cases hb : Nat.beq n 0 with
  | true =>
   rw [hb] at h
   obtain rfl := (beq_iff _ _).1 hb
   simp only [cond_true, Option.some.injEq, Prod.mk.injEq] at h
   obtain ⟨rfl, rfl⟩ := h
   refine ⟨.slice none 0 0, w, O, M, ?_, .snil, .refl hs⟩
   have hw0 : IntKind.i64.wrap 0 = 0 := by decide
   simp [Builtin.append_, hw0, run_underlying hut, run_underlying hu2, sizeOf, typeInfo, h2, asInt, asIntOf]
  | false =>
   rw [hb] at h
   simp only [cond_false, Option.bind_eq_some_iff, Option.some.injEq, Prod.mk.injEq] at h
   obtain ⟨_, hroom, rfl, rfl⟩ := h
   obtain ⟨hr1, hr2⟩ := room_some (chk_some hroom)
   have hn0 : n ≠ 0 := fun e => by rw [e] at hb; cases hb
   have hge := grownCap_ge w n 0 e
   have hrep := (hz5 C w O B M).repl n
   have hrl := rep_length n z.cells
   have hzc : ∀ m, (Builtin.zeroCells zv.cells m).toList = (List.replicate m zv.cells.toList).flatten := fun m => by
    have := rep_mod m zv.cells
    simp only [Builtin.zeroCells]
    rw [this]
   have hst := step_row (serial := serial) (st := st) hs.drew hn hie (hrep.mono Ext.toDrew) (List.replicate (grownCap w n 0 e - n) zv.cells.toList).flatten (len := n) (cap := grownCap w n 0 e) none hge (by
    simp only [List.length_append, List.length_flatten, List.map_replicate, List.sum_replicate_nat, Array.length_toList, hz4]
    rw [← Nat.add_mul]; congr 1; omega) (fun k hk => by cases hk)
   refine ⟨_, _, _, _, ?_, hst.1, hst.2.undrew⟩
   have hb1 : ¬ ((n : Int) < 0) := by omega
   have hb2 : ¬ (281474976710656 < (n : Int) * (i.info.bytes : Int)) := by
    have : (n : Int) * (i.info.bytes : Int) = ((n * i.info.bytes : Nat) : Int) := by simp
    rw [this]; omega
   have h63 : ¬ (9223372036854775807 < (n : Int)) := by omega
   have h48 : ¬ (281474976710656 < Builtin.nextslicecap n 0 * i.info.bytes) := by rw [nextslicecap_zero (by omega)]; omega
   have hns : ¬ (n = 0 ∨ i.info.size = 0) := by omega
   have hbytes : ¬ (9223372036854775807 < (n : Int) ∧ (True ∨ i.info.bytes = 0)) := by omega
   simp only [Builtin.append_, List.getElem?_toArray, List.getElem?_cons_zero, List.getElem?_cons_succ]
   simp [run_underlying hut, run_underlying hu2, sizeOf, typeInfo, h2, asInt, asIntOf, hw, hb1, hb2, hn0, h63, h48, zeroValue, hz1, Question.forced, newRow, Builtin.firstCells]
   have hmul : ¬ (n * i.info.size = 0) := fun e => (Nat.mul_eq_zero.1 e).elim hn0 (by omega)
   rw [if_neg hmul]
   show Result.ok _ _ = Result.ok _ _
   congr 2
   congr 1
   apply Array.ext'
   rw [Array.toList_append, hzc, hzc]
   rfl
 ·cases h
end
end Go.Ev
namespace Go.Ev
open Go
section
variable {P : Program} {C : Ctx} {w : World} {O B : Nat → Prop} {M : MapB} {H : Heap}
theorem leftL_sound {R : AV → Value → Prop} {seen : List Nat} : ∀ {ks us : List AV} {bs : List Nat} {es : List MapEntry}, EL R ks us bs es →
  (leftL seen ks us bs).length = (es.filter fun e => !seen.contains e.born).length ∧ ∀ j (h : j < (leftL seen ks us bs).length) (h' : j < (es.filter fun e => !seen.contains e.born).length),
   R (leftL seen ks us bs)[j].1 (es.filter fun e => !seen.contains e.born)[j].key ∧ R (leftL seen ks us bs)[j].2.1 (es.filter fun e => !seen.contains e.born)[j].val ∧ (es.filter fun e => !seen.contains e.born)[j].born = (leftL seen ks us bs)[j].2.2
 | [], [], [], [], _ => ⟨rfl, fun j h => by cases h⟩
 | k :: ks, u :: us, b :: bs, e :: es, h => by
  obtain ⟨i1, i2⟩ := leftL_sound (seen := seen) h.2.2.2
  have hb : e.born = b := h.2.2.1
  cases hc : seen.contains b with
  | true =>
   have e1 : leftL seen (k :: ks) (u :: us) (b :: bs) = leftL seen ks us bs := by rw [leftL, hc]; rfl
   have e2 : (e :: es).filter (fun e => !seen.contains e.born) = es.filter fun e => !seen.contains e.born := by rw [List.filter_cons]; simp only [hb, hc, Bool.not_true, Bool.false_eq_true, if_false]
   rw [e1, e2]
   exact ⟨i1, i2⟩
  | false =>
   have e1 : leftL seen (k :: ks) (u :: us) (b :: bs) = (k, u, b) :: leftL seen ks us bs := by rw [leftL, hc]; rfl
   have e2 : (e :: es).filter (fun e => !seen.contains e.born) = e :: es.filter fun e => !seen.contains e.born := by rw [List.filter_cons]; simp only [hb, hc, Bool.not_false, if_true]
   rw [e1, e2]
   refine ⟨by simp [i1], fun j h1 h2 => ?_⟩
   cases j with
   | zero => exact ⟨h.1, h.2.1, hb⟩
   | succ j => exact i2 j (by simpa using h1) (by simpa using h2)
 | [], [], [], _ :: _, h => h.elim
 | [], [], _ :: _, _, h => h.elim
 | [], _ :: _, _, _, h => h.elim
 | _ :: _, [], _, _, h => h.elim
 | _ :: _, _ :: _, [], _, h => h.elim
 | _ :: _, _ :: _, _ :: _, [], h => h.elim
theorem findL_sound {R : AV → Value → Prop} {n : Nat} {v : AV} : ∀ {ks us : List AV} {bs : List Nat} {es : List MapEntry}, EL R ks us bs es → findL n ks us bs = some v →
  ∃ k u e, v = .tup [k, u] ∧ es.find? (·.born == n) = some e ∧ R k e.key ∧ R u e.val
 | [], [], [], [], _, hf => by cases hf
 | k :: ks, u :: us, b :: bs, e :: es, h, hf => by
  have hb : e.born = b := h.2.2.1
  unfold findL at hf
  cases hc : Nat.beq b n with
  | true =>
   rw [hc] at hf
   have hbn := (beq_iff b n).1 hc
   refine ⟨k, u, e, (Option.some.inj hf).symm, ?_, h.1, h.2.1⟩
   rw [List.find?_cons, hb, hbn]
   simp
  | false =>
   rw [hc] at hf
   obtain ⟨k', u', e', h1, h2, h3⟩ := findL_sound h.2.2.2 hf
   refine ⟨k', u', e', h1, ?_, h3⟩
   have : (e.born == n) = false := by
    rw [hb]
    cases hq : b == n with
    | false => rfl
    | true => rw [beq_iff_eq.1 hq, (beq_iff n n).2 rfl] at hc; cases hc
   rw [List.find?_cons, this]
   exact h2
 | [], [], [], _ :: _, h, _ => h.elim
 | [], [], _ :: _, _, h, _ => h.elim
 | [], _ :: _, _, _, h, _ => h.elim
 | _ :: _, [], _, _, h, _ => h.elim
 | _ :: _, _ :: _, [], _, h, _ => h.elim
 | _ :: _, _ :: _, _ :: _, [], h, _ => h.elim
theorem EL.born {R : AV → Value → Prop} : ∀ {ks us : List AV} {bs : List Nat} {es : List MapEntry}, EL R ks us bs es → es.map (·.born) = bs
 | [], [], [], [], _ => rfl
 | k :: ks, u :: us, b :: bs, e :: es, h => by
  have : e.born = b := h.2.2.1
  simp [h.2.2.2.born, this]
 | [], [], [], _ :: _, h => h.elim
 | [], [], _ :: _, _, h => h.elim
 | [], _ :: _, _, _, h => h.elim
 | _ :: _, [], _, _, h => h.elim
 | _ :: _, _ :: _, [], _, h => h.elim
 | _ :: _, _ :: _, _ :: _, [], h => h.elim
theorem mEntry_sound (hs : Sit C w O B M H) {x v : AV} {cx : Value} (hx : VR C w O B M x cx) (h : mEntry x H = some v) : ∃ cv, (Instr.entry cx).run P w = .ok cv w ∧ VR C w O B M v cv := by
 unfold mEntry at h
 split at h
 ·rename_i b
  split at h
  ·rename_i m since seen last hg
   simp only [Option.bind_eq_some_iff] at h
   obtain ⟨⟨ks, us, bs, ck⟩, hm, _, hck, n, hn, hf⟩ := h
   have hck := (beq_iff _ _).1 (chk_some hck)
   subst hck
   cases hx with
   | pref _ _ cb base hM =>
    obtain ⟨cb', base', hM', hO, hr⟩ := hs.own b _ hg
    rw [hM] at hM'
    obtain ⟨rfl, rfl⟩ := Prod.mk.inj (Option.some.inj hM')
    cases hr with
    | miter _ cm _ _ _ hcm h0 hb0 hblk =>
     subst hb0
     obtain ⟨c, rfl, hMm⟩ := hcm m rfl
     obtain ⟨cb2, base2, hM2, _, hr2⟩ := hs.own m _ (hmap_some hm)
     rw [hMm] at hM2
     obtain ⟨rfl, rfl⟩ := Prod.mk.inj (Option.some.inj hM2)
     obtain ⟨_, es, hblk2, hel⟩ := hr2.map_inv
     obtain ⟨k, u, e, rfl, hfd, hk, hu⟩ := findL_sound hel hf
     refine ⟨.tuple #[e.key, e.val], ?_, .tup _ [_, _] rfl fun j h1 h2 => ?_⟩
     ·have hback : seen.toArray.back? = some n := by simpa [Array.back?, List.getLast?_eq_getElem?] using hn
      have hfd2 : es.find? (·.born == n) = some e := by rw [← Array.find?_toList]; exact hfd
      simp [Instr.entry, getObj, Sem.run, hblk, hblk2, hback, hfd2, Bind.bind, Sem.bind, Pure.pure]
     ·match j with
      | 0 => exact hk
      | 1 => exact hu
  ·cases h
 ·cases h
theorem mNextM_sound {st st' : St} (hs : Sit C w O B M st.heap) {ty : TypeId} {x v : AV} {cx : Value} (hx : VR C w O B M x cx) (h : mNextM x st = some (v, st')) :
  ∃ cv w', (Instr.next cx false ty).run P w = .ok cv w' ∧ VR C w' O B M v cv ∧ Step C B true w O M st w' O M st' := by
 unfold mNextM at h
 split at h
 ·rename_i b
  split at h
  ·rename_i since seen last hg
   simp only [Option.some.injEq, Prod.mk.injEq] at h
   obtain ⟨rfl, rfl⟩ := h
   cases hx with
   | pref _ _ cb base hM =>
    obtain ⟨cb', base', hM', hO, hr⟩ := hs.own b _ hg
    rw [hM] at hM'
    obtain ⟨rfl, rfl⟩ := Prod.mk.inj (Option.some.inj hM')
    cases hr with
    | miter _ cm _ _ _ hcm h0 hb0 hblk =>
     subst hb0
     obtain rfl := h0 rfl
     refine ⟨.tuple #[.bool false], w, ?_, .tup _ [_] rfl (fun j h1 h2 => ?_), .refl hs⟩
     ·simp [Instr.next, getObj, Sem.run, hblk, Bind.bind, Sem.bind, Pure.pure]
     ·match j with
      | 0 => exact .bool _
  ·rename_i m since seen last hg
   simp only [Option.bind_eq_some_iff] at h
   obtain ⟨⟨ks, us, bs, ck⟩, hm, _, hch, h⟩ := h
   have hch := chk_some hch
   cases hx with
   | pref _ _ cb base hM =>
    obtain ⟨cb', base', hM', hO, hr⟩ := hs.own b _ hg
    rw [hM] at hM'
    obtain ⟨rfl, rfl⟩ := Prod.mk.inj (Option.some.inj hM')
    cases hr with
    | miter _ cm _ _ _ hcm h0 hb0 hblk =>
     subst hb0
     obtain ⟨c, rfl, hMm⟩ := hcm m rfl
     obtain ⟨cb2, base2, hM2, _, hr2⟩ := hs.own m _ (hmap_some hm)
     rw [hMm] at hM2
     obtain ⟨rfl, rfl⟩ := Prod.mk.inj (Option.some.inj hM2)
     obtain ⟨_, es, hblk2, hel⟩ := hr2.map_inv
     have htest : (!seen.toArray.isEmpty && !es.isEmpty && es.all (fun x => decide (x.born ≥ last))) = false := by
      simp only [Bool.or_eq_true] at hch
      rcases hch with (h1 | h1) | h1
      ·have : seen.toArray.isEmpty = true := by simpa using h1
       rw [this]; rfl
      ·have : bs = [] := by simpa using h1
       have h2 := hel.born
       rw [this] at h2
       have : es = #[] := by
        have : es.toList = [] := by simpa using h2
        simpa using this
       subst this
       simp
      ·have h2 : es.all (fun x => decide (x.born ≥ last)) = false := by
        rw [List.any_eq_true] at h1
        obtain ⟨n, hn, hlt⟩ := h1
        have hlt : n < last := by simpa using hlt
        rw [← hel.born] at hn
        obtain ⟨e, he, rfl⟩ := List.mem_map.1 hn
        rw [Bool.eq_false_iff]
        intro hall
        rw [Array.all_eq_true_iff_forall_mem] at hall
        have := hall e (by simpa using he)
        simp at this
        omega
       rw [h2, Bool.and_false]
     obtain ⟨hlen, hrel⟩ := leftL_sound (seen := seen) hel
     have hfil : (es.filter fun e => !seen.toArray.contains e.born).toList = es.toList.filter fun e => !seen.contains e.born := by simp
     split at h
     ·rename_i hl
      simp only [Option.some.injEq, Prod.mk.injEq] at h
      obtain ⟨rfl, rfl⟩ := h
      rw [hl] at hlen
      have hemp : es.filter (fun e => !seen.toArray.contains e.born) = #[] := by
       have : (es.filter fun e => !seen.toArray.contains e.born).toList = [] := by rw [hfil]; exact List.eq_nil_of_length_eq_zero hlen.symm
       simpa using this
      refine ⟨.tuple #[.bool false], w, ?_, .tup _ [_] rfl (fun j h1 h2 => ?_), .refl hs⟩
      ·simp only [Instr.next, getObj, Sem.run_bind, Sem.run, hblk, hblk2, Result.andThen, htest, Bool.false_eq_true, if_false, hemp, Nat.add_zero]
       simp [choose, Sem.run, Question.forced, Pure.pure]
      ·match j with
       | 0 => exact .bool _
     ·rename_i k u n hl
      simp only [Option.bind_eq_some_iff, Option.some.injEq, Prod.mk.injEq] at h
      obtain ⟨_, hns, rfl, rfl⟩ := h
      have hns : n < since := by simpa using chk_some hns
      have hlen1 : (es.toList.filter fun e => !seen.contains e.born).length = 1 := by rw [← hlen, hl]; rfl
      obtain ⟨e, he⟩ := List.length_eq_one_iff.1 hlen1
      have hR := hrel 0 (by rw [hl]; simp) (by rw [hlen1]; simp)
      simp only [hl, he, List.getElem_cons_zero] at hR
      obtain ⟨hk, hu, hbn⟩ := hR
      have hone : es.filter (fun e => !seen.toArray.contains e.born) = #[e] := by
       apply Array.toList_inj.1
       rw [hfil, he]
      have hrun : (Instr.next (.pointer (some ⟨cb, 0 + 0, none⟩)) false ty).run P w = .ok (.tuple #[.bool true, e.key, e.val]) { w with heap := w.heap.setIfInBounds cb (.mapIter (some c) since (seen.toArray.push e.born) ck) } := by
       have e1 : (#[e] : Array MapEntry).filter (fun x => decide (x.born < since)) = #[e] := by simp [hbn, hns]
       have e2 : (#[e] : Array MapEntry).filter (fun x => decide (x.born ≥ since)) = #[] := by
        have : ¬ since ≤ n := by omega
        simp [hbn, this]
       simp only [Instr.next, getObj, Sem.run_bind, Sem.run, hblk, hblk2, Result.andThen, htest, Bool.false_eq_true, if_false, hone, e1, e2, Nat.add_zero]
       simp [choose, setObj, Sem.run, Question.forced, Pure.pure, hblk, Bind.bind, Sem.bind]
      have hx' : Ext w O M { w with heap := w.heap.setIfInBounds cb (.mapIter (some c) since (seen.toArray.push e.born) ck) } O M := by
       refine ⟨rfl, rfl, rfl, by simp, fun k hk hn => ?_, fun k c e fz hk => ⟨c, ?_, rfl⟩, fun _ h => .inl h, fun _ _ h => h⟩
       ·simp only [Array.getElem?_setIfInBounds]
        rw [if_neg (fun e : cb = k => hn (e ▸ hO))]
       ·simp only [Array.getElem?_setIfInBounds]
        rw [if_neg (fun e : cb = k => by subst e; rw [hblk] at hk; cases hk)]
        exact hk
      have hlt2 : cb < w.heap.size := (Array.getElem?_eq_some_iff.1 hblk).1
      refine ⟨_, _, hrun, .tup _ [_, _, _] rfl (fun j h1 h2 => ?_), Step.put hs hg hM hx' (fun k hk => ?_) (.miter (some m) (some c) since _ ck (fun b e => by cases e; exact ⟨c, rfl, hMm⟩) (fun e => by cases e) rfl (by simp [hlt2, hbn]))⟩
      ·match j with
       | 0 => exact .bool _
       | 1 => exact hk.mono hx'
       | 2 => exact hu.mono hx'
      ·simp only [Array.getElem?_setIfInBounds]
       rw [if_neg (fun e => hk e.symm)]
     ·cases h
  ·cases h
 ·cases h
end
end Go.Ev
