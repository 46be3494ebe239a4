/- A PART OF THE PROOF THAT ONE CALL OF A LAW OF LAYER 46 (which of any patches have a line with any word) returns true, whatever the input; the input reads as it did. No condition beyond the given statement. This part: EvMap. -/
import Derived.Test.YtklmbhogclaieaaGreatDoorEvOpsB
namespace Go.Ev
open Go

/-- a map's entries -/
def EL (R : AV → Value → Prop) : List AV → List AV → List Nat → List MapEntry → Prop
  | [], [], [], [] => True
  | k :: ks, u :: us, b :: bs, e :: es => R k e.key ∧ R u e.val ∧ e.born = b ∧ EL R ks us bs es
  | _, _, _, _ => False

theorem EL.of {R : AV → Value → Prop} : ∀ {es : List MapEntry} {ks us : List AV} {bs : List Nat}, ks.length = es.length → us.length = es.length → bs.length = es.length →
    (∀ j (h : j < es.length) (h' : j < bs.length), es[j].born = bs[j]) → (∀ j (h : j < es.length) (h' : j < ks.length), R ks[j] es[j].key) → (∀ j (h : j < es.length) (h' : j < us.length), R us[j] es[j].val) → EL R ks us bs es
  | [], [], [], [], _, _, _, _, _, _ => trivial
  | e :: es, k :: ks, u :: us, b :: bs, h1, h2, h3, h4, h5, h6 => by
    refine ⟨h5 0 (by simp) (by simp), h6 0 (by simp) (by simp), h4 0 (by simp) (by simp), EL.of (by simpa using h1) (by simpa using h2) (by simpa using h3) (fun j a b => ?_) (fun j a b => ?_) (fun j a b => ?_)⟩
    · exact h4 (j + 1) (by simpa using a) (by simpa using b)
    · exact h5 (j + 1) (by simpa using a) (by simpa using b)
    · exact h6 (j + 1) (by simpa using a) (by simpa using b)
  | [], _ :: _, _, _, h, _, _, _, _, _ => by simp at h
  | [], _, _ :: _, _, _, h, _, _, _, _ => by simp at h
  | [], _, _, _ :: _, _, _, h, _, _, _ => by simp at h
  | _ :: _, [], _, _, h, _, _, _, _, _ => by simp at h
  | _ :: _, _, [], _, _, h, _, _, _, _ => by simp at h
  | _ :: _, _, _, [], _, _, h, _, _, _ => by simp at h

theorem EL.mono {R R' : AV → Value → Prop} (hr : ∀ a b, R a b → R' a b) : ∀ {ks us : List AV} {bs : List Nat} {es : List MapEntry}, EL R ks us bs es → EL R' ks us bs es
  | [], [], [], [], _ => trivial
  | _ :: _, _ :: _, _ :: _, _ :: _, h => ⟨hr _ _ h.1, hr _ _ h.2.1, h.2.2.1, h.2.2.2.mono hr⟩
  | [], [], [], _ :: _, h => h.elim
  | [], [], _ :: _, _, h => h.elim
  | [], _ :: _, _, _, h => h.elim
  | _ :: _, [], _, _, h => h.elim
  | _ :: _, _ :: _, [], _, h => h.elim
  | _ :: _, _ :: _, _ :: _, [], h => h.elim

/-- all about them -/
structure EI (R : AV → Value → Prop) (ks us : List AV) (bs : List Nat) (es : List MapEntry) : Prop where
  lk : ks.length = es.length
  lu : us.length = es.length
  lb : bs.length = es.length
  b : ∀ j (h : j < es.length) (h' : j < bs.length), es[j].born = bs[j]
  k : ∀ j (h : j < es.length) (h' : j < ks.length), R ks[j] es[j].key
  u : ∀ j (h : j < es.length) (h' : j < us.length), R us[j] es[j].val

theorem EL.to {R : AV → Value → Prop} : ∀ {ks us : List AV} {bs : List Nat} {es : List MapEntry}, EL R ks us bs es → EI R ks us bs es
  | [], [], [], [], _ => ⟨rfl, rfl, rfl, fun j h => by simp at h, fun j h => by simp at h, fun j h => by simp at h⟩
  | _ :: _, _ :: _, _ :: _, _ :: _, h => by
    have i := h.2.2.2.to
    refine ⟨by simp [i.lk], by simp [i.lu], by simp [i.lb], fun j a b => ?_, fun j a b => ?_, fun j a b => ?_⟩
    · cases j with
      | zero => exact h.2.2.1
      | succ j => exact i.b j (by simpa using a) (by simpa using b)
    · cases j with
      | zero => exact h.1
      | succ j => exact i.k j (by simpa using a) (by simpa using b)
    · cases j with
      | zero => exact h.2.1
      | succ j => exact i.u j (by simpa using a) (by simpa using b)
  | [], [], [], _ :: _, h => h.elim
  | [], [], _ :: _, _, h => h.elim
  | [], _ :: _, _, _, h => h.elim
  | _ :: _, [], _, _, h => h.elim
  | _ :: _, _ :: _, [], _, h => h.elim
  | _ :: _, _ :: _, _ :: _, [], h => h.elim

theorem EL.push {R : AV → Value → Prop} {k u : AV} {b : Nat} {e : MapEntry} (h1 : R k e.key) (h2 : R u e.val) (h3 : e.born = b) : ∀ {ks us : List AV} {bs : List Nat} {es : List MapEntry}, EL R ks us bs es → EL R (ks ++ [k]) (us ++ [u]) (bs ++ [b]) (es ++ [e])
  | [], [], [], [], _ => ⟨h1, h2, h3, trivial⟩
  | _ :: _, _ :: _, _ :: _, _ :: _, h => ⟨h.1, h.2.1, h.2.2.1, h.2.2.2.push h1 h2 h3⟩
  | [], [], [], _ :: _, h => h.elim
  | [], [], _ :: _, _, h => h.elim
  | [], _ :: _, _, _, h => h.elim
  | _ :: _, [], _, _, h => h.elim
  | _ :: _, _ :: _, [], _, h => h.elim
  | _ :: _, _ :: _, _ :: _, [], h => h.elim

theorem EL.set {R : AV → Value → Prop} {k u : AV} {ck cu : Value} (h1 : R k ck) (h2 : R u cu) : ∀ {ks us : List AV} {bs : List Nat} {es : List MapEntry} (i : Nat), EL R ks us bs es → EL R (setL ks i k) (setL us i u) bs (es.modify i fun e => { e with key := ck, val := cu })
  | [], [], [], [], i, _ => by cases i <;> exact trivial
  | _ :: _, _ :: _, _ :: _, _ :: _, 0, h => ⟨h1, h2, h.2.2.1, h.2.2.2⟩
  | _ :: _, _ :: _, _ :: _, _ :: _, i + 1, h => ⟨h.1, h.2.1, h.2.2.1, h.2.2.2.set h1 h2 i⟩
  | [], [], [], _ :: _, _, h => h.elim
  | [], [], _ :: _, _, _, h => h.elim
  | [], _ :: _, _, _, _, h => h.elim
  | _ :: _, [], _, _, _, h => h.elim
  | _ :: _, _ :: _, [], _, _, h => h.elim
  | _ :: _, _ :: _, _ :: _, [], _, h => h.elim

theorem EL.erase {R : AV → Value → Prop} : ∀ {ks us : List AV} {bs : List Nat} {es : List MapEntry} (i : Nat), EL R ks us bs es → EL R (ks.eraseIdx i) (us.eraseIdx i) (bs.eraseIdx i) (es.eraseIdx i)
  | [], [], [], [], _i, _ => trivial
  | _ :: _, _ :: _, _ :: _, _ :: _, 0, h => h.2.2.2
  | _ :: _, _ :: _, _ :: _, _ :: _, i + 1, h => ⟨h.1, h.2.1, h.2.2.1, h.2.2.2.erase i⟩
  | [], [], [], _ :: _, _, h => h.elim
  | [], [], _ :: _, _, _, h => h.elim
  | [], _ :: _, _, _, _, h => h.elim
  | _ :: _, [], _, _, _, h => h.elim
  | _ :: _, _ :: _, [], _, _, h => h.elim
  | _ :: _, _ :: _, _ :: _, [], _, h => h.elim

section
variable {P : Program} {C : Ctx} {w : World} {O B : Nat → Prop} {M : MapB} {H : Heap}

theorem BlkR.map_inv {cb base : Nat} {ks us : List AV} {bs : List Nat} {ck : Nat} (h : BlkR C w O B M cb base (.map ks us bs ck)) : base = 0 ∧ ∃ es : Array MapEntry, w.heap[cb]? = some (.map es ck) ∧ EL (VR C w O B M) ks us bs es.toList := by
  cases h with
  | map _ _ _ _ es h0 hblk hlk hlu hlb hb hk hu =>
    exact ⟨h0, es, hblk, .of (by simpa using hlk) (by simpa using hlu) (by simpa using hlb) (fun j a b => by simpa using hb j (by simpa using a) b) (fun j a b => by simpa using hk j (by simpa using a) b) (fun j a b => by simpa using hu j (by simpa using a) b)⟩

theorem BlkR.mk_map {cb : Nat} {ks us : List AV} {bs : List Nat} {ck : Nat} {es : Array MapEntry} (hblk : w.heap[cb]? = some (.map es ck)) (h : EL (VR C w O B M) ks us bs es.toList) : BlkR C w O B M cb 0 (.map ks us bs ck) := by
  have i := h.to
  exact .map ks us bs ck es rfl hblk (by simpa using i.lk) (by simpa using i.lu) (by simpa using i.lb) (fun j a b => by have := i.b j (by rw [Array.length_toList]; exact a) b; rw [Array.getElem_toList] at this; exact this) (fun j a b => by have := i.k j (by rw [Array.length_toList]; exact a) b; rw [Array.getElem_toList] at this; exact this) (fun j a b => by have := i.u j (by rw [Array.length_toList]; exact a) b; rw [Array.getElem_toList] at this; exact this)

theorem VR.mdat_inv {t : Bool} {ks us : List AV} {bs : List Nat} {ck : Nat} {cv : Value} (h : VR C w O B M (.mdat t ks us bs ck) cv) : ∃ blk, ∃ es : Array MapEntry, cv = .map (some blk) ∧ blk < w.heap.size ∧ ¬ O blk ∧ (t = false → ¬ B blk) ∧ datL t ks = true ∧ datL t us = true ∧
    w.heap[blk]? = some (.map es ck) ∧ EL (VR C w O B M) ks us bs es.toList := by
  cases h with
  | mdat _ _ _ _ _ blk es hlt hO hB hck hcu hblk hlk hlu hlb hb hk hu =>
    exact ⟨blk, es, rfl, hlt, hO, hB, hck, hcu, hblk, .of (by simpa using hlk) (by simpa using hlu) (by simpa using hlb) (fun j a b => by simpa using hb j (by simpa using a) b) (fun j a b => by simpa using hk j (by simpa using a) b) (fun j a b => by simpa using hu j (by simpa using a) b)⟩

theorem VR.mk_mdat {t : Bool} {ks us : List AV} {bs : List Nat} {ck : Nat} {blk : Nat} {es : Array MapEntry} (hlt : blk < w.heap.size) (hO : ¬ O blk) (hB : t = false → ¬ B blk) (hck : datL t ks = true) (hcu : datL t us = true) (hblk : w.heap[blk]? = some (.map es ck))
    (h : EL (VR C w O B M) ks us bs es.toList) : VR C w O B M (.mdat t ks us bs ck) (.map (some blk)) := by
  have i := h.to
  exact .mdat t ks us bs ck blk es hlt hO hB hck hcu hblk (by simpa using i.lk) (by simpa using i.lu) (by simpa using i.lb) (fun j a b => by have := i.b j (by rw [Array.length_toList]; exact a) b; rw [Array.getElem_toList] at this; exact this) (fun j a b => by have := i.k j (by rw [Array.length_toList]; exact a) b; rw [Array.getElem_toList] at this; exact this) (fun j a b => by have := i.u j (by rw [Array.length_toList]; exact a) b; rw [Array.getElem_toList] at this; exact this)

theorem mapOf_sound (hs : Sit C w O B M H) {x : AV} {cx : Value} (hx : VR C w O B M x cx) {ks us : List AV} {bs : List Nat} {ck : Nat} (h : mapOf H x = some (ks, us, bs, ck)) :
    ∃ es : Array MapEntry, EL (VR C w O B M) ks us bs es.toList ∧ ((cx = .map none ∧ es = #[]) ∨ ∃ r, cx = .map (some r) ∧ w.heap[r]? = some (.map es ck)) := by
  cases hx <;> simp only [mapOf] at h <;> try (cases h; done)
  · simp only [Option.some.injEq, Prod.mk.injEq] at h
    obtain ⟨rfl, rfl, rfl, rfl⟩ := h
    exact ⟨#[], trivial, .inl ⟨rfl, rfl⟩⟩
  · rename_i b cb hM
    obtain ⟨cb', base, hM', _, hr⟩ := hs.own b _ (hmap_some h)
    rw [hM] at hM'
    obtain ⟨rfl, rfl⟩ := Prod.mk.inj (Option.some.inj hM')
    obtain ⟨_, es, h1, h2⟩ := hr.map_inv
    exact ⟨es, h2, .inr ⟨cb, rfl, h1⟩⟩
  · rename_i t ks' us' bs' ck' blk es hlt hO hB hck hcu hblk hlk hlu hlb hb hk hu
    obtain ⟨rfl, rfl, rfl, rfl⟩ : ks' = ks ∧ us' = us ∧ bs' = bs ∧ ck' = ck := by simpa using h
    obtain ⟨blk', es', e, _, _, _, _, _, h1, h2⟩ := (VR.mdat (C := C) (w := w) (O := O) (B := B) (M := M) t ks' us' bs' ck' blk es hlt hO hB hck hcu hblk hlk hlu hlb hb hk hu).mdat_inv
    cases e
    exact ⟨es', h2, .inr ⟨blk, rfl, h1⟩⟩

/-! ### Keys -/
theorem run_forIn_unit {α : Type} {F : α → PUnit → Sem (ForInStep PUnit)} : ∀ {l : List α}, (∀ f ∈ l, (F f ⟨⟩).run P w = .ok (.yield ⟨⟩) w) → (forIn l PUnit.unit F).run P w = .ok ⟨⟩ w
  | [], _ => by simp
  | f :: r, h => by
    have ih := run_forIn_unit (l := r) fun g hg => h g (by simp [hg])
    simp [h f (by simp), ih]

def plainKind (d : TypeDesc) : Bool := match d with
  | .int _ | .string => true
  | _ => false

theorem checkKey_plain {b : Bool} {n : Nat} {t : TypeId} {d : TypeDesc} (hd : P.underlying t = some d) (h : plainKind d = true) (v : Value) : (Instr.checkKey b (n + 1) t v).run P w = .ok () w := by
  cases d <;> first | (cases h; done) | simp [Instr.checkKey, run_underlying hd]

theorem checkKey_struct {b : Bool} {m : Nat} {kt : TypeId} {fs : Array Field} (hu : P.underlying kt = some (.struct fs)) {cells : Array Value}
    (h : ∀ f ∈ fs.toList, ∃ v, (part f.type cells f.offset).run P w = .ok v w ∧ (Instr.checkKey b m f.type v).run P w = .ok () w) : (Instr.checkKey b (m + 1) kt (.agg cells)).run P w = .ok () w := by
  rw [Instr.checkKey]
  simp only [Sem.run_bind, run_underlying hu, Result.andThen_ok]
  rw [← Array.forIn_toList]
  rw [run_forIn_unit fun f hf => ?_]
  · rfl
  · obtain ⟨v, h1, h2⟩ := h f hf
    by_cases hn : f.name = "_"
    · simp [hn]
    · simp [hn, h1, h2]

theorem checkKey_sound (hT : TyOk P C) {kt : TypeId} {k : AV} {ck : Value} (hk : VR C w O B M k ck) (h : keyFine C kt k = true) (b : Bool) : (Instr.checkKey b 10000 kt ck).run P w = .ok () w := by
  unfold keyFine at h
  split at h
  · rename_i hd; exact checkKey_plain (n := 9999) (hT.under hd) rfl ck
  · rename_i hd; exact checkKey_plain (n := 9999) (hT.under hd) rfl ck
  · rename_i fs hd
    split at h
    · rename_i cs
      obtain ⟨vs, rfl, hcr⟩ := hk.agg_cells
      refine checkKey_struct (m := 9999) (hT.under hd) fun f hf => ?_
      have := List.all_eq_true.1 h f hf
      simp only [Bool.and_eq_true, Nat.blt_eq] at this
      obtain ⟨h1, h2⟩ := this
      split at h2
      · rename_i i hi
        obtain ⟨h3, h4⟩ := hT.ty _ i hi
        have hlv : f.offset < vs.length := by rw [hcr.len]; exact h1
        have hp : plainKind i.desc = true := by unfold plainKind; exact h2
        have ha : i.agg = false := by
          unfold TI.agg
          revert hp
          cases i.desc <;> intro hp <;> first | rfl | cases hp
        refine ⟨vs[f.offset], ?_, checkKey_plain (n := 9998) h3 hp _⟩
        simp [part, run_isAgg h3, ha, hlv]
      · cases h2
    · cases h
  · cases h

/-! ### Finding -/
def hitOf (es : List MapEntry) (i : Nat) : Option Nat → Option (Nat × Value)
  | none => none
  | some j => (es[j - i]?).map fun e => (j, e.val)

theorem mfind_lt {kt : TypeId} {k : AV} : ∀ {ks : List AV} {i j : Nat}, mfind C kt k ks i = some (some j) → i ≤ j ∧ j - i < ks.length
  | [], i, j, h => by simp [mfind] at h
  | e :: r, i, j, h => by
    simp only [mfind, Option.bind_eq_some_iff] at h
    obtain ⟨b, _, h⟩ := h
    cases b with
    | true => simp at h; subst h; simp
    | false =>
      simp only [cond_false] at h
      obtain ⟨h1, h2⟩ := mfind_lt h
      simp only [List.length_cons]
      omega

theorem findNow_sound (hT : TyOk P C) {kt : TypeId} {d : TypeDesc} (hd : C.desc kt = some d) (hp : plainKind d = true) {k : AV} {ck : Value} (hk : VR C w O B M k ck) : ∀ {ks us : List AV} {bs : List Nat} {es : List MapEntry} {i : Nat} {r : Option Nat}, EL (VR C w O B M) ks us bs es →
    mfind C kt k ks i = some r → Instr.findNow d ck es i = some (hitOf es i r)
  | [], [], [], [], i, r, _, h => by simp [mfind] at h; subst h; rfl
  | e :: ks, _ :: us, _ :: bs, me :: es, i, r, hl, h => by
    simp only [mfind, Option.bind_eq_some_iff] at h
    obtain ⟨b, hb, h⟩ := h
    have hsame : Instr.sameNow d ck me.key = some b := by
      obtain ⟨ti, hti, hde⟩ : ∃ ti, C.ti kt = some ti ∧ ti.desc = d := by
        unfold Ctx.desc at hd
        obtain ⟨ti, h1, h2⟩ := Option.map_eq_some_iff.1 hd
        exact ⟨ti, h1, h2⟩
      have he := hl.1
      simp only [eqOp, Option.bind_eq_some_iff] at hb
      obtain ⟨ti', hti', hb⟩ := hb
      rw [hti] at hti'
      obtain rfl := Option.some.inj hti'
      rw [hde] at hb
      cases d <;> first | (cases hp; done) | skip
      · rename_i q
        generalize me.key = ky at he
        split at hb <;> first
          | (cases hb; done)
          | skip
        all_goals rename_i heq; cases heq
        cases hk; cases he
        split at hb
        · rename_i hkk
          subst hkk
          simp only [Option.some.injEq] at hb
          subst hb
          simp [Instr.sameNow]
        · cases hb
      · generalize me.key = ky at he
        split at hb <;> first
          | (cases hb; done)
          | skip
        all_goals rename_i heq; cases heq
        obtain ⟨b1, rfl, h3⟩ := hk.str_inv
        obtain ⟨b2, rfl, h4⟩ := he.str_inv
        subst h3; subst h4
        simp only [Option.some.injEq] at hb
        subst hb
        simp [Instr.sameNow, beq_bytes]
    cases b with
    | true =>
      simp at h; subst h
      simp [Instr.findNow, hsame, hitOf]
    | false =>
      simp only [cond_false] at h
      have ih := findNow_sound hT hd hp hk hl.2.2.2 h
      simp only [Instr.findNow, hsame, ih]
      cases r with
      | none => rfl
      | some j =>
        obtain ⟨h1, _⟩ := mfind_lt h
        have e : j - i = (j - (i + 1)) + 1 := by omega
        simp only [hitOf, e, List.getElem?_cons_succ]
  | [], [], [], _ :: _, _, _, h, _ => h.elim
  | [], [], _ :: _, _, _, _, h, _ => h.elim
  | [], _ :: _, _, _, _, _, h, _ => h.elim
  | _ :: _, [], _, _, _, _, h, _ => h.elim
  | _ :: _, _ :: _, [], _, _, _, h, _ => h.elim
  | _ :: _, _ :: _, _ :: _, [], _, _, h, _ => h.elim

theorem findAsking_sound (hT : TyOk P C) {kt : TypeId} {k : AV} {ck : Value} (hk : VR C w O B M k ck) : ∀ {ks us : List AV} {bs : List Nat} {es : List MapEntry} {i : Nat} {r : Option Nat}, EL (VR C w O B M) ks us bs es →
    mfind C kt k ks i = some r → (Instr.findAsking kt ck es i).run P w = .ok (hitOf es i r) w
  | [], [], [], [], i, r, _, h => by simp [mfind] at h; subst h; rfl
  | e :: ks, _ :: us, _ :: bs, me :: es, i, r, hl, h => by
    simp only [mfind, Option.bind_eq_some_iff] at h
    obtain ⟨b, hb, h⟩ := h
    have heq : (Op.equal kt ck me.key).run P w = .ok b w := eqOp_sound hT _ hk hl.1 hb _ (by simp [Op.maxDepth]) w
    cases b with
    | true =>
      simp at h; subst h
      simp [Instr.findAsking, heq, hitOf]
    | false =>
      simp only [cond_false] at h
      have ih := findAsking_sound hT hk hl.2.2.2 h
      simp only [Instr.findAsking, Sem.run_bind, heq, Result.andThen_ok, Bool.false_eq_true, if_false, ih]
      cases r with
      | none => rfl
      | some j =>
        obtain ⟨h1, _⟩ := mfind_lt h
        have e : j - i = (j - (i + 1)) + 1 := by omega
        simp only [hitOf, e, List.getElem?_cons_succ]
  | [], [], [], _ :: _, _, _, h, _ => h.elim
  | [], [], _ :: _, _, _, _, h, _ => h.elim
  | [], _ :: _, _, _, _, _, h, _ => h.elim
  | _ :: _, [], _, _, _, _, h, _ => h.elim
  | _ :: _, _ :: _, [], _, _, _, h, _ => h.elim
  | _ :: _, _ :: _, _ :: _, [], _, _, h, _ => h.elim

theorem findKey_sound (hT : TyOk P C) {kt : TypeId} {k : AV} {ck : Value} (hk : VR C w O B M k ck) (hf : keyFine C kt k = true) {ks us : List AV} {bs : List Nat} {es : List MapEntry} {r : Option Nat} (hl : EL (VR C w O B M) ks us bs es)
    (h : mfind C kt k ks 0 = some r) : (Instr.findKey kt ck es).run P w = .ok (hitOf es 0 r) w := by
  unfold keyFine at hf
  split at hf
  · rename_i q hd
    have := findNow_sound hT hd rfl hk hl h
    simp [Instr.findKey, run_underlying (hT.under hd), this]
  · rename_i hd
    have := findNow_sound hT hd rfl hk hl h
    simp [Instr.findKey, run_underlying (hT.under hd), this]
  · rename_i fs hd
    split at hf
    · rename_i cs
      have ha := findAsking_sound hT hk hl h
      obtain ⟨vs, rfl, _⟩ := hk.agg_cells
      cases es with
      | nil =>
        have hi := hl.to
        have : ks = [] := List.length_eq_zero_iff.1 (by rw [hi.lk]; rfl)
        subst this
        simp [mfind] at h; subst h
        simp [Instr.findKey, run_underlying (hT.under hd), Instr.findNow, hitOf]
      | cons e es =>
        have hn : Instr.findNow (.struct fs) (.agg vs.toArray) (e :: es) 0 = none := by simp [Instr.findNow, Instr.sameNow]
        simp [Instr.findKey, run_underlying (hT.under hd), hn, ha]
    · cases hf
  · cases hf

theorem mLookup_sound (hT : TyOk P C) (hs : Sit C w O B M H) {t : TypeId} {x k v : AV} {cx ck : Value} {ok : Bool} (hx : VR C w O B M x cx) (hk : VR C w O B M k ck) (h : mLookup C t x k ok H = some v) :
    ∃ cv, (Instr.lookup t cx ck ok).run P w = .ok cv w ∧ VR C w O B M v cv := by
  unfold mLookup at h
  simp only [Option.bind_eq_some_iff] at h
  obtain ⟨d, hd, h⟩ := h
  have hu := hT.under hd
  split at h
  · rename_i kt et
    simp only [Option.bind_eq_some_iff, Option.some.injEq] at h
    obtain ⟨_, hf, ⟨ks, us, bs, ckk⟩, hm, r, hr, u, hv, rfl⟩ := h
    have hf := chk_some hf
    obtain ⟨es, hl, hcx⟩ := mapOf_sound hs hx hm
    have hfind := findKey_sound (P := P) hT hk hf hl hr
    have hck := fun b => checkKey_sound (P := P) (w := w) hT hk hf b
    have hi := hl.to
    have main : ∃ cu, VR C w O B M u cu ∧ ((hitOf es.toList 0 r = none ∧ r = none ∧ (zeroValue et).run P w = .ok cu w) ∨ ∃ j, hitOf es.toList 0 r = some (j, cu) ∧ r = some j) := by
      cases r with
      | none =>
        simp only [Option.bind_eq_some_iff] at hv
        obtain ⟨ei, hei, hz⟩ := hv
        obtain ⟨zv, hz1, hz2, hz3, hz4, hz5⟩ := zero_some hz
        exact ⟨zv, (ofVal_sound hz2).1, .inl ⟨rfl, rfl, run_zeroValue (P := P) (w := w) (hT.ty et ei hei).2 hz1⟩⟩
      | some j =>
        simp only at hv
        obtain ⟨hj1, hj2⟩ := getL_some hv
        have hj : j < es.toList.length := by rw [← hi.lu]; exact hj1
        refine ⟨es.toList[j].val, ?_, .inr ⟨j, ?_, rfl⟩⟩
        · have := hi.u j hj hj1
          rw [hj2] at this
          exact this
        · simp only [hitOf, Nat.sub_zero, List.getElem?_eq_getElem hj, Option.map_some]
    obtain ⟨cu, hvr, main⟩ := main
    have run2 : (Instr.lookup t cx ck ok).run P w = .ok (if ok then .tuple #[cu, .bool r.isSome] else cu) w := by
      rcases hcx with ⟨rfl, hes⟩ | ⟨rb, rfl, hblk⟩
      · simp only [Instr.lookup, Sem.run_bind, run_underlying hu, Result.andThen_ok, Sem.run_pure]
        have hel : es.toList = [] := by rw [hes]
        rw [hel] at hfind main
        simp only [hck, hfind, Result.andThen_ok]
        rcases main with ⟨h1, rfl, h3⟩ | ⟨j, h1, rfl⟩ <;> rw [h1]
        · simp [h3]
        · simp
      · simp only [Instr.lookup, Sem.run_bind, run_underlying hu, Result.andThen_ok, Sem.run_pure, run_getMap hblk, hck, hfind]
        rcases main with ⟨h1, rfl, h3⟩ | ⟨j, h1, rfl⟩ <;> rw [h1]
        · simp [h3]
        · simp
    refine ⟨_, run2, ?_⟩
    cases ok with
    | false => exact hvr
    | true =>
      refine .tup [u, .bool r.isSome] [cu, .bool r.isSome] rfl fun j h1 h2 => ?_
      match j, h1, h2 with
      | 0, _, _ => exact hvr
      | 1, _, _ => exact .bool _
  · cases h

end
end Go.Ev
