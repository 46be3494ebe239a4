/- A PART OF THE PROOF THAT ONE CALL OF A LAW OF LAYER 46 (which of any patches have a line with any word) returns true, whatever the input; the input reads as it did. No condition beyond the given statement. This part: EvOps6. -/
import Derived.Test.YtklmbhogclaieaaGreatDoorEvOps5
namespace Go.Ev
open Go

section
variable {P : Program} {C : Ctx} {w : World} {O B : Nat → Prop} {M : MapB} {H : Heap}

theorem asNat_sound {hi n : Nat} {x : AV} {cx : Value} (hx : VR C w O B M x cx) (h : asNat hi x = some n) : ∃ k, cx = .int k (n : Int) ∧ n ≤ hi := by
  unfold asNat at h
  split at h
  · rename_i k m
    simp only [Option.bind_eq_some_iff, Option.some.injEq] at h
    obtain ⟨_, hc, rfl⟩ := h
    cases hx
    exact ⟨k, rfl, by simpa using chk_some hc⟩
  · cases h

/-- an operand that may be left out -/
inductive OVR (C : Ctx) (w : World) (O B : Nat → Prop) (M : MapB) : Option AV → Option Value → Prop
  | none : OVR C w O B M none none
  | some (v : AV) (cv : Value) (h : VR C w O B M v cv) : OVR C w O B M (some v) (some cv)

theorem optV_sound (hs : Sit C w O B M H) {ts : List AV} {a : Act} (ht : TR C w O B M ts a) {o : Option Operand} {v : Option AV} (h : optV (opVal C ts) o = some v) : OVR C w O B M v (o.map a.eval) := by
  cases o with
  | none => simp [optV] at h; subst h; exact .none
  | some o =>
    simp only [optV, Option.map_eq_some_iff] at h
    obtain ⟨x, hx, rfl⟩ := h
    exact .some _ _ (opVal_sound hs ht hx)

theorem bound_sound {d hi n : Nat} {o : Option AV} {co : Option Value} (ho : OVR C w O B M o co) (h : bound d hi o = some n) :
    (co = none ∧ n = d) ∨ (∃ k, co = some (.int k (n : Int)) ∧ n ≤ hi) := by
  cases ho with
  | none => simp [bound] at h; exact .inl ⟨rfl, h.symm⟩
  | some v cv hv =>
    obtain ⟨k, rfl, hle⟩ := asNat_sound hv h
    exact .inr ⟨k, rfl, hle⟩

theorem run_bound_at {k : IntKind} {n y : Nat} (code : BoundsCode) (h : n ≤ y) : (Instr.sliceBound (.int k (n : Int)) y code).run P w = .ok n w := by
  have h2 : ((n : Int) ≤ (y : Int)) := by exact_mod_cast h
  simp [Instr.sliceBound, asIntOf, h2]

/-- the three bounds -/
theorem run_bounds {isS : Bool} {len cap m h l : Nat} {lo hi mx : Option Value} (hm : (mx = none ∧ m = cap) ∨ (∃ k, mx = some (.int k (m : Int)) ∧ m ≤ cap))
    (hh : (hi = none ∧ mx = none ∧ h = len) ∨ (∃ k, hi = some (.int k (h : Int)) ∧ h ≤ m)) (hl : (lo = none ∧ l = 0) ∨ (∃ k, lo = some (.int k (l : Int)) ∧ l ≤ h)) :
    (Instr.sliceBounds isS len cap lo hi mx).run P w = .ok (l, h, m) w := by
  unfold Instr.sliceBounds
  rcases hm with ⟨rfl, rfl⟩ | ⟨k1, rfl, hm⟩ <;> rcases hh with ⟨rfl, h0, rfl⟩ | ⟨k2, rfl, hh⟩ <;> rcases hl with ⟨rfl, rfl⟩ | ⟨k3, rfl, hl⟩ <;> first | cases h0 | skip
  all_goals simp [run_bound_at, *]

theorem datL_drop {t : Bool} : ∀ {l : List AV} (n : Nat), datL t l = true → datL t (l.drop n) = true
  | l, 0, h => by simpa using h
  | [], _ + 1, _ => rfl
  | v :: r, n + 1, h => by simp only [datL, Bool.and_eq_true] at h; simpa using datL_drop n h.2

theorem datL_take {t : Bool} : ∀ {l : List AV} (n : Nat), datL t l = true → datL t (l.take n) = true
  | _, 0, _ => by simp [datL]
  | [], _ + 1, _ => rfl
  | v :: r, n + 1, h => by simp only [datL, Bool.and_eq_true] at h ⊢; simpa [datL] using ⟨h.1, datL_take n h.2⟩

theorem sliced_at {cb o l m sz : Nat} (h : m = l → l * sz = 0 ∨ False) : (if m = l then (some ⟨cb, o, none⟩ : Option Addr) else some ⟨cb, o + l * sz, none⟩) = some ⟨cb, o + l * sz, none⟩ := by
  split
  · rename_i e
    rcases h e with h | h
    · rw [h]; rfl
    · exact h.elim
  · rfl

theorem run_sliceAt {t e : TypeId} {i : TypeInfo} (ht : P.underlying t = some (.slice e)) (hi : P.info? e = some i) {a : Option Addr} {len cap l h m : Nat} {lo hi' mx : Option Value}
    (hb : (Instr.sliceBounds true len cap lo hi' mx).run P w = .ok (l, h, m) w) :
    (Instr.sliceAt t (.slice a len cap) lo hi' mx).run P w = .ok (.slice (if m = l then a else a.map (·.add (l * i.size))) (h - l) (m - l)) w := by
  simp [Instr.sliceAt, Instr.slice, run_underlying ht, hb, run_sizeOf hi]

theorem VR.sdat_slice {t : Bool} {sz : Nat} {xs : List AV} {cap ncap : Option Nat} {a : Option Addr} {len c l h m : Nat} (hv : VR C w O B M (.sdat t sz xs cap) (.slice a len c)) (hh : h ≤ xs.length) (hl : l ≤ h) (hm : h ≤ m) (hn : ∀ k, ncap = some k → m - l = k) :
    VR C w O B M (.sdat t sz ((xs.drop l).take (h - l)) ncap) (.slice (if m = l then a else a.map (·.add (l * sz))) (h - l) (m - l)) := by
  cases hv with
  | sdat _ _ _ _ blk o _ vs hlt hO hB hc hlen hcap hsz hcell hic hv =>
    have hlen' : ((xs.drop l).take (h - l)).length = h - l := by simp; omega
    have hne : (xs.drop l).take (h - l) ≠ [] → xs ≠ [] ∧ m ≠ l := fun hx => by
      constructor
      · intro e; subst e; simp at hx
      · intro e
        have : h - l = 0 := by omega
        rw [this] at hx; simp at hx
    have hget : ∀ j (hj : j < ((xs.drop l).take (h - l)).length), ((xs.drop l).take (h - l))[j] = xs[l + j]'(by rw [hlen'] at hj; omega) := fun j hj => by simp [List.getElem_take, List.getElem_drop]
    by_cases hml : m = l
    · have h0 : (xs.drop l).take (h - l) = [] := by
        have h00 : h - l = 0 := by omega
        rw [h00]; simp
      rw [if_pos hml]
      have := VR.sdat (C := C) (w := w) (O := O) (B := B) (M := M) t sz [] ncap blk o (m - l) (fun _ _ => undef) (fun h => absurd rfl h) (fun h => absurd rfl h) (fun h => absurd rfl h) rfl (by simp) hn (fun i hi => by simp at hi) (fun i j hi => by simp at hi) (fun i hi => by simp at hi) (fun i hi => by simp at hi)
      rw [h0, show h - l = 0 by omega]
      exact this
    · rw [if_neg hml]
      simp only [Option.map_some, add_lit]
      have := VR.sdat (C := C) (w := w) (O := O) (B := B) (M := M) t sz ((xs.drop l).take (h - l)) ncap blk (o + l * sz) (m - l) (fun i j => vs (l + i) j) (fun hx => hlt (hne hx).1) (fun hx => hO (hne hx).1) (fun hx => hB (hne hx).1)
        (datL_take _ (datL_drop _ hc)) (by rw [hlen']; omega) hn (fun i hi => by rw [hget i hi]; exact hsz _ _)
        (fun i j hi hj => by
          rw [hlen'] at hi
          have := hcell (l + i) j (by omega) hj
          rw [← this]; congr 2; rw [Nat.add_mul]; omega)
        (fun i hi j hj => by
          have e := hget i hi
          have := hic (l + i) (by rw [hlen'] at hi; omega) j (by rw [← e]; exact hj)
          simpa [e] using this)
        (fun i hi j hj => by
          have e := hget i hi
          have := hv (l + i) (by rw [hlen'] at hi; omega) j (by rw [← e]; exact hj)
          simpa [e] using this)
      rw [hlen'] at this
      exact this

theorem VR.sdat_empty (t : Bool) (sz : Nat) {cap : Option Nat} {blk o c : Nat} (hcap : ∀ k, cap = some k → c = k) : VR C w O B M (.sdat t sz [] cap) (.slice (some ⟨blk, o, none⟩) 0 c) :=
  .sdat t sz [] cap blk o c (fun _ _ => undef) (fun h => absurd rfl h) (fun h => absurd rfl h) (fun h => absurd rfl h) rfl (by simp) hcap (fun i hi => by simp at hi) (fun i j hi => by simp at hi) (fun i hi => by simp at hi) (fun i hi => by simp at hi)

theorem mSlice_sound (hT : TyOk P C) (hs : Sit C w O B M H) {t : TypeId} {x v : AV} {cx : Value} {lo hi mx : Option AV} {clo chi cmx : Option Value} (hx : VR C w O B M x cx) (hlo : OVR C w O B M lo clo) (hhi : OVR C w O B M hi chi) (hmx : OVR C w O B M mx cmx)
    (h : mSlice C t x lo hi mx H = some v) : ∃ cv, (Instr.sliceAt t cx clo chi cmx).run P w = .ok cv w ∧ VR C w O B M v cv := by
  unfold mSlice at h
  split at h
  · -- a string
    rename_i s
    simp only [Option.bind_eq_some_iff, Option.some.injEq] at h
    obtain ⟨d, hd, _, hch, h, hh, l, hl, rfl⟩ := h
    have hch := chk_some hch
    simp only [Bool.and_eq_true] at hch
    have hmn : cmx = none := by
      cases hmx with
      | none => rfl
      | some _ _ _ => simp at hch
    subst hmn
    have hd2 : d = .string := by
      have := hch.2
      cases d <;> first | rfl | cases this
    subst hd2
    cases hx with
    | str _ bs hb =>
      subst hb
      have hlen : bs.data.toList.length = bs.size := by simp
      have hb := run_bounds (P := P) (w := w) (isS := false) (len := bs.size) (cap := bs.size) (m := bs.size) (h := h) (l := l) (lo := clo) (hi := chi) (mx := none) (.inl ⟨rfl, rfl⟩)
        (by rcases bound_sound hhi hh with ⟨h1, h2⟩ | ⟨k, h1, h2⟩
            · exact .inl ⟨h1, rfl, by omega⟩
            · exact .inr ⟨k, h1, by omega⟩)
        (bound_sound hlo hl)
      refine ⟨.string (bs.extract l h), by simp [Instr.sliceAt, Instr.slice, run_underlying (hT.under hd), hb], .str _ _ ?_⟩
      rw [ByteArray.data_extract]
      simp [List.extract_eq_take_drop]
  · -- nil
    simp only [Option.bind_eq_some_iff, Option.some.injEq] at h
    obtain ⟨e, he, sz, hsz, m, hm, _, hch, h, hh, l, hl, rfl⟩ := h
    have hch := chk_some hch
    cases hx
    obtain ⟨i, hi', hd⟩ := elem_some he
    have hue := hT.elem he
    have hm2 := bound_sound hmx hm
    have hh2 := bound_sound hhi hh
    have hl2 := bound_sound hlo hl
    have hm0 : m = 0 := by rcases hm2 with ⟨_, h⟩ | ⟨_, _, h⟩ <;> omega
    have hh0 : h = 0 := by rcases hh2 with ⟨_, h⟩ | ⟨_, _, h⟩ <;> omega
    have hl0 : l = 0 := by rcases hl2 with ⟨_, h⟩ | ⟨_, _, h⟩ <;> omega
    subst hm0; subst hh0; subst hl0
    have hb := run_bounds (P := P) (w := w) (isS := true) (len := 0) (cap := 0) (m := 0) (h := 0) (l := 0) (lo := clo) (hi := chi) (mx := cmx) hm2
      (by rcases hh2 with ⟨h1, _⟩ | ⟨k, h1, h2⟩
          · subst h1
            cases hhi
            simp at hch
            cases hmx with
            | none => exact .inl ⟨rfl, rfl, rfl⟩
            | some _ _ _ => simp at hch
          · exact .inr ⟨k, h1, h2⟩) hl2
    obtain ⟨i2, hi2, _⟩ := size_some hsz
    exact ⟨_, run_sliceAt hue (hT.ty e i2 hi2).2 hb, by simpa using VR.snil⟩
  · -- frozen
    rename_i tg z xs cap
    simp only [Option.bind_eq_some_iff] at h
    obtain ⟨e, he, sz, hsz, _, hz, h⟩ := h
    obtain rfl := (beq_iff _ _).1 (chk_some hz)
    obtain ⟨i2, hi2, hi3⟩ := size_some hsz
    have hue := hT.elem he
    have hie := (hT.ty e i2 hi2).2
    obtain ⟨blk, o, c, vs, rfl, hle, hcap, _⟩ := hx.sdat_cells
    cases hmx with
    | none =>
      simp only [Option.bind_eq_some_iff, Option.some.injEq] at h
      obtain ⟨h, hh, l, hl, rfl⟩ := h
      have hh2 := bound_sound hhi hh
      have hl2 := bound_sound hlo hl
      have hhle : h ≤ xs.length := by rcases hh2 with ⟨_, h2⟩ | ⟨_, _, h2⟩ <;> omega
      have hlle : l ≤ h := by rcases hl2 with ⟨_, h2⟩ | ⟨_, _, h2⟩ <;> omega
      have hb := run_bounds (P := P) (w := w) (isS := true) (len := xs.length) (cap := c) (m := c) (h := h) (l := l) (lo := clo) (hi := chi) (mx := none) (.inl ⟨rfl, rfl⟩)
        (by rcases hh2 with ⟨h1, h2⟩ | ⟨k, h1, h2⟩
            · exact .inl ⟨h1, rfl, h2⟩
            · exact .inr ⟨k, h1, by omega⟩) hl2
      refine ⟨_, run_sliceAt hue hie hb, ?_⟩
      rw [hi3]
      refine hx.sdat_slice hhle hlle (by omega) (fun k hk => ?_)
      simp only [Option.map_eq_some_iff] at hk
      obtain ⟨k', hk', rfl⟩ := hk
      rw [hcap k' hk']
    | some mv cmv hmv =>
      simp only [Option.bind_eq_some_iff, Option.some.injEq] at h
      obtain ⟨m, hm, hiv, hhs, h, hh, l, hl, rfl⟩ := h
      subst hhs
      obtain ⟨k1, rfl, hm2⟩ := asNat_sound hmv hm
      cases hhi with
      | some _ chv hhv =>
        obtain ⟨k2, rfl, hh2⟩ := asNat_sound hhv hh
        have hl2 := bound_sound hlo hl
        have hlle : l ≤ h := by rcases hl2 with ⟨_, h2⟩ | ⟨_, _, h2⟩ <;> omega
        have hb := run_bounds (P := P) (w := w) (isS := true) (len := xs.length) (cap := c) (m := m) (h := h) (l := l) (lo := clo) (hi := some (.int k2 (h : Int))) (mx := some (.int k1 (m : Int))) (.inr ⟨k1, rfl, by omega⟩) (.inr ⟨k2, rfl, hh2⟩) hl2
        refine ⟨_, run_sliceAt hue hie hb, ?_⟩
        rw [hi3]
        exact hx.sdat_slice (by omega) hlle hh2 (fun k hk => by cases hk; rfl)
  · -- the call's own
    rename_i b off len cap
    simp only [Option.bind_eq_some_iff] at h
    obtain ⟨e, he, sz, hsz, ⟨e', cs⟩, hcs, _, hch, h⟩ := h
    have hch := chk_some hch
    simp only [Bool.and_eq_true, beq_iff, Nat.blt_eq] at hch
    obtain ⟨rfl, hpos⟩ := hch
    obtain ⟨i2, hi2, hi3⟩ := size_some hsz
    have hue := hT.elem he
    have hie := (hT.ty e i2 hi2).2
    obtain ⟨cb, base, c, e1, i1, cc, fz, rfl, hM, hblk, hi1, hle, hfit, hcap, hfull⟩ := hx.sref_inv
    obtain ⟨cc', fz', hblk', _, hfit', hO, hcr, hat⟩ := hs.cells hcs hM
    rw [hblk] at hblk'
    cases hblk'
    rw [hi2] at hi1
    obtain rfl := Option.some.inj hi1
    rw [hi3] at hfit hfull
    -- what is known lies within the capacity
    have hknown : cap = none → ∀ h, h ≤ (cs.length - off) / sz → h ≤ c := fun hc h hh => by
      have h1 := hfull hc
      have h2 : h * sz ≤ cs.length - off := Nat.le_trans (Nat.mul_le_mul_right _ hh) (Nat.div_mul_le_self _ _)
      by_cases h0 : h = 0
      · omega
      · have h3 : sz ≤ h * sz := Nat.le_mul_of_pos_left _ (by omega)
        exact Nat.le_of_mul_le_mul_right (c := sz) (by omega) hpos
    have mk : ∀ (l h m : Nat) (ncap : Option Nat), l ≤ h → h ≤ m → m ≤ c → (m = l → l = 0) → (∀ k, ncap = some k → m - l = k) → (ncap = none → cap = none ∧ m = c) →
        VR C w O B M (.sref b (off + l * sz) (h - l) ncap) (.slice (if m = l then (some ⟨cb, base + off, none⟩ : Option Addr) else (some ⟨cb, base + off, none⟩ : Option Addr).map (·.add (l * sz))) (h - l) (m - l)) :=
      fun l h m ncap h1 h2 h3 h4 h5 h6 => by
        have e1 : (if m = l then (some ⟨cb, base + off, none⟩ : Option Addr) else (some ⟨cb, base + off, none⟩ : Option Addr).map (·.add (l * sz))) = some ⟨cb, base + (off + l * sz), none⟩ := by
          split
          · rename_i e; rw [h4 e]; simp
          · simp [add_lit, Nat.add_assoc]
        rw [e1]
        have hm1 : (m - l) * sz ≤ m * sz - l * sz := by rw [Nat.sub_mul]; exact Nat.le_refl _
        have hm2 : m * sz ≤ c * sz := Nat.mul_le_mul_right _ h3
        have hm3 : l * sz ≤ m * sz := Nat.mul_le_mul_right _ (by omega)
        refine .sref b (off + l * sz) (h - l) ncap cb base (m - l) e i2 cc _ hM hblk hi2 (by omega) (by rw [hi3]; omega) h5 (fun hn => ?_)
        obtain ⟨hc, rfl⟩ := h6 hn
        have := hfull hc
        rw [hi3, Nat.sub_mul]
        omega
    have empty : ∀ (l m : Nat) (ncap : Option Nat), (∀ k, ncap = some k → m - l = k) → ∃ blk o, VR C w O B M (.sdat false sz [] ncap) (.slice (some ⟨blk, o, none⟩) 0 (m - l)) ∧
        (if m = l then (some ⟨cb, base + off, none⟩ : Option Addr) else (some ⟨cb, base + off, none⟩ : Option Addr).map (·.add (l * sz))) = some ⟨blk, o, none⟩ := fun l m ncap h => by
      by_cases e : m = l
      · exact ⟨cb, base + off, VR.sdat_empty false sz h, by rw [if_pos e]⟩
      · exact ⟨cb, base + off + l * sz, VR.sdat_empty false sz h, by rw [if_neg e]; simp [add_lit]⟩
    cases hmx with
    | none =>
      cases hcc : cap with
      | none =>
        rw [hcc] at h
        simp only [Option.bind_eq_some_iff] at h
        obtain ⟨h', hh, l, hl, h⟩ := h
        have hh2 := bound_sound hhi hh
        have hl2 := bound_sound hlo hl
        have hlle : l ≤ h' := by rcases hl2 with ⟨_, h2⟩ | ⟨_, _, h2⟩ <;> omega
        have hhc : h' ≤ c := by
          rcases hh2 with ⟨_, rfl⟩ | ⟨_, _, h2⟩
          · exact hle
          · exact hknown hcc _ h2
        have hb := run_bounds (P := P) (w := w) (isS := true) (len := len) (cap := c) (m := c) (h := h') (l := l) (lo := clo) (hi := chi) (mx := none) (.inl ⟨rfl, rfl⟩)
          (by rcases hh2 with ⟨h1, h2⟩ | ⟨k, h1, h2⟩
              · exact .inl ⟨h1, rfl, h2⟩
              · exact .inr ⟨k, h1, hhc⟩) hl2
        refine ⟨_, run_sliceAt hue hie hb, ?_⟩
        rw [hi3]
        cases hq : (Nat.blt l ((cs.length - off) / sz) || Nat.beq l 0) with
        | true =>
          rw [hq] at h
          simp only [cond_true, Option.some.injEq] at h
          subst h
          simp only [Bool.or_eq_true, Nat.blt_eq, beq_iff] at hq
          refine mk l h' c none hlle hhc (Nat.le_refl _) (fun e => ?_) (fun k hk => by cases hk) (fun _ => ⟨hcc, rfl⟩)
          rcases hq with hq | hq
          · have := hknown hcc (l + 1) hq
            omega
          · exact hq
        | false =>
          rw [hq] at h
          simp only [cond_false, Option.bind_eq_some_iff, Option.some.injEq] at h
          obtain ⟨_, hhl, rfl⟩ := h
          obtain rfl := (beq_iff _ _).1 (chk_some hhl)
          obtain ⟨blk, o, h1, h2⟩ := empty h' c none (fun k hk => by cases hk)
          rw [h2, show h' - h' = 0 by omega]
          exact h1
      | some c0 =>
        rw [hcc] at h
        obtain rfl := hcap c0 hcc
        simp only [Option.bind_eq_some_iff] at h
        obtain ⟨h', hh, l, hl, h⟩ := h
        have hh2 := bound_sound hhi hh
        have hl2 := bound_sound hlo hl
        have hlle : l ≤ h' := by rcases hl2 with ⟨_, h2⟩ | ⟨_, _, h2⟩ <;> omega
        have hhc : h' ≤ c := by rcases hh2 with ⟨_, rfl⟩ | ⟨_, _, h2⟩ <;> omega
        have hb := run_bounds (P := P) (w := w) (isS := true) (len := len) (cap := c) (m := c) (h := h') (l := l) (lo := clo) (hi := chi) (mx := none) (.inl ⟨rfl, rfl⟩)
          (by rcases hh2 with ⟨h1, h2⟩ | ⟨k, h1, h2⟩
              · exact .inl ⟨h1, rfl, h2⟩
              · exact .inr ⟨k, h1, hhc⟩) hl2
        refine ⟨_, run_sliceAt hue hie hb, ?_⟩
        rw [hi3]
        cases hq : Nat.beq l c with
        | true =>
          rw [hq] at h
          simp only [cond_true, Option.bind_eq_some_iff, Option.some.injEq] at h
          obtain ⟨_, hhl, rfl⟩ := h
          obtain rfl := (beq_iff _ _).1 (chk_some hhl)
          obtain rfl := (beq_iff _ _).1 hq
          obtain ⟨blk, o, h1, h2⟩ := empty h' h' (some 0) (fun k hk => by cases hk; omega)
          rw [h2]
          simpa using h1
        | false =>
          rw [hq] at h
          simp only [cond_false, Option.some.injEq] at h
          subst h
          exact mk l h' c (some (c - l)) hlle hhc (Nat.le_refl _) (fun e => by rw [e, (beq_iff l l).2 rfl] at hq; cases hq) (fun k hk => by cases hk; rfl) (fun hk => by cases hk)
    | some mv cmv hmv =>
      have h' : ∃ m, asNat (match cap with | some c => c | none => (cs.length - off) / sz) mv = some m ∧ ∃ hv, hi = some hv ∧ ∃ h', asNat m hv = some h' ∧ ∃ l, bound 0 h' lo = some l ∧ (bif Nat.beq l m then some (AV.sdat false sz [] (some 0)) else some (.sref b (off + l * sz) (h' - l) (some (m - l)))) = some v := by
        cases cap <;> simp only [Option.bind_eq_some_iff] at h <;> exact h
      obtain ⟨m, hm, hv, rfl, h', hh, l, hl, h⟩ := h'
      obtain ⟨k1, rfl, hm2⟩ := asNat_sound hmv hm
      have hmc : m ≤ c := by
        cases hcc : cap with
        | none => rw [hcc] at hm2; exact hknown hcc _ hm2
        | some c0 => rw [hcc] at hm2; rw [hcap c0 hcc]; exact hm2
      cases hhi with
      | some _ chv hhv =>
        obtain ⟨k2, rfl, hh2⟩ := asNat_sound hhv hh
        have hl2 := bound_sound hlo hl
        have hlle : l ≤ h' := by rcases hl2 with ⟨_, h2⟩ | ⟨_, _, h2⟩ <;> omega
        have hb := run_bounds (P := P) (w := w) (isS := true) (len := len) (cap := c) (m := m) (h := h') (l := l) (lo := clo) (hi := some (.int k2 (h' : Int))) (mx := some (.int k1 (m : Int))) (.inr ⟨k1, rfl, hmc⟩) (.inr ⟨k2, rfl, hh2⟩) hl2
        refine ⟨_, run_sliceAt hue hie hb, ?_⟩
        rw [hi3]
        cases hq : Nat.beq l m with
        | true =>
          rw [hq] at h
          simp only [cond_true, Option.some.injEq] at h
          subst h
          obtain rfl := (beq_iff _ _).1 hq
          obtain rfl : h' = l := by omega
          obtain ⟨blk, o, h1, h2⟩ := empty h' h' (some 0) (fun k hk => by cases hk; omega)
          rw [h2]
          simpa using h1
        | false =>
          rw [hq] at h
          simp only [cond_false, Option.some.injEq] at h
          subst h
          exact mk l h' m (some (m - l)) hlle hh2 hmc (fun e => by rw [e, (beq_iff l l).2 rfl] at hq; cases hq) (fun k hk => by cases hk; rfl) (fun hk => by cases hk)
  · cases h

end
end Go.Ev
