/- A PART OF THE PROOF THAT ONE CALL OF A LAW OF LAYER 46 (which of any patches have a line with any word) returns true, whatever the input; the input reads as it did. No condition beyond the given statement. This part: EvHere. -/
import Derived.Test.YtklmbhogclaieaaGreatDoorEvCall
import Derived.Lib.Overlaps
namespace Go.Ev
open Go

section
variable {P : Program} {C : Ctx} {w w' : World} {O B : Nat → Prop} {M : MapB}

/-- what a value is in two worlds -/
theorem VR.two {O1 O2 : Nat → Prop} {M1 M2 : MapB} (h1 : ∀ x, O2 x → O1 x) (hM : ∀ b x y, M b = some x → M1 b = some y → M2 b = some y) {v : AV} {cv : Value} (h : VR C w' O1 B M1 v cv) : ∀ {cv0 : Value}, VR C w O B M v cv0 → VR C w' O2 B M2 v cv := by
  induction h with
  | bool b => intro _ _; exact .bool b
  | int k n => intro _ _; exact .int k n
  | flt k n => intro _ _; exact .flt k n
  | str s bs h => intro _ _; exact .str s bs h
  | pnil => intro _ _; exact .pnil
  | snil => intro _ _; exact .snil
  | mnil => intro _ _; exact .mnil
  | fnil => intro _ _; exact .fnil
  | inil => intro _ _; exact .inil
  | pref b off cb base hm =>
    intro _ h0
    cases h0 with
    | pref _ _ cb0 base0 hm0 => exact .pref b off cb base (hM _ _ _ hm0 hm)
  | sref b off len cap cb base c e i cc fz hm hblk hi hlen hfit hcap hfull =>
    intro _ h0
    obtain ⟨cb0, base0, _, _, _, _, _, _, hm0, _⟩ := h0.sref_inv
    exact .sref b off len cap cb base c e i cc fz (hM _ _ _ hm0 hm) hblk hi hlen hfit hcap hfull
  | pdat tg cs blk o vs hlt hO hB hc hcell hic hv ih =>
    intro _ _
    refine (VR.pdat tg cs blk o vs hlt hO hB hc hcell hic hv).conv (t := true) (fun x hx => .inl (h1 x hx)) (fun _ x hx => h1 x hx) (fun x hx => .inr hx) ?_
    simp only [dat, Bool.true_or, Bool.true_and]
    cases tg with
    | true => exact hc
    | false => exact datL_up hc
  | sdat tg sz xs cap blk o c vs hlt hO hB hc hlen hcap hsz hcell hic hv ih =>
    intro _ _
    refine (VR.sdat tg sz xs cap blk o c vs hlt hO hB hc hlen hcap hsz hcell hic hv).conv (t := true) (fun x hx => .inl (h1 x hx)) (fun _ x hx => h1 x hx) (fun x hx => .inr hx) ?_
    simp only [dat, Bool.true_or, Bool.true_and]
    cases tg with
    | true => exact hc
    | false => exact datL_up hc
  | mref b cb hm =>
    intro _ h0
    cases h0 with
    | mref _ cb0 hm0 => exact .mref b cb (hM _ _ _ hm0 hm)
  | mdat tg ks us bs ck blk es hlt hO hB hck hcu hblk hlk hlu hlb hb hk hu ihk ihu =>
    intro _ _
    refine (VR.mdat tg ks us bs ck blk es hlt hO hB hck hcu hblk hlk hlu hlb hb hk hu).conv (t := true) (fun x hx => .inl (h1 x hx)) (fun _ x hx => h1 x hx) (fun x hx => .inr hx) ?_
    simp only [dat, Bool.true_or, Bool.true_and, Bool.and_eq_true]
    cases tg with
    | true => exact ⟨hck, hcu⟩
    | false => exact ⟨datL_up hck, datL_up hcu⟩
  | bnd f first vs hl hv ih =>
    intro _ h0
    cases h0 with
    | bnd _ _ vs0 hl0 hv0 => exact .bnd f first vs hl fun j a b => ih j a b (hv0 j a (by omega))
  | clo f cap vs hl hv ih =>
    intro _ h0
    cases h0 with
    | clo _ _ vs0 hl0 hv0 => exact .clo f cap vs hl fun j a b => ih j a b (hv0 j a (by omega))
  | ifc t v cv hv ih =>
    intro _ h0
    cases h0 with
    | ifc _ _ cv0 hv0 => exact .ifc t v cv (ih hv0)
  | agg cs vs hl hic hv ih =>
    intro _ h0
    cases h0 with
    | agg _ vs0 hl0 _ hv0 => exact .agg cs vs hl hic fun j a b => ih j a b (hv0 j a (by omega))
  | tup cs vs hl hv ih =>
    intro _ h0
    cases h0 with
    | tup _ vs0 hl0 hv0 => exact .tup cs vs hl fun j a b => ih j a b (hv0 j a (by omega))

theorem BlkR.two {O1 O2 : Nat → Prop} {M1 M2 : MapB} (h1 : ∀ x, O2 x → O1 x) (hM : ∀ b x y, M b = some x → M1 b = some y → M2 b = some y) {cb base cb0 base0 : Nat} {blk : Blk} (h : BlkR C w' O1 B M1 cb base blk) (h0 : BlkR C w O B M cb0 base0 blk) : BlkR C w' O2 B M2 cb base blk := by
  cases h with
  | cells e cs cc fz hblk hfz hfit hic hv =>
    cases h0 with
    | cells _ _ cc0 fz0 hblk0 hfz0 hfit0 hic0 hv0 =>
      exact .cells e cs cc fz hblk hfz hfit hic fun j hj h' => (hv j hj h').two h1 hM (hv0 j hj (by omega))
  | map ks us bs ck es hb0 hblk hlk hlu hlb hb hk hu =>
    cases h0 with
    | map _ _ _ _ es0 hb00 hblk0 hlk0 hlu0 hlb0 hb0' hk0 hu0 =>
      exact .map ks us bs ck es hb0 hblk hlk hlu hlb hb (fun j a b => (hk j a b).two h1 hM (hk0 j (by omega) b)) fun j a b => (hu j a b).two h1 hM (hu0 j (by omega) b)
  | siter s pos bs h hb hblk => exact .siter s pos bs h hb hblk
  | miter m cm a s l hm hn hb hblk =>
    cases h0 with
    | miter _ cm0 _ _ _ hm0 hn0 hb0 hblk0 =>
      exact .miter m cm a s l (fun b e => by
        obtain ⟨c, e1, e2⟩ := hm b e
        obtain ⟨c0, e3, e4⟩ := hm0 b e
        exact ⟨c, e1, hM b _ _ e4 e2⟩) hn hb hblk

/-- A CALL IN THE CALLER'S OWN HEAP. -/
theorem callHere_sound {call : CallF} (hcall : CallOk P C call) {st st2 : St} (hs : Sit C w O B M st.heap) (he : ∀ x, O x → x < w.heap.size) (hn : ∀ b, st.nxt ≤ b → M b = none) {f : FuncId} {args : List AV} {cargs : List Value}
    (ha : LR C w O B M args cargs) {v : AV} (h : callHere C call f args st = some (v, st2)) :
    FnOk P f cargs.toArray w fun cv w' => ∃ O' M', VR C w' O' B M' v cv ∧ Step C B true w O M st w' O' M' st2 := by
  unfold callHere at h
  simp only [Option.bind_eq_some_iff] at h
  obtain ⟨⟨r, st1⟩, hc, h⟩ := h
  refine (hcall f args _ r st1 hc w O B M cargs hs he hn ha).mono fun cv w' ⟨O1, M1, hv, k⟩ => ?_
  have hlt : ∀ b blk, hget st.heap b = some blk → b < st.nxt := fun b blk hb => by
    obtain ⟨cb, base, hM, _⟩ := hs.own b blk hb
    apply Nat.lt_of_not_le
    intro hle
    rw [hn b hle] at hM; cases hM
  have hcond : (bif Nat.ble st.nxt st1.low then True else False) → _ := fun hlow => by
    have hlow : st.nxt ≤ st1.low := by
      cases hq : Nat.ble st.nxt st1.low with
      | true => simpa using hq
      | false => rw [hq] at hlow; exact hlow.elim
    exact hlow
  have step2 : ∀ l, l ≤ st.low → (∀ b, b < l → st1.low ≤ b → st.nxt ≤ b) → Step C B true w O M st w' O1 M1 { st1 with low := l } := fun l h1 h2 =>
    ⟨k.ext, k.sit, k.map, k.nxt, h1, fun b hb hbl => k.kept b hb (by
      apply Nat.lt_of_not_le
      intro hle
      have := h2 b hbl hle
      exact absurd hb (by omega)), k.rest, k.lt, fun e => (by cases e)⟩
  cases hq : Nat.ble st.nxt st1.low with
  | false =>
    rw [hq] at h
    simp only [cond_false, Option.some.injEq, Prod.mk.injEq] at h
    obtain ⟨rfl, rfl⟩ := h
    exact ⟨O1, M1, hv, step2 _ (Nat.min_le_left _ _) (fun b h1 h2 => by omega)⟩
  | true =>
    have hlow : st.nxt ≤ st1.low := by simpa using hq
    rw [hq] at h
    simp only [cond_true] at h
    split at h
    · rename_i x hx
      obtain rfl := Option.some.inj h
      have hkept : ∀ b blk, hget st.heap b = some blk → hget st1.heap b = some blk := fun b blk hb => by
        have := hlt b blk hb
        rw [k.kept b this (by omega)]; exact hb
      have hmap : ∀ b, b < st.nxt → M1 b = M b := fun b hb => k.map b (.inl hb)
      have hO1 : ∀ x, O x → O1 x := fun x hx => by
        by_cases him : Image M st.heap x
        · obtain ⟨b, blk, base, hb, hM⟩ := him
          obtain ⟨cb', base', hM', hO', _⟩ := k.sit.own b blk (hkept b blk hb)
          rw [hmap b (hlt b blk hb), hM] at hM'
          obtain ⟨rfl, rfl⟩ := Prod.mk.inj (Option.some.inj hM')
          exact hO'
        · exact (k.rest x hx (he x hx) him).2.1
      refine hand_sound (serial := true) hs k.sit hv hx ⟨k.ext.os, k.ext.tape, k.ext.output, k.ext.size, k.ext.keep, k.ext.shp, fun b h => .inl h, fun _ _ h => h⟩
        (fun x hx => .inl (hO1 x hx)) (fun x hx => hx) k.ext.own (fun b blk cb base hle hb hM hO => ?_) (fun b x hb hM => ⟨hb, by rw [← hmap b hb]; exact hM⟩) (fun b hb _ => hn b hb)
        (fun O2 M2 ho1 ho2 ho3 hm b blk hb => ?_) (fun e => (by cases e)) (fun cb h1 h2 h3 => (k.rest cb h1 h2 h3).1)
      · by_cases him : Image M st.heap cb
        case neg => exact (k.rest cb hO (he cb hO) him).2.2 ⟨b, blk, base, hb, hM⟩
        obtain ⟨b0, blk0, base0, hb0, hM0⟩ := him
        have h0 := hlt b0 blk0 hb0
        have := k.sit.inj b b0 blk blk0 cb base base0 hb (hkept b0 blk0 hb0) hM (by rw [hmap b0 h0]; exact hM0)
        omega
      · obtain ⟨cb, base, hM, _, hr0⟩ := hs.own b blk hb
        obtain ⟨cb', base', hM', _, hr1⟩ := k.sit.own b blk (hkept b blk hb)
        rw [hmap b (hlt b blk hb), hM] at hM'
        obtain ⟨rfl, rfl⟩ := Prod.mk.inj (Option.some.inj hM')
        refine ⟨cb, base, hM, hr1.two (fun x hx => ?_) (fun b x y h0 h1 => ?_) hr0⟩
        · rcases ho1 x hx with h | hB
          · exact h
          · rcases ho2 x hx with h | hsz
            · exact hO1 x h
            · have := hs.bl x hB
              omega
        · have hb : b < st.nxt := by
            apply Nat.lt_of_not_le
            intro hle
            rw [hn b hle] at h0; cases h0
          rw [hmap b hb] at h1
          exact hm b y h1
    · simp only [Option.some.injEq, Prod.mk.injEq] at h
      obtain ⟨rfl, rfl⟩ := h
      exact ⟨O1, M1, hv, step2 _ (Nat.le_refl _) (fun b h1 h2 => by omega)⟩

/-- A CALL WHOSE ARGUMENTS GO OVER AS DATA. -/
theorem callData_sound {call : CallF} (hcall : CallOk P C call) {serial : Bool} {st st2 : St} (hs : Sit C w O B M st.heap) (hl : ∀ x, O x → x < w.heap.size) (hn : ∀ b, st.nxt ≤ b → b < st2.nxt → M b = none) {f : FuncId} {args : List AV} {cargs : List Value}
    (ha : LR C w O B M args cargs) {v : AV} (h : callData C call f args st = some (v, st2)) :
    FnOk P f cargs.toArray w fun cv w' => ∃ O' M', VR C w' O' B M' v cv ∧ Step C B serial w O M st w' O' M' st2 := by
  unfold callData at h
  simp only [Option.bind_eq_some_iff] at h
  obtain ⟨ds, hds, ⟨r, st1⟩, hc, h⟩ := h
  have hT : Tgt true O B M st.heap (fun _ => False) (fun x => O x ∨ B x) := ⟨fun _ h => h.elim, fun _ _ h => h.elim, fun _ h => h, fun _ _ _ _ _ _ => ⟨fun h => h, fun h => (by cases h)⟩⟩
  obtain ⟨hd, _, _⟩ := freezeL_sound (M2 := fun _ => none) hT (.of hs) deep ⟨ha.len, ha.rel⟩ hds
  have hs0 : Sit C w (fun _ => False) (fun x => O x ∨ B x) (fun _ => none) ({ heap := [], nxt := 0, low := 0 } : St).heap := by
    refine ⟨fun b blk h => by simp [hget] at h, fun b b' blk blk' _ _ _ h => by simp [hget] at h, fun g cs hg => ?_, fun _ h => h.elim, fun x h => h.elim (hl x) (hs.bl x)⟩
    have hg1 := hs.glob g cs hg
    obtain ⟨_, _, _, _, _, _, _, _, _, hdd⟩ := hg1.pdat_cells
    exact hg1.conv (t := false) (fun _ h => h.elim) (fun h => (by cases h)) (fun x h => h) (by simp [dat, hdd])
  refine (hcall f ds _ r st1 hc w _ _ _ cargs hs0 (fun cb h => h.elim) (fun b _ => rfl) ⟨hd.len, hd.rel⟩).mono fun cv w' ⟨O1, M1, hv, k⟩ => ?_
  have hown : ∀ x, O1 x → w.heap.size ≤ x := fun x hx => (k.ext.own x hx).resolve_left (fun h => h)
  have hkeep : ∀ b, b < w.heap.size → w'.heap[b]? = w.heap[b]? := fun b hb => k.ext.keep b hb (fun h => h)
  refine hand_sound (serial := serial) hs k.sit hv h ⟨k.ext.os, k.ext.tape, k.ext.output, k.ext.size, fun b hb _ => hkeep b hb, k.ext.shp, fun b h => .inl h, fun _ _ h => h⟩
    (fun x hx => .inr (.inl hx)) (fun x hx => .inr hx) (fun x hx => .inr (hown x hx)) (fun b blk cb base _ hb hM hO => ?_) (fun b x hb => by omega) hn
    (fun O2 M2 ho1 ho2 ho3 hm b blk hb => ?_) (fun _ => ⟨hkeep, hown⟩) (fun cb _ h2 _ => hkeep cb h2)
  · obtain ⟨cb', base', hM', hO', _⟩ := k.sit.own b blk hb
    rw [hM] at hM'
    obtain ⟨rfl, rfl⟩ := Prod.mk.inj (Option.some.inj hM')
    have h1 := hown cb hO'
    have h2 := hl cb hO
    omega
  · obtain ⟨cb, base, hM, _, hr0⟩ := hs.own b blk hb
    exact ⟨cb, base, hM, hr0.mono (⟨k.ext.os, k.ext.tape, k.ext.output, k.ext.size, fun b hb _ => hkeep b hb, k.ext.shp, ho2, hm⟩ : Ext w O M w' O2 M2) (hkeep cb (hs.lt hb hM))⟩

/-- what is promised of the functions that are taken as given -/
def PrimFns (P : Program) (C : Ctx) : Prop :=
  ∀ (f : FuncId) (φ : List AV → Option AV), C.prims f = some φ → ∀ (ds : List AV) (r : AV), φ ds = some r → ∀ (w : World) (B : Nat → Prop) (cargs : List Value), (∀ g cs, C.globs g = some cs → VR C w (fun _ => False) B (fun _ => none) (.pdat false cs) (.pointer (some ⟨g, 0, none⟩))) → (∀ b, B b → b < w.heap.size) →
    LR C w (fun _ => False) B (fun _ => none) ds cargs →
    FnOk P f cargs.toArray w fun cv w' => VR C w' (fun _ => False) B (fun _ => none) r cv ∧ Ext w (fun _ => False) (fun _ => none) w' (fun _ => False) (fun _ => none)

theorem plain_any {v : AV} {cv : Value} {w1 : World} {O1 B1 : Nat → Prop} {M1 : MapB} (h : VR C w1 O1 B1 M1 v cv) (hp : plain v = true) : VR C w O B M v cv := by
  cases h <;> first | (cases hp; done) | skip
  · exact .bool _
  · exact .int _ _
  · exact .flt _ _
  · exact .str _ _ (by assumption)
  · exact .pnil
  · exact .snil
  · exact .mnil
  · exact .fnil
  · exact .inil

theorem callPrim_sound (hp : PrimFns P C) {serial : Bool} {st st2 : St} (hs : Sit C w O B M st.heap) (hl : ∀ x, O x → x < w.heap.size) {f : FuncId} {φ : List AV → Option AV} (hφ : C.prims f = some φ) {args : List AV} {cargs : List Value}
    (ha : LR C w O B M args cargs) {v : AV} (h : callPrim C φ args st = some (v, st2)) :
    FnOk P f cargs.toArray w fun cv w' => ∃ O' M', VR C w' O' B M' v cv ∧ Step C B serial w O M st w' O' M' st2 := by
  unfold callPrim at h
  simp only [Option.bind_eq_some_iff, Option.some.injEq, Prod.mk.injEq] at h
  obtain ⟨ds, hds, r, hr, _, hpl, rfl, rfl⟩ := h
  have hT : Tgt true O B M st.heap (fun _ => False) (fun x => O x ∨ B x) := ⟨fun _ h => h.elim, fun _ _ h => h.elim, fun _ h => h, fun _ _ _ _ _ _ => ⟨fun h => h, fun h => (by cases h)⟩⟩
  obtain ⟨hd, _, _⟩ := freezeL_sound (M2 := fun _ => none) hT (.of hs) deep ⟨ha.len, ha.rel⟩ hds
  refine (hp f φ hφ ds r hr w _ cargs (fun g cs hg => ?_) (fun x h => h.elim (hl x) (hs.bl x)) ⟨hd.len, hd.rel⟩).mono fun cv w' ⟨hv, hx⟩ => ?_
  · have hg1 := hs.glob g cs hg
    obtain ⟨_, _, _, _, _, _, _, _, _, hdd⟩ := hg1.pdat_cells
    exact hg1.conv (t := false) (fun _ h => h.elim) (fun h => (by cases h)) (fun x h => h) (by simp [dat, hdd])
  · have hkeep : ∀ b, b < w.heap.size → w'.heap[b]? = w.heap[b]? := fun b hb => hx.keep b hb (fun h => h)
    have hx' : Ext w O M w' O M := ⟨hx.os, hx.tape, hx.output, hx.size, fun b hb _ => hkeep b hb, hx.shp, fun _ h => .inl h, fun _ _ h => h⟩
    have hs' := hs.extend hx' (fun _ h => h) (fun b blk cb base hb hM => hkeep cb (hs.lt hb hM))
    refine ⟨O, M, hv.conv (t := false) (fun x hx => .inr (.inl hx)) (fun h => (by cases h)) (fun x hx => .inr (.inr hx)) (chk_some hpl), hx', hs', fun _ _ => rfl, Nat.le_refl _, Nat.le_refl _, fun _ _ _ => rfl, fun cb h1 h2 h3 => ⟨hkeep cb h2, h1, h3⟩, fun h x hx1 => Nat.lt_of_lt_of_le (h x hx1) hx.size, fun _ => ⟨hkeep, fun _ h => h, ⟨[], rfl, by simp, fun p h => by cases h⟩, fun b _ _ _ h1 h2 => by omega, fun cb h => .inl h⟩⟩

/-! ### Library functions without a body -/
def ExtsOk (P : Program) (C : Ctx) : Prop := ∀ g e, C.ext g = some e → match e with
  | .mapsClone => ∀ (args : Array Value) (w : World), (callFunc g args).run P w = ((Extern.MapsClone.clone args).run P w).andThen fun v w' => .ok (.value v) w'
  | .overlaps => ∃ tS tR el, P.underlying tS = some (.slice el) ∧ (∃ i, C.ti el = some i) ∧ ∀ (args : Array Value) (w : World), (callFunc g args).run P w = ((Extern.SlicesOverlaps.overlaps #[tS, tS] #[tR] args).run P w).andThen fun v w' => .ok (.value v) w'

/-- what is promised of what is taken as given -/
structure PrimsOk (P : Program) (C : Ctx) : Prop where
  prim : PrimFns P C
  ext : ExtsOk P C

theorem run_clone {r ck : Nat} {es : Array MapEntry} (t : TypeId) (hb : w.heap[r]? = some (.map es ck)) :
    (Extern.MapsClone.clone #[.iface t (.map (some r))]).run P w = .ok (.iface t (.map (some w.heap.size))) (w.alloc (.map es ck)) := by
  refine (Sem.run_bind (P := P) (w := w) (getObj r) _).trans ?_
  rw [run_getMap hb]
  refine (Sem.run_bind (P := P) (w := w) (newObj _) _).trans ?_
  rw [run_newObjA]
  rfl

theorem run_overlaps (tS tR el : TypeId) (ht : P.underlying tS = some (.slice el)) {size : Nat} (hz : ∀ w, (sizeOf el).run P w = .ok size w) (a b : Option Addr) (la ca lb cb : Nat)
    (h : a = none ∨ b = none ∨ la = 0 ∨ lb = 0 ∨ ∃ ad bd, a = some ad ∧ b = some bd ∧ ad.block ≠ bd.block ∧ ∃ tA tB kA kB, w.shape? ad.block = some (tA, kA) ∧ w.shape? bd.block = some (tB, kB + 1) ∧ w.frozen? ad = false ∧ w.frozen? { block := ad.block, off := kA } = false) :
    (Extern.SlicesOverlaps.overlaps #[tS, tS] #[tR] #[.slice a la ca, .slice b lb cb]).run P w = .ok (.bool false) w := by
  rcases h with h | h | h | h | ⟨ad, bd, rfl, rfl, hne, tA, tB, kA, kB, hsa, hsb, hfa, hfe⟩
  case inr.inr.inr.inr => exact Lib.run_overlaps_apart w tS tR el ht size hz ad bd la ca lb cb hne tA tB kA (kB + 1) hsa hsb (by omega) hfa hfe
  all_goals
    refine (Sem.run_bind (P := P) (w := w) (underlying tS) _).trans ?_
    rw [run_underlying ht]
    refine (Sem.run_bind (P := P) (w := w) (sizeOf el) _).trans ?_
    rw [hz]
    simp only [Result.andThen_ok]
    first
      | (subst h; rfl)
      | (subst h; cases a <;> rfl)
      | (cases a <;> cases b <;> first
          | rfl
          | (dsimp only; rw [if_pos (by omega)]; rfl))

theorem evExtern_sound (hT : TyOk P C) (hE : ExtsOk P C) {serial : Bool} {st st2 : St} (hs : Sit C w O B M st.heap) (hn : ∀ b, st.nxt ≤ b → b < st2.nxt → M b = none) {g : FuncId} {e : Extern} (hg : C.ext g = some e) {args : List AV} {cargs : List Value}
    (ha : LR C w O B M args cargs) {v : AV} (h : evExtern C e args st = some (v, st2)) :
    FnOk P g cargs.toArray w fun cv w' => ∃ O' M', VR C w' O' B M' v cv ∧ Step C B serial w O M st w' O' M' st2 := by
  have hg2 := hE g e hg
  intro o a next Q hnext
  unfold evExtern at h
  split at h
  · rename_i t m
    obtain ⟨c, hc⟩ := List.length_eq_one_iff.1 ha.len
    subst hc
    have h0 := ha.rel 0 (by simp) (by simp)
    simp only [List.getElem_cons_zero] at h0
    cases h0 with
    | ifc _ _ cm hm =>
      split at h
      · cases h
      · rename_i m' hne
        simp only [Option.bind_eq_some_iff, Option.some.injEq, Prod.mk.injEq] at h
        obtain ⟨⟨ks, us, bs, ck⟩, hmo, rfl, rfl⟩ := h
        obtain ⟨es, hl, hcx⟩ := mapOf_sound hs hm hmo
        rcases hcx with ⟨rfl, _⟩ | ⟨r, rfl, hblk⟩
        · cases hm
          exact absurd rfl hne
        · rw [hg2]
          rw [run_clone t hblk]
          have hst := step_newMap (serial := serial) (st := st) hs (hn _ (Nat.le_refl _) (by simp [St.new])) (ck := ck) hl
          exact hnext _ _ ⟨_, _, .ifc t _ _ hst.1, hst.2⟩
  · rename_i x y
    obtain ⟨tS, tR, el, hu, ⟨i, hi⟩, hcall⟩ := hg2
    obtain ⟨b, hb, e2⟩ := Option.map_eq_some_iff.1 h
    simp only [Prod.mk.injEq] at e2
    obtain ⟨rfl, rfl⟩ := e2
    obtain ⟨c1, c2, hc⟩ := list_two ha.len
    subst hc
    have hx := ha.rel 0 (by simp) (by simp)
    have hy := ha.rel 1 (by simp) (by simp)
    simp only [List.getElem_cons_zero, List.getElem_cons_succ] at hx hy
    have hz : ∀ w : World, (sizeOf el).run P w = .ok i.info.size w := fun w => run_sizeOf (hT.ty el i hi).2
    have fin : b = false → (∃ a la ca b lb cb, c1 = .slice a la ca ∧ c2 = .slice b lb cb ∧ (a = none ∨ b = none ∨ la = 0 ∨ lb = 0 ∨ ∃ ad bd, a = some ad ∧ b = some bd ∧ ad.block ≠ bd.block ∧ ∃ tA tB kA kB, w.shape? ad.block = some (tA, kA) ∧ w.shape? bd.block = some (tB, kB + 1) ∧ w.frozen? ad = false ∧ w.frozen? { block := ad.block, off := kA } = false)) →
        o.upon P a next Q ((callFunc g [c1, c2].toArray).run P w) := fun hbf ⟨aa, la, ca, bb, lb, cb, e1, e2, hh⟩ => by
      subst hbf; subst e1; subst e2
      rw [hcall]
      rw [show ([Value.slice aa la ca, Value.slice bb lb cb] : List Value).toArray = #[Value.slice aa la ca, Value.slice bb lb cb] from rfl, run_overlaps tS tR el hu hz aa bb la ca lb cb hh]
      exact hnext _ _ ⟨O, M, .bool _, .refl hs⟩
    unfold mOverlaps at hb
    split at hb
    · cases hx; cases hy
      exact fin (Option.some.inj hb).symm ⟨_, _, _, _, _, _, rfl, rfl, .inl rfl⟩
    · cases hx
      obtain ⟨cb, base, c, e1, i1, cc, fz, rfl, _⟩ := hy.sref_inv
      exact fin (Option.some.inj hb).symm ⟨_, _, _, _, _, _, rfl, rfl, .inl rfl⟩
    · cases hy
      obtain ⟨cb, base, c, e1, i1, cc, fz, rfl, _⟩ := hx.sref_inv
      exact fin (Option.some.inj hb).symm ⟨_, _, _, _, _, _, rfl, rfl, .inr (.inl rfl)⟩
    · rename_i b1 o1 l1 k1 b2 o2 l2 k2
      obtain ⟨cb, base, c, e1, i1, cc, fz, rfl, hM1, hblk1, _⟩ := hx.sref_inv
      obtain ⟨cb', base', c', e1', i1', cc', fz', rfl, hM2, hblk2, _⟩ := hy.sref_inv
      cases hq : (Nat.beq l1 0 || Nat.beq l2 0) with
      | true =>
        rw [hq] at hb
        simp only [cond_true, Option.some.injEq] at hb
        simp only [Bool.or_eq_true, beq_iff] at hq
        exact fin hb.symm ⟨_, _, _, _, _, _, rfl, rfl, by rcases hq with h | h; exact .inr (.inr (.inl h)); exact .inr (.inr (.inr (.inl h)))⟩
      | false =>
        rw [hq] at hb
        simp only [cond_false, Option.bind_eq_some_iff, Option.some.injEq] at hb
        obtain ⟨⟨ea, csa⟩, hca, ⟨eb, csb⟩, hcb, _, hch, hbf⟩ := hb
        have hch := chk_some hch
        simp only [Bool.and_eq_true, Bool.not_eq_true', Nat.blt_eq] at hch
        obtain ⟨⟨hne, hpos⟩, hnb⟩ := hch
        obtain ⟨cca, fza, hba, hfza, hfita, _⟩ := hs.cells hca hM1
        obtain ⟨ccb, fzb, hbb, hfzb, hfitb, _⟩ := hs.cells hcb hM2
        have hneq : cb ≠ cb' := fun e => by
          subst e
          have := hs.inj b1 b2 _ _ _ _ _ (hcells_some hca) (hcells_some hcb) hM1 hM2
          rw [this, (beq_iff _ _).2 rfl] at hne
          cases hne
        have hfz : fza.1 = fza.2 := by
          rcases hfza with h | ⟨_, h⟩
          · exact h
          · unfold isByte at hnb; rw [h] at hnb; cases hnb
        obtain ⟨kb, hkb⟩ : ∃ kb, ccb.size = kb + 1 := ⟨ccb.size - 1, by omega⟩
        refine fin hbf.symm ⟨_, _, _, _, _, _, rfl, rfl, .inr (.inr (.inr (.inr ⟨_, _, rfl, rfl, hneq, ea, eb, cca.size, kb, ?_, ?_, ?_, ?_⟩)))⟩
        · simp [World.shape?, hba]
        · simp [World.shape?, hbb, hkb]
        · simp only [World.frozen?, hba, Bool.and_eq_false_iff, decide_eq_false_iff_not]; omega
        · simp only [World.frozen?, hba, Bool.and_eq_false_iff, decide_eq_false_iff_not]; omega
    · cases hb
  · cases h

end
end Go.Ev
