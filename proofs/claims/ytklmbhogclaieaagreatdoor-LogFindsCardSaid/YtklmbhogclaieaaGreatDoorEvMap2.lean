/- A PART OF THE PROOF THAT ONE CALL OF A LAW OF LAYER 46 (which of any patches have a line with any word) returns true, whatever the input; the input reads as it did. No condition beyond the given statement. This part: EvMap2. -/
import Derived.Test.YtklmbhogclaieaaGreatDoorEvMap
namespace Go.Ev
open Go

section
variable {P : Program} {C : Ctx} {w : World} {O B : Nat → Prop} {M : MapB} {H : Heap}

theorem setIf_at (w : World) (g k : Nat) (o : Obj) (h : k ≠ g) : ({ w with heap := w.heap.setIfInBounds g o } : World).heap[k]? = w.heap[k]? := by
  simp only [Array.getElem?_setIfInBounds]
  rw [if_neg (fun e => h e.symm)]

theorem setIf_same {w : World} {g : Nat} (o : Obj) (h : g < w.heap.size) : ({ w with heap := w.heap.setIfInBounds g o } : World).heap[g]? = some o := by
  simp [h]

/-- A map of the call's own is written. -/
theorem Ext.setMap {g ck : Nat} {es : Array MapEntry} (hO : O g) (hg : w.heap[g]? = some (.map es ck)) (o : Obj) : Ext w O M { w with heap := w.heap.setIfInBounds g o } O M where
  os := rfl
  tape := rfl
  output := rfl
  size := by simp
  keep := fun b hb hn => setIf_at w g b o (fun e => hn (e ▸ hO))
  shp := fun b c e fz hc => by
    have hb : b ≠ g := fun e => by subst e; rw [hg] at hc; cases hc
    exact ⟨c, (setIf_at w g b o hb).trans hc, rfl⟩
  own := fun b hb => .inl hb
  sub := fun b x hx => hx

/-- A WRITE INTO A MAP, as a step. -/
theorem step_map {st : St} (hs : Sit C w O B M st.heap) {b : Nat} {blk : Blk} (hb : hget st.heap b = some blk) {cb base : Nat} (hM : M b = some (cb, base)) {es es' : Array MapEntry} {ck ck' : Nat} (hblk : w.heap[cb]? = some (.map es ck))
    {ks us : List AV} {bs : List Nat} (hb0 : base = 0) (hl : EL (VR C w O B M) ks us bs es'.toList) :
    Step C B true w O M st { w with heap := w.heap.setIfInBounds cb (.map es' ck') } O M (st.put b (.map ks us bs ck')) := by
  obtain ⟨cb', base', hM', hO, _⟩ := hs.own b blk hb
  rw [hM] at hM'
  obtain ⟨rfl, rfl⟩ := Prod.mk.inj (Option.some.inj hM')
  subst hb0
  have hx : Ext w O M { w with heap := w.heap.setIfInBounds cb (.map es' ck') } O M := Ext.setMap hO hblk _
  exact Step.put hs hb hM hx (fun k hk => setIf_at w cb k _ hk) (.mk_map (setIf_same _ (Array.getElem?_eq_some_iff.1 hblk).1) (hl.mono fun a b h => h.mono hx))

/-! ### The same bits -/
theorem keyBit_eq {a b : AV} {ca cb : Value} (ha : VR C w O B M a ca) (hb : VR C w O B M b cb) (h : keyBit a b = true) : ca = cb ∧ ((∃ k n, ca = .int k n) ∨ ∃ s, ca = .string s) := by
  unfold keyBit at h
  split at h
  · rename_i k n l m
    cases ha; cases hb
    simp only [Bool.and_eq_true, beq_iff_eq] at h
    obtain ⟨h1, rfl⟩ := h
    by_cases e : k = l
    · subst e; exact ⟨rfl, .inl ⟨_, _, rfl⟩⟩
    · rw [if_neg e] at h1; cases h1
  · obtain ⟨b1, rfl, h3⟩ := ha.str_inv
    obtain ⟨b2, rfl, h4⟩ := hb.str_inv
    have h := eq_of_beq h
    have : b1 = b2 := by
      cases b1; cases b2
      congr 1
      apply Array.ext'
      rw [h3, h4, h]
    subst this
    exact ⟨rfl, .inr ⟨_, rfl⟩⟩
  · cases h

theorem keyBitL_eq : ∀ {xs ys : List AV} {vs us : List Value}, LR C w O B M xs vs → LR C w O B M ys us → keyBitL xs ys = true → vs = us ∧ ∀ v ∈ vs, (∃ k n, v = .int k n) ∨ ∃ s, v = .string s
  | [], [], vs, us, h1, h2, _ => by
    have e1 : vs = [] := List.length_eq_zero_iff.1 (by rw [h1.len]; rfl)
    have e2 : us = [] := List.length_eq_zero_iff.1 (by rw [h2.len]; rfl)
    subst e1; subst e2
    exact ⟨rfl, fun v h => by cases h⟩
  | a :: r, b :: s, vs, us, h1, h2, h => by
    simp only [keyBitL, Bool.and_eq_true] at h
    cases vs with
    | nil => have := h1.len; simp at this
    | cons v vs => cases us with
      | nil => have := h2.len; simp at this
      | cons u us =>
        have hv := h1.rel 0 (by simp) (by simp)
        have hu := h2.rel 0 (by simp) (by simp)
        obtain ⟨e, k⟩ := keyBit_eq hv hu h.1
        simp only [List.getElem_cons_zero] at e k
        obtain ⟨e2, k2⟩ := keyBitL_eq (xs := r) (ys := s) (vs := vs) (us := us) ⟨by have := h1.len; simpa using this, fun j a b => by have := h1.rel (j + 1) (by simpa using a) (by simpa using b); simpa using this⟩ ⟨by have := h2.len; simpa using this, fun j a b => by have := h2.rel (j + 1) (by simpa using a) (by simpa using b); simpa using this⟩ h.2
        subst e; subst e2
        refine ⟨rfl, fun x hx => ?_⟩
        rcases List.mem_cons.1 hx with rfl | hx
        · exact k
        · exact k2 x hx
  | [], _ :: _, _, _, _, _, h => by simp [keyBitL] at h
  | _ :: _, [], _, _, _, _, h => by simp [keyBitL] at h

theorem sameBits_plain {n : Nat} {v : Value} (h : (∃ k n, v = .int k n) ∨ ∃ s, v = .string s) : Instr.sameBits n v v = true := by
  rcases h with ⟨k, m, rfl⟩ | ⟨s, rfl⟩ <;> cases n <;> simp [Instr.sameBits, beq_bytes]

theorem zip_self {n : Nat} : ∀ {vs : List Value}, (∀ v ∈ vs, (∃ k n, v = .int k n) ∨ ∃ s, v = .string s) → ((vs.zip vs).all fun (x, y) => Instr.sameBits n x y) = true
  | [], _ => rfl
  | v :: r, h => by
    simp only [List.zip_cons_cons, List.all_cons, Bool.and_eq_true]
    exact ⟨sameBits_plain (h v (by simp)), zip_self fun u hu => h u (by simp [hu])⟩

theorem keyBits_stays {a b : AV} {ca cb : Value} (ha : VR C w O B M a ca) (hb : VR C w O B M b cb) (h : keyBits a b = true) : (Instr.keyThatStays ca cb).run P w = .ok cb w := by
  have : Instr.sameBits (9999 + 1) ca cb = true := by
    unfold keyBits at h
    split at h
    · obtain ⟨vs, rfl, h1⟩ := ha.agg_cells
      obtain ⟨us, rfl, h2⟩ := hb.agg_cells
      obtain ⟨rfl, k⟩ := keyBitL_eq ⟨h1.len, h1.rel⟩ ⟨h2.len, h2.rel⟩ h
      have := zip_self (n := 9999) k
      simp only [Instr.sameBits, beq_self_eq_true, Bool.true_and]
      exact this
    · obtain ⟨rfl, k⟩ := keyBit_eq ha hb h
      exact sameBits_plain k
  unfold Instr.keyThatStays
  rw [show Instr.sameBits 10000 ca cb = true from this]
  rfl

theorem mUpdate_sound (hT : TyOk P C) {st st' : St} (hs : Sit C w O B M st.heap) {t : TypeId} {x k v : AV} {cx ck cv : Value} (hx : VR C w O B M x cx) (hk : VR C w O B M k ck) (hv : VR C w O B M v cv) (h : mUpdate C t x k v st = some st') :
    ∃ w', (Instr.mapUpdate t cx ck cv).run P w = .ok () w' ∧ Step C B true w O M st w' O M st' := by
  unfold mUpdate at h
  simp only [Option.bind_eq_some_iff] at h
  obtain ⟨d, hd, h⟩ := h
  have hu := hT.under hd
  split at h
  · rename_i kt et b
    simp only [Option.bind_eq_some_iff] at h
    obtain ⟨_, hf, ⟨ks, us, bs, clk⟩, hm, r, hr, h⟩ := h
    have hf := chk_some hf
    simp only [Bool.and_eq_true] at hf
    cases hx with
    | mref _ cb hM =>
      have hb := hmap_some hm
      obtain ⟨cb', base, hM', _, hrr⟩ := hs.own b _ hb
      rw [hM] at hM'
      obtain ⟨rfl, rfl⟩ := Prod.mk.inj (Option.some.inj hM')
      obtain ⟨_, es, hblk, hl⟩ := hrr.map_inv
      have hfind := findKey_sound (P := P) hT hk hf.1 hl hr
      have hck := checkKey_sound (P := P) (w := w) hT hk hf.1 false
      have hi := hl.to
      cases r with
      | none =>
        simp only [Option.some.injEq] at h
        subst h
        refine ⟨_, ?_, step_map hs hb hM hblk rfl (es' := es.push { key := ck, val := cv, born := clk }) (ck' := clk + 1) ?_⟩
        · simp [Instr.mapUpdate, run_underlying hu, run_getMap hblk, hck, hfind, hitOf, run_setMap _ hblk]
        · rw [Array.toList_push]
          exact hl.push (e := { key := ck, val := cv, born := clk }) hk hv rfl
      | some i =>
        simp only [Option.bind_eq_some_iff, Option.some.injEq] at h
        obtain ⟨e, he, _, hbits, rfl⟩ := h
        obtain ⟨h1, h2⟩ := getL_some he
        have hie : i < es.toList.length := by rw [← hi.lk]; exact h1
        have hie' : i < es.size := by simpa using hie
        have hke := hi.k i hie h1
        rw [h2] at hke
        have hst := keyBits_stays (P := P) hke hk (chk_some hbits)
        refine ⟨_, ?_, step_map hs hb hM hblk rfl (es' := es.modify i fun e => { e with key := ck, val := cv }) (ck' := clk) ?_⟩
        · rw [Array.getElem_toList] at hst
          simp [Instr.mapUpdate, run_underlying hu, run_getMap hblk, hck, hfind, hitOf, hie', hst, run_setMap _ hblk]
        · have e1 : (es.modify i fun e => { e with key := ck, val := cv }).toList = es.toList.modify i fun e => { e with key := ck, val := cv } := by simp
          rw [e1]
          exact hl.set hk hv i
  · cases h

theorem mDelete_sound (hT : TyOk P C) {st st' : St} (hs : Sit C w O B M st.heap) {t ty : TypeId} {ts : Array TypeId} (h0 : ts[0]? = some t) {x k v : AV} {cx ck : Value} (hx : VR C w O B M x cx) (hk : VR C w O B M k ck) (h : mDelete C t x k st = some (v, st')) :
    ∃ cv w', (Builtin.delete_ ts ty #[cx, ck]).run P w = .ok cv w' ∧ VR C w' O B M v cv ∧ Step C B true w O M st w' O M st' := by
  unfold mDelete at h
  simp only [Option.bind_eq_some_iff] at h
  obtain ⟨d, hd, h⟩ := h
  have hu := hT.under hd
  split at h
  · rename_i kt et b
    simp only [Option.bind_eq_some_iff] at h
    obtain ⟨_, hf, ⟨ks, us, bs, clk⟩, hm, r, hr, h⟩ := h
    have hf := chk_some hf
    cases hx with
    | mref _ cb hM =>
      have hb := hmap_some hm
      obtain ⟨cb', base, hM', _, hrr⟩ := hs.own b _ hb
      rw [hM] at hM'
      obtain ⟨rfl, rfl⟩ := Prod.mk.inj (Option.some.inj hM')
      obtain ⟨_, es, hblk, hl⟩ := hrr.map_inv
      have hfind := findKey_sound (P := P) hT hk hf hl hr
      have hck := fun b => checkKey_sound (P := P) (w := w) hT hk hf b
      have hi := hl.to
      cases r with
      | none =>
        simp only [Option.some.injEq, Prod.mk.injEq] at h
        obtain ⟨rfl, rfl⟩ := h
        refine ⟨.tuple #[], _, ?_, .tup [] [] rfl (fun j h => by cases h), step_map hs hb hM hblk rfl (es' := es) (ck' := clk) hl⟩
        simp [Builtin.delete_, h0, run_underlying hu, run_getMap hblk, hck, hfind, hitOf, run_setMap _ hblk]
      | some i =>
        simp only [Option.some.injEq, Prod.mk.injEq] at h
        obtain ⟨rfl, rfl⟩ := h
        obtain ⟨_, hlt⟩ := mfind_lt hr
        have hie' : i < es.size := by rw [hi.lk] at hlt; simpa using hlt
        refine ⟨.tuple #[], _, ?_, .tup [] [] rfl (fun j h => by cases h), step_map hs hb hM hblk rfl (es' := es.eraseIdxIfInBounds i) (ck' := clk) ?_⟩
        · simp [Builtin.delete_, h0, run_underlying hu, run_getMap hblk, hck, hfind, hitOf, hie', run_setMap _ hblk]
        · have e1 : (es.eraseIdxIfInBounds i).toList = es.toList.eraseIdx i := by
            unfold Array.eraseIdxIfInBounds
            rw [dif_pos hie', Array.toList_eraseIdx]
          rw [e1]
          exact hl.erase i
  · cases h

end
end Go.Ev
namespace Go.Ev
open Go

section
variable {P : Program} {C : Ctx} {w : World} {O B : Nat → Prop} {M : MapB} {H : Heap}

/-- A NEW MAP. -/
theorem step_newMap {serial : Bool} {st : St} (hs : Sit C w O B M st.heap) (hn : M st.nxt = none) {ks us : List AV} {bs : List Nat} {ck : Nat} {es : Array MapEntry} (hl : EL (VR C w O B M) ks us bs es.toList) :
    VR C (w.alloc (.map es ck)) (fun b => O b ∨ b = w.heap.size) B (upd M st.nxt (w.heap.size, 0)) (.mref st.nxt) (.map (some w.heap.size)) ∧
    Step C B serial w O M st (w.alloc (.map es ck)) (fun b => O b ∨ b = w.heap.size) (upd M st.nxt (w.heap.size, 0)) (st.new (.map ks us bs ck)) := by
  have hnew := heap_alloc_new w (.map es ck)
  have hx : Ext w O M (w.alloc (.map es ck)) (fun b => O b ∨ b = w.heap.size) (upd M st.nxt (w.heap.size, 0)) := Ext.alloc _ hn 0
  exact ⟨.mref _ _ (by simp [upd]), Step.new hs _ hn (.mk_map hnew (hl.mono fun a b h => h.mono hx))⟩

theorem isInt_some {t : TypeId} (h : isInt C t = true) : ∃ k, C.desc t = some (.int k) := by
  unfold isInt at h
  split at h
  · rename_i k hd; exact ⟨k, hd⟩
  · cases h

theorem freeze_alloc (w : World) (c : Array Value) (e : TypeId) : (w.alloc (.cells c e)).freeze { block := w.heap.size, off := c.size } 1 = w.alloc (.cells c e (c.size, c.size + 1)) := by
  unfold World.freeze
  rw [if_neg (by decide)]
  unfold World.alloc
  congr 1
  apply Array.ext
  · simp
  · intro j h1 h2
    rw [Array.getElem_modify]
    by_cases e : j = w.heap.size
    · subst e; simp
    · rw [if_neg (fun h => e h.symm)]
      have hj : j < w.heap.size := by simp at h1; omega
      simp [Array.getElem_push, hj]

theorem run_chooseD {q : Question} (h : q.forced = false) : (choose q).run P w = .ok (q.cut (w.tape w.drawn q)) w.drew := by simp [run_choose, h]; try rfl
theorem run_newObjA (o : Obj) : (newObj o).run P w = .ok w.heap.size (w.alloc o) := rfl

theorem run_stringToBytes (e : TypeId) (s : ByteArray) : ∃ cap rest, (Conv.stringToBytes e s).run P w = .ok (.slice (some ⟨w.heap.size, 0, none⟩) s.size cap) (w.drew.alloc (.cells ((byteCells s) ++ rest).toArray e (((byteCells s) ++ rest).length, ((byteCells s) ++ rest).length + 1))) ∧
    s.size ≤ cap ∧ ((byteCells s) ++ rest).length = cap := by
  have hq : (Question.appendCap s.size 0 e).forced = false := rfl
  have hge : s.size ≤ (Question.appendCap s.size 0 e).cut (w.tape w.drawn (.appendCap s.size 0 e)) := Nat.le_add_right _ _
  generalize hc : (Question.appendCap s.size 0 e).cut (w.tape w.drawn (.appendCap s.size 0 e)) = cap at hge
  refine ⟨cap, List.replicate (cap - s.size) (.int .u8 0), ?_, hge, by simp [byteCells]; show s.data.size + _ = _; have : s.data.size = s.size := rfl; omega⟩
  have e1 : (s.data.map fun b => Value.int .u8 b.toNat) ++ Array.replicate (cap - s.size) (.int .u8 0) = (byteCells s ++ List.replicate (cap - s.size) (Value.int .u8 0)).toArray := by
    apply Array.ext'
    simp [byteCells]
  have hsh : (w.drew.alloc (.cells (byteCells s ++ List.replicate (cap - s.size) (Value.int .u8 0)).toArray e)).shape? w.drew.heap.size = some (e, (byteCells s ++ List.replicate (cap - s.size) (Value.int .u8 0)).length) := by
    unfold World.shape?
    rw [heap_alloc_new]
    simp
  have hfz := freeze_alloc w.drew (byteCells s ++ List.replicate (cap - s.size) (Value.int .u8 0)).toArray e
  simp only [List.size_toArray] at hfz
  have hsz : w.drew.heap.size = w.heap.size := rfl
  rw [hsz] at hsh hfz
  simp only [Conv.stringToBytes, Sem.run_bind, run_chooseD hq, Result.andThen_ok, hc, e1, newRow, run_newObjA, Sem.run_pure, markStringish, run_shape, hsz, hsh]
  show Result.andThen (Result.ok () ((w.drew.alloc (.cells (byteCells s ++ List.replicate (cap - s.size) (Value.int .u8 0)).toArray e)).freeze { block := w.heap.size, off := (byteCells s ++ List.replicate (cap - s.size) (Value.int .u8 0)).length } 1)) _ = _
  rw [hfz]
  rfl

theorem mBytes_sound (hT : TyOk P C) {serial : Bool} {st st' : St} (hs : Sit C w O B M st.heap) (hn : M st.nxt = none) {src dst e : TypeId} {s : List UInt8} {v : AV} {cx : Value} (hd : C.desc dst = some (.slice e)) (hx : VR C w O B M (.str s) cx) (h : mBytes C src e s st = some (v, st')) :
    ∃ cv w' O' M', (convert src dst cx).run P w = .ok cv w' ∧ VR C w' O' B M' v cv ∧ Step C B serial w O M st w' O' M' st' := by
  unfold mBytes at h
  simp only [Option.bind_eq_some_iff] at h
  obtain ⟨sd, hsd, i, hi, h⟩ := h
  obtain ⟨h1, h2⟩ := hT.ty e i hi
  split at h
  · rename_i hde
    simp only [Option.bind_eq_some_iff, Option.some.injEq, Prod.mk.injEq] at h
    obtain ⟨_, hsz, rfl, rfl⟩ := h
    have hsz := (beq_iff _ _).1 (chk_some hsz)
    rw [hde] at h1
    obtain ⟨bs, rfl, rfl⟩ := hx.str_inv
    have hus := hT.under hsd
    have hud := hT.under hd
    obtain ⟨cap, rest, hrun, hge, hfull⟩ := run_stringToBytes (P := P) (w := w) e bs
    have hcr : CR C w O B M (bs.data.toList.map fun c => AV.int .u8 c.toNat) (byteCells bs) := ⟨by simp [byteCells], fun j hj => by simp [AV.isCell], fun j hj h' => by simp [byteCells]; exact .int _ _⟩
    have hx : Ext w.drew O M (w.drew.alloc (.cells ((byteCells bs) ++ rest).toArray e (((byteCells bs) ++ rest).length, ((byteCells bs) ++ rest).length + 1))) (fun b => O b ∨ b = w.drew.heap.size) (upd M st.nxt (w.drew.heap.size, 0)) := Ext.alloc _ hn 0
    have hnew := heap_alloc_new w.drew (.cells ((byteCells bs) ++ rest).toArray e (((byteCells bs) ++ rest).length, ((byteCells bs) ++ rest).length + 1))
    have hd8 : C.desc e = some (.int .u8) := by unfold Ctx.desc; unfold Ctx.ti at hi; rw [hi]; simp [hde]
    have hlb : (byteCells bs).length = bs.data.toList.length := by simp [byteCells]
    have hst : Step C B serial w.drew O M st _ _ _ (st.new (.cells e (bs.data.toList.map fun c => AV.int .u8 c.toNat))) := Step.new hs.drew _ hn (.ofCRf hnew (.inr ⟨by simp, hd8⟩) (by simp [byteCells]) (by
      have e1 : (((byteCells bs ++ rest).toArray.toList.drop 0).take (bs.data.toList.map fun c => AV.int .u8 c.toNat).length) = byteCells bs := by simp [byteCells]
      rw [e1]
      exact hcr.mono (Ext.toDrew.trans hx)))
    refine ⟨.slice (some ⟨w.heap.size, 0, none⟩) bs.size cap, _, _, _, ?_, ?_, hst.undrew⟩
    · have : (convert src dst (.string bs)).run P w = (Conv.stringToBytes e bs).run P w := by
        cases sd <;> simp [convert, run_underlying hus, run_underlying hud, run_underlying h1]
      rw [this]
      exact hrun
    · have := VR.sref (C := C) (w := w.drew.alloc (.cells ((byteCells bs) ++ rest).toArray e (((byteCells bs) ++ rest).length, ((byteCells bs) ++ rest).length + 1))) (O := fun b => O b ∨ b = w.drew.heap.size) (B := B) (M := upd M st.nxt (w.drew.heap.size, 0)) st.nxt 0 bs.data.toList.length none w.drew.heap.size 0 cap e i _ _
        (by simp [upd]) hnew hi (by simpa using hge) (by rw [List.size_toArray, hfull, hsz]; omega) (fun k hk => by cases hk) (fun _ => by rw [List.size_toArray, hfull, hsz]; omega)
      simpa using this
  · cases h

theorem mAppendZ_sound (hT : TyOk P C) {serial : Bool} {st st' : St} (hs : Sit C w O B M st.heap) (hn : M st.nxt = none) {t t2 ty : TypeId} {s x v : AV} {cs cx : Value} (hi2 : isInt C t2 = true) (hsv : VR C w O B M s cs) (hxv : VR C w O B M x cx) (h : mAppendZ C t s x st = some (v, st')) :
    ∃ cv w' O' M', (Builtin.append_ #[t, t2] ty #[cs, cx]).run P w = .ok cv w' ∧ VR C w' O' B M' v cv ∧ Step C B serial w O M st w' O' M' st' := by
  obtain ⟨k2, hd2⟩ := isInt_some hi2
  have hu2 := hT.under hd2
  unfold mAppendZ at h
  simp only [Option.bind_eq_some_iff] at h
  obtain ⟨e, hte, i, hie, z, hz, _, hpos, n, hnx, h⟩ := h
  have hpos : 0 < i.info.size := by simpa using chk_some hpos
  obtain ⟨zv, hz1, hz2, hz3, hz4, hz5⟩ := zero_some hz
  obtain ⟨h1, h2⟩ := hT.ty e i hie
  have hut := hT.elem hte
  obtain ⟨k1, rfl, hn4⟩ := asNat_sound hxv hnx
  have hw : IntKind.i64.wrap (n : Int) = n := wrap_nat (by omega)
  split at h
  · cases hsv
    cases hb : Nat.beq n 0 with
    | true =>
      rw [hb] at h
      obtain rfl := (beq_iff _ _).1 hb
      simp only [cond_true, Option.some.injEq, Prod.mk.injEq] at h
      obtain ⟨rfl, rfl⟩ := h
      refine ⟨.slice none 0 0, w, O, M, ?_, .snil, .refl hs⟩
      have hw0 : IntKind.i64.wrap 0 = 0 := by decide
      simp [Builtin.append_, hw0, run_underlying hut, run_underlying hu2, sizeOf, typeInfo, h2, asInt, asIntOf]
    | false =>
      rw [hb] at h
      simp only [cond_false, Option.bind_eq_some_iff, Option.some.injEq, Prod.mk.injEq] at h
      obtain ⟨_, hroom, rfl, rfl⟩ := h
      obtain ⟨hr1, hr2⟩ := room_some (chk_some hroom)
      have hn0 : n ≠ 0 := fun e => by rw [e] at hb; cases hb
      have hge := grownCap_ge w n 0 e
      have hrep := (hz5 C w O B M).repl n
      have hrl := rep_length n z.cells
      have hzc : ∀ m, (Builtin.zeroCells zv.cells m).toList = (List.replicate m zv.cells.toList).flatten := fun m => by
        have := rep_mod m zv.cells
        simp only [Builtin.zeroCells]
        rw [this]
      have hst := step_row (serial := serial) (st := st) hs.drew hn hie (hrep.mono Ext.toDrew) (List.replicate (grownCap w n 0 e - n) zv.cells.toList).flatten (len := n) (cap := grownCap w n 0 e) none hge (by
        simp only [List.length_append, List.length_flatten, List.map_replicate, List.sum_replicate_nat, Array.length_toList, hz4]
        rw [← Nat.add_mul]; congr 1; omega) (fun k hk => by cases hk)
      refine ⟨_, _, _, _, ?_, hst.1, hst.2.undrew⟩
      have hb1 : ¬ ((n : Int) < 0) := by omega
      have hb2 : ¬ (281474976710656 < (n : Int) * (i.info.bytes : Int)) := by
        have : (n : Int) * (i.info.bytes : Int) = ((n * i.info.bytes : Nat) : Int) := by simp
        rw [this]; omega
      have h63 : ¬ (9223372036854775807 < (n : Int)) := by omega
      have h48 : ¬ (281474976710656 < Builtin.nextslicecap n 0 * i.info.bytes) := by rw [nextslicecap_zero (by omega)]; omega
      have hns : ¬ (n = 0 ∨ i.info.size = 0) := by omega
      have hbytes : ¬ (9223372036854775807 < (n : Int) ∧ (True ∨ i.info.bytes = 0)) := by omega
      simp only [Builtin.append_, List.getElem?_toArray, List.getElem?_cons_zero, List.getElem?_cons_succ]
      simp [run_underlying hut, run_underlying hu2, sizeOf, typeInfo, h2, asInt, asIntOf, hw, hb1, hb2, hn0, h63, h48, zeroValue, hz1, Question.forced, newRow, Builtin.firstCells]
      have hmul : ¬ (n * i.info.size = 0) := fun e => (Nat.mul_eq_zero.1 e).elim hn0 (by omega)
      rw [if_neg hmul]
      show Result.ok _ _ = Result.ok _ _
      congr 2
      congr 1
      apply Array.ext'
      rw [Array.toList_append, hzc, hzc]
      rfl
  · cases h

end
end Go.Ev
