/- A PART OF THE PROOF THAT WORKMAKES HOLDS FOR EVERY INPUT OF BULK AT MOST 1048576. No condition beyond the given statement. This part: WStab6. -/
import Derived.Test.YthodcfgoeffbdaaGreatDoorWStab5
import Derived.Shelf.SlSortCmp.WholeK
import Derived.Test.YthodcfgoeffbdaaGreatDoorWShelf
namespace Go.Proofs.W
open Go Go.Proofs Go.Shelf Go.RowKit Go.Lib Go.Sort
set_option maxRecDepth 1000000
set_option linter.unusedSectionVars false
variable {α : Type} [Inhabited α]

set_option maxHeartbeats 16000000 in
/-- slices.stableCmpFunc: the row is permuted (hins: the insertion sort's word, from a world of the sort's to one) -/
theorem stableCmp {P : Program} {k : Nat} (L : Stab P k) (enc : α → List Value) (cf : α → α → Int) (g : Nat) (cb : Array Value) (blk off cap : Nat) (d0 : Array α) (w0 : World)
    (eg : ∀ args w, (callFunc g args).run P w = .ok (.enter g args) w) (hcmp : CmpLays P g cb enc k cf blk off d0.size w0)
    (R : RowK enc k w0 blk off d0) (hsz : d0.size < 1152921504606846976)
    (e3 : ∀ args w, (callFunc 111 args).run P w = .ok (.enter 111 args) w)
    (hins : ∀ (a b : Nat) (d : Array α) (w : World), d.size = d0.size → SWK enc k w0 blk off d w → a ≤ b → b ≤ d0.size → Calls P 111 #[.slice (some ⟨blk, off, none⟩) d0.size cap, .int .i64 a, .int .i64 b, .func (.func g) #[] cb] w fun e w' => e = .returned (.tuple #[]) ∧ ∃ d', PermA d d' ∧ SWK enc k w0 blk off d' w')
    (w : World) (S : SWK enc k w0 blk off d0 w) :
    Calls P 60 #[.slice (some ⟨blk, off, none⟩) d0.size cap, .int .i64 d0.size, .func (.func g) #[] cb] w fun e w' => e = .returned (.tuple #[]) ∧ ∃ d', PermA d0 d' ∧ SWK enc k w0 blk off d' w' := by
  have hsm : ∀ (a m b : Nat) (d : Array α) (w : World), d.size = d0.size → SWK enc k w0 blk off d w → a < m → m < b → b ≤ d0.size → Calls P 112 #[.slice (some ⟨blk, off, none⟩) d0.size cap, .int .i64 a, .int .i64 m, .int .i64 b, .func (.func g) #[] cb] w fun e w' => e = .returned (.tuple #[]) ∧ ∃ d', PermA d d' ∧ SWK enc k w0 blk off d' w' :=
    fun a m b d w h1 h2 h3 h4 h5 => symMerge L enc cf g cb blk off cap d0 w0 eg hcmp R (by omega) (b - a) a m b d w (Nat.le_refl _) h1 h2 h3 h4 h5
  have mixed := L.mixed; have t3 := L.t3; have a3 := L.a3; have z3 := L.z3; have v3 := L.v3; have t4 := L.t4; have a4 := L.a4; have z4 := L.z4; have v4 := L.v4; have t22 := L.t22; have a22 := L.a22; have z22 := L.z22; have v22 := L.v22
  have FG := L.stable
  have e2 : ∀ args w, (callFunc 112 args).run P w = .ok (.enter 112 args) w := enters_of L.symMerge (by kernel_rfl) rfl
  have S0 : Aside (SWK enc k w0 blk off d0 w) := S
  have HI : Aside _ := hins
  have HM : Aside _ := hsm
  have HZ : Hid (d0.size < 1152921504606846976) := hsz
  clear S hcmp hins hsm
  go_enter FG, Tryz.ntmps60
  go_wp2
  go_loopg [7, 8] d0.size (fun kx s7 s8 wr => ∃ (i : Nat) (dk : Array α), s7 = .int .i64 i ∧ s8 = .int .i64 ((i : Int) + 20) ∧ i ≤ d0.size ∧ d0.size - i ≤ kx ∧ dk.size = d0.size ∧ Aside (SWK enc k w0 blk off dk wr) ∧ Aside (PermA d0 dk))
  case atStart => exact ⟨0, d0, rfl, rfl, Nat.zero_le _, by omega, rfl, S0, PermA.refl d0⟩
  case round =>
    clear S0
    obtain ⟨i, dk, rfl, rfl, hi, hkx, hs, S1, PP⟩ := hrel
    by_cases hlt : i + 20 ≤ d0.size
    · have hltz : (i : Int) + 20 ≤ (d0.size : Int) := by omega
      have hin := HI.out i (i + 20) dk wr hs S1.out (by omega) hlt
      rw [Int.natCast_add] at hin
      go_wp2_with (first | (go_at_fn 111; refine Calls.mono hin ?_; rintro e w' ⟨rfl, d', hp, hS⟩))
      go_roundg (d0.size - (i + 20))
      case measure => omega
      case rel => exact ⟨i + 20, d', by go_num, by go_num, hlt, Nat.le_refl _, hp.size.trans hs, hS, PP.out.trans hp⟩
    · have hltz : ¬ (i : Int) + 20 ≤ (d0.size : Int) := by omega
      have hin := HI.out i d0.size dk wr hs S1.out hi (Nat.le_refl _)
      go_wp2_with (first | (go_at_fn 111; refine Calls.mono hin ?_; rintro e w' ⟨rfl, d1, hp, hS⟩))
      replace PP : Aside (PermA _ _) := PP.out.trans hp
      replace hs := hp.size.trans hs
      replace S1 : Aside _ := hS
      clear hp hS hin hltz hlt hkx
      go_loopg [6] d0.size (fun kx s6 wr => ∃ (bs : Nat) (dk : Array α), s6 = .int .i64 bs ∧ 0 < bs ∧ d0.size - bs ≤ kx ∧ dk.size = d0.size ∧ Aside (SWK enc k w0 blk off dk wr) ∧ Aside (PermA d0 dk))
      case atStart => exact ⟨20, d1, rfl, by omega, by omega, hs, S1, PP⟩
      case round =>
        clear S1 PP hs
        obtain ⟨bs, dm, rfl, hb0, hkx, hs, S1, PP⟩ := hrel
        by_cases hlt : bs < d0.size
        · have hltz : (bs : Int) < (d0.size : Int) := by omega
          go_wp2
          go_loopg [7, 8] d0.size (fun kx s7 s8 wr => ∃ (i : Nat) (dk : Array α), s7 = .int .i64 i ∧ s8 = .int .i64 ((i : Int) + 2 * (bs : Int)) ∧ i ≤ d0.size ∧ d0.size - i ≤ kx ∧ dk.size = d0.size ∧ Aside (SWK enc k w0 blk off dk wr) ∧ Aside (PermA d0 dk))
          case atStart => exact ⟨0, dm, rfl, by go_num, Nat.zero_le _, by omega, hs, S1, PP⟩
          case round =>
            clear S1 PP hs
            obtain ⟨i, dk, rfl, rfl, hi, hkx2, hs, S1, PP⟩ := hrel
            by_cases hl2 : i + 2 * bs ≤ d0.size
            · have hl2z : (i : Int) + 2 * (bs : Int) ≤ (d0.size : Int) := by omega
              have hin := HM.out i (i + bs) (i + 2 * bs) dk wr hs S1.out (by omega) (by omega) hl2
              push_cast at hin
              go_wp2_with (first | (go_at_fn 112; refine Calls.mono hin ?_; rintro e w' ⟨rfl, d', hp, hS⟩))
              go_roundg (d0.size - (i + 2 * bs))
              case measure => omega
              case rel => exact ⟨i + 2 * bs, d', by go_num, by go_num, hl2, Nat.le_refl _, hp.size.trans hs, hS, PP.out.trans hp⟩
            · have hl2z : ¬ (i : Int) + 2 * (bs : Int) ≤ (d0.size : Int) := by omega
              by_cases hl3 : i + bs < d0.size
              · have hl3z : (i : Int) + (bs : Int) < (d0.size : Int) := by omega
                have hin := HM.out i (i + bs) d0.size dk wr hs S1.out (by omega) hl3 (Nat.le_refl _)
                push_cast at hin
                go_wp2_with (first | (go_at_fn 112; refine Calls.mono hin ?_; rintro e w' ⟨rfl, d', hp, hS⟩))
                go_roundg (d0.size - bs * 2)
                case measure => omega
                case rel => exact ⟨bs * 2, d', by go_num, by omega, Nat.le_refl _, hp.size.trans hs, hS, PP.out.trans hp⟩
              · have hl3z : ¬ (i : Int) + (bs : Int) < (d0.size : Int) := by omega
                go_wp2
                go_roundg (d0.size - bs * 2)
                case measure => omega
                case rel => exact ⟨bs * 2, dk, by go_num, by omega, Nat.le_refl _, hs, S1, PP⟩
        · have hltz : ¬ (bs : Int) < (d0.size : Int) := by omega
          go_wp2
          go_end0
          exact ⟨rfl, dm, PP.out, S1.out⟩

/-- slices.SortStableFunc at files: the row is permuted -/
theorem sortStable {P : Program} {k : Nat} (L : Stab P k) (enc : α → List Value) (cf : α → α → Int) (g : Nat) (cb : Array Value) (blk off cap : Nat) (d0 : Array α) (w0 : World)
    (eg : ∀ args w, (callFunc g args).run P w = .ok (.enter g args) w) (hcmp : CmpLays P g cb enc k cf blk off d0.size w0)
    (R : RowK enc k w0 blk off d0) (hsz : d0.size < 1152921504606846976)
    (e3 : ∀ args w, (callFunc 111 args).run P w = .ok (.enter 111 args) w)
    (hins : ∀ (a b : Nat) (d : Array α) (w : World), d.size = d0.size → SWK enc k w0 blk off d w → a ≤ b → b ≤ d0.size → Calls P 111 #[.slice (some ⟨blk, off, none⟩) d0.size cap, .int .i64 a, .int .i64 b, .func (.func g) #[] cb] w fun e w' => e = .returned (.tuple #[]) ∧ ∃ d', PermA d d' ∧ SWK enc k w0 blk off d' w') :
    Calls P 23 #[.slice (some ⟨blk, off, none⟩) d0.size cap, .func (.func g) #[] cb] w0 fun e w' => e = .returned (.tuple #[]) ∧ ∃ d', PermA d0 d' ∧ SWK enc k w0 blk off d' w' := by
  have hst := stableCmp L enc cf g cb blk off cap d0 w0 eg hcmp R hsz e3 hins w0 (SWK.start R.hH)
  have mixed := L.mixed; have t3 := L.t3; have a3 := L.a3; have z3 := L.z3; have v3 := L.v3; have t22 := L.t22; have a22 := L.a22; have z22 := L.z22; have v22 := L.v22
  have FG := L.sort
  have e2 : ∀ args w, (callFunc 60 args).run P w = .ok (.enter 60 args) w := enters_of L.stable (by kernel_rfl) rfl
  clear hins hcmp
  go_enter FG, Tryz.ntmps23
  go_wp2_with (first | (go_at_fn 60; refine Calls.mono hst ?_; rintro e w' ⟨rfl, d', hp, hS⟩))
  go_end0
  exact ⟨rfl, d', hp, hS⟩
end Go.Proofs.W
namespace Go.Proofs.W
open Go Go.Proofs Go.Shelf Go.RowKit Go.Lib Go.Sort
set_option maxRecDepth 1000000

/-- a file whose path is of a size that paths have -/
def FileK : Type := { f : FileV // f.path.size < 4294967281 }
instance : Inhabited FileK := ⟨⟨⟨ByteArray.empty, false, [], none, 0⟩, by show ByteArray.empty.size < _; decide⟩⟩
def FileK.enc (x : FileK) : List Value := x.1.cells
def FileK.cf (x y : FileK) : Int := orderP x.1.path y.1.path
theorem FileK.swo : SWO (ltOf FileK.cf) := by
  have hl : ∀ x y : FileK, ltOf FileK.cf x y = pathLess x.1.path y.1.path := fun x y => by
    unfold ltOf FileK.cf
    have := orderP_neg x.1.path y.1.path
    cases h : pathLess x.1.path y.1.path with
    | true => exact decide_eq_true (this.2 h)
    | false => exact decide_eq_false fun e => by rw [this.1 e] at h; cases h
  constructor
  · intro x; rw [hl]; exact pathLess_irr _
  · intro x y z h1 h2; rw [hl] at *; exact pathLess_tr h1 h2
  · intro x y z h1 h2
    rw [hl] at *
    cases h : pathLess x.1.path z.1.path with
    | false => rfl
    | true =>
      cases h3 : pathLess y.1.path x.1.path with
      | true => rw [pathLess_tr h3 h] at h2; cases h2
      | false => rw [pathLess_tri h1 h3] at h; rw [h] at h2; cases h2

theorem cell?_swk {α : Type} [Inhabited α] {enc : α → List Value} {k : Nat} (W : World) (blk off n : Nat) (dk : Array α) (os : Array Obj) (a : Addr) (h1 : a.block ≠ blk) (h2 : a.block < W.heap.size) : (sortWorldK enc k W blk off n dk os).cell? a = W.cell? a := by
  unfold sortWorldK
  rw [cell?_grow _ _ _ (by rw [size_putRowK]; exact h2), cell?_putRowK_other _ _ _ _ _ _ _ h1]
  rfl
theorem HasM.swk {α : Type} [Inhabited α] {enc : α → List Value} {k : Nat} {w : World} (h : HasM w) (blk off n : Nat) (dk : Array α) (os : Array Obj) (hne : 2 ≠ blk) : HasM (sortWorldK enc k w blk off n dk os) := by
  obtain ⟨m, h1, h2⟩ := h
  refine ⟨m, (cell?_swk w blk off n dk os _ hne h2).trans h1, ?_⟩
  unfold sortWorldK
  rw [size_grow, size_putRowK]
  exact Nat.lt_of_lt_of_le h2 (Nat.le_add_right _ _)
theorem order_lays (w : World) (hm : HasM w) (blk off size : Nat) (hne : 2 ≠ blk) : CmpLays Tryz.prog 24 #[] FileK.enc 3 FileK.cf blk off size w := by
  intro m os dk _ x y
  exact (tree_order x.1 y.1 _ x.2 y.2 (hm.swk blk off m dk os hne)).grows


theorem sortFiles (blk off cap : Nat) (d0 : Array FileK) (w0 : World) (hm : HasM w0) (hne : 2 ≠ blk) (hH : HoldsK FileK.enc 3 w0 blk off d0) (hblk : blk < w0.heap.size) (hsz : d0.size < 1152921504606846976) :
    Calls Tryz.prog 23 #[.slice (some ⟨blk, off, none⟩) d0.size cap, .func (.func 24) #[] #[]] w0 fun e w' => e = .returned (.tuple #[]) ∧ ∃ d', PermA d0 d' ∧ SWK FileK.enc 3 w0 blk off d' w' := by
  have R : RowK FileK.enc 3 w0 blk off d0 := ⟨fun x => fileCells_len x.1, fun x => fileCells_one x.1, hH, hblk⟩
  refine sortStable stab FileK.enc FileK.cf 24 #[] blk off cap d0 w0 order_enters (order_lays w0 hm blk off _ hne) R hsz (enters_of Tryz.func111 (by kernel_rfl) rfl) fun a b d w hs S hab hb => ?_
  have h := AnyQ.insertionSortCmpFunc_w Tryz.insLays 3 (fun w => by kernel_rfl) (fun w => by kernel_rfl) FileK.enc FileK.cf 24 #[] blk off cap a b d0 d w0 w order_enters (order_lays w0 hm blk off _ hne) R hs.symm S FileK.swo hab (by omega) (by omega)
  rw [hs] at h
  exact h.mono fun e w' ⟨h1, h2⟩ => ⟨h1, _, PermA.ofIn (insertionSort_holds FileK.swo d a b hab (by omega)).1 (by omega), h2⟩
end Go.Proofs.W
