/- A PART OF THE PROOF THAT WORKMAKES HOLDS FOR EVERY INPUT OF BULK AT MOST 1048576. No condition beyond the given statement. This part: WStab5. -/
import Derived.Test.YthodcfgoeffbdaaGreatDoorWStab1
namespace Go.Proofs.W
open Go Go.Proofs Go.Shelf Go.RowKit Go.Lib Go.Sort
set_option maxRecDepth 1000000
set_option linter.unusedSectionVars false
variable {α : Type} [Inhabited α]

set_option maxHeartbeats 16000000 in
theorem symMerge {P : Program} {k : Nat} (L : Stab P k) (enc : α → List Value) (cf : α → α → Int) (g : Nat) (cb : Array Value) (blk off cap : Nat) (d0 : Array α) (w0 : World)
    (eg : ∀ args w, (callFunc g args).run P w = .ok (.enter g args) w) (hcmp : CmpLays P g cb enc k cf blk off d0.size w0)
    (R : RowK enc k w0 blk off d0) (hsz : d0.size < 4611686018427387904) : ∀ (n a m b : Nat) (d : Array α) (w : World), b - a ≤ n → d.size = d0.size → SWK enc k w0 blk off d w → a < m → m < b → b ≤ d0.size →
    Calls P 112 #[.slice (some ⟨blk, off, none⟩) d0.size cap, .int .i64 a, .int .i64 m, .int .i64 b, .func (.func g) #[] cb] w fun e w' => e = .returned (.tuple #[]) ∧ ∃ d', PermA d d' ∧ SWK enc k w0 blk off d' w' := by
  intro n
  induction n with
  | zero => intro a m b d w h1 _ _ h2 h3; omega
  | succ n ih =>
    intro a m b d w hn hs S ha hm hb
    by_cases c1 : m = a + 1
    · have := symMerge1 L enc cf g cb blk off cap a m b d0 d w0 w eg (by rw [hs]; exact hcmp) R hs.symm S c1 hm (by omega) (by omega)
      rwa [hs] at this
    by_cases c2 : b = m + 1
    · have := symMerge2 L enc cf g cb blk off cap a m b d0 d w0 w eg (by rw [hs]; exact hcmp) R hs.symm S (by omega) c2 (by omega) (by omega)
      rwa [hs] at this
    have mixed := L.mixed; have t3 := L.t3; have a3 := L.a3; have z3 := L.z3; have v3 := L.v3; have t4 := L.t4; have a4 := L.a4; have z4 := L.z4; have v4 := L.v4; have t22 := L.t22; have a22 := L.a22; have z22 := L.z22; have v22 := L.v22; have aE := L.aE; have zE := L.zE; have t5 := L.t5; have a5 := L.a5; have z5 := L.z5; have v5 := L.v5
    have FG := L.symMerge
    have e1 : ∀ args w, (callFunc 165 args).run P w = .ok (.enter 165 args) w := enters_of L.rotate (by kernel_rfl) rfl
    have e2 : ∀ args w, (callFunc 112 args).run P w = .ok (.enter 112 args) w := enters_of L.symMerge (by kernel_rfl) rfl
    have S0 : Aside (SWK enc k w0 blk off d w) := S
    have HC : Aside (CmpLays P g cb enc k cf blk off d0.size w0) := hcmp
    have IH : Aside _ := ih
    obtain ⟨mid, hmd⟩ : ∃ mid, mid = (a + b) / 2 := ⟨_, rfl⟩
    have hmi : ((a : Int) + (b : Int)) / 2 = (mid : Int) := by omega
    have hm1 : a < mid := by omega
    have hm2 : mid < b := by omega
    have hm3 : a + b ≤ mid + mid + 1 := by omega
    have hm4 : mid + mid ≤ a + b := by omega
    have hma : ¬ (m : Int) - (a : Int) = 1 := by omega
    have hbm : ¬ (b : Int) - (m : Int) = 1 := by omega
    have hmaB : Hid (((m : Int) - (a : Int) == 1) = false) := by show _ = _; rw [beq_eq_false_iff_ne]; omega
    have hbmB : Hid (((b : Int) - (m : Int) == 1) = false) := by show _ = _; rw [beq_eq_false_iff_ne]; omega
    clear S hcmp ih c1 c2 hmd
    go_enter FG, Tryz.ntmps112
    by_cases hgt : mid < m
    all_goals
      have hgz : ((mid : Int) < (m : Int)) = (mid < m) := by simp
      go_wp2
      clear hma hbm hmi hgz
      try simp only [hmaB.out]
      try simp only [hbmB.out]
      go_loopg [20, 21] b (fun kx s20 s21 wr => ∃ (i j : Nat), s20 = .int .i64 i ∧ s21 = .int .i64 j ∧ a ≤ i ∧ i ≤ j ∧ j ≤ m ∧ j ≤ mid ∧ mid + m ≤ b + i ∧ j - i ≤ kx ∧ Aside (SWK enc k w0 blk off d wr))
      case atStart => first | exact ⟨mid + m - b, mid, by go_num, rfl, by omega, by omega, by omega, by omega, by omega, by omega, S0⟩ | exact ⟨a, m, rfl, rfl, by omega, by omega, by omega, by omega, by omega, by omega, S0⟩
      case round =>
        clear S0
        obtain ⟨i, j, rfl, rfl, hi, hij, hjm, hjd, him, hkx, S1⟩ := hrel
        by_cases hlt : i < j
        · obtain ⟨h, hh⟩ : ∃ h, h = (i + j) / 2 := ⟨_, rfl⟩
          have hltz : (i : Int) < (j : Int) := by omega
          have hmi : ((i : Int) + (j : Int)) / 2 = (h : Int) := by omega
          have hh1 : i ≤ h := by omega
          have hh2 : h < j := by omega
          clear hh
          obtain ⟨ix, hix⟩ : ∃ ix : Nat, ix = mid + m - 1 - h := ⟨_, rfl⟩
          have hsub : (mid : Int) + (m : Int) - 1 - (h : Int) = (ix : Int) := by omega
          have hixl : ix < d0.size := by omega
          have ea44 : ((ix : Int)).toNat = ix := by omega
          have pa44 : (0 : Int) ≤ (ix : Int) := by omega
          have ba44 : (ix : Int) < (d0.size : Int) := by omega
          have ra44 : IntKind.i64.wrap (ix : Int) = (ix : Int) := by rw [IntKind.wrap_i64]; omega
          clear hix
          have ec44 : ((h : Int)).toNat = h := by omega
          have pc44 : (0 : Int) ≤ (h : Int) := by omega
          have bc44 : (h : Int) < (d0.size : Int) := by omega
          obtain ⟨x, hx⟩ : ∃ x, x = d[ix]! := ⟨_, rfl⟩
          obtain ⟨y, hy⟩ : ∃ x, x = d[h]! := ⟨_, rfl⟩
          have l1 := S1.out.ld R hs P ix (by omega)
          have l2 := S1.out.ld R hs P h (by omega)
          rw [← hx] at l1
          rw [← hy] at l2
          have hc := S1.out.cmp HC.out hs x y
          clear hx hy
          generalize cf x y = r at hc
          by_cases hr : r < 0
          · have hd38 : decide (r < 0) = true := decide_eq_true hr
            go_wp2_with fail
            go_quiet_grown (first | (go_at_fn g; refine Calls.grown_of (hc _ _)))
            have S2 : Aside (SWK enc k w0 blk off d (grow (wr.drewN nq) osq)) := S1.out.grown nq osq
            clear l1 l2 hc S1
            generalize grow (wr.drewN nq) osq = w2 at S2 ⊢
            go_wp2
            go_roundg (h - i)
            case measure => omega
            case rel => exact ⟨i, h, rfl, rfl, hi, hh1, by omega, by omega, him, Nat.le_refl _, S2⟩
          · have hd38 : decide (r < 0) = false := decide_eq_false hr
            go_wp2_with fail
            go_quiet_grown (first | (go_at_fn g; refine Calls.grown_of (hc _ _)))
            have S2 : Aside (SWK enc k w0 blk off d (grow (wr.drewN nq) osq)) := S1.out.grown nq osq
            clear l1 l2 hc S1
            generalize grow (wr.drewN nq) osq = w2 at S2 ⊢
            go_wp2
            go_roundg (j - (h + 1))
            case measure => omega
            case rel => exact ⟨h + 1, j, by go_num, rfl, by omega, by omega, hjm, hjd, by omega, Nat.le_refl _, S2⟩
        · have hltz : ¬ (i : Int) < (j : Int) := by omega
          have him1 : i ≤ m := by omega
          have him2 : i ≤ mid := by omega
          clear hkx hij hjm hjd hlt
          obtain ⟨en, hen⟩ : ∃ en : Nat, en = mid + m - i := ⟨_, rfl⟩
          have henz : (en : Int) = (mid : Int) + (m : Int) - (i : Int) := by omega
          have hrot : ∀ dk w, dk.size = d0.size → SWK enc k w0 blk off dk w → i < m → i < mid → Calls P 165 #[.slice (some ⟨blk, off, none⟩) d0.size cap, .int .i64 i, .int .i64 m, .int .i64 ((mid : Int) + (m : Int) - (i : Int)), .func (.func g) #[] cb] w fun e w' => e = .returned (.tuple #[]) ∧ ∃ d', PermA dk d' ∧ SWK enc k w0 blk off d' w' := fun dk w h1 h2 h3 h4 => by
            have := rotate L enc (.func (.func g) #[] cb) blk off cap i m en d0 dk w0 w R h1.symm h2 h3 (by omega) (by omega) (by omega)
            rwa [h1, henz] at this
          have hsA : ∀ dk w, dk.size = d0.size → SWK enc k w0 blk off dk w → a < i → i < mid → Calls P 112 #[.slice (some ⟨blk, off, none⟩) d0.size cap, .int .i64 a, .int .i64 i, .int .i64 mid, .func (.func g) #[] cb] w fun e w' => e = .returned (.tuple #[]) ∧ ∃ d', PermA dk d' ∧ SWK enc k w0 blk off d' w' := fun dk w h1 h2 h3 h4 =>
            IH.out a i mid dk w (by omega) h1 h2 h3 h4 (by omega)
          have hsB : ∀ dk w, dk.size = d0.size → SWK enc k w0 blk off dk w → i < m → (mid : Int) + (m : Int) - (i : Int) < (b : Int) → Calls P 112 #[.slice (some ⟨blk, off, none⟩) d0.size cap, .int .i64 mid, .int .i64 ((mid : Int) + (m : Int) - (i : Int)), .int .i64 b, .func (.func g) #[] cb] w fun e w' => e = .returned (.tuple #[]) ∧ ∃ d', PermA dk d' ∧ SWK enc k w0 blk off d' w' := fun dk w h1 h2 h3 h4 => by
            have := IH.out mid en b dk w (by omega) h1 h2 (by omega) (by omega) (by omega)
            rwa [henz] at this
          have HR : Hid _ := hrot
          have HSA : Hid _ := hsA
          have HSB : Hid _ := hsB
          have PP : Aside (PermA d d) := PermA.refl d
          clear hrot hsA hsB
          clear henz hen
          go_wp2_with (first
            | (go_at_fn 165; refine (HR.out _ _ hs S1.out (by omega) (by omega)).mono ?_; rintro e w' ⟨rfl, d', hp, hS⟩; replace PP : Aside (PermA _ _) := PP.out.trans hp; replace hs := hp.size.trans hs; replace S1 : Aside _ := hS; clear hp hS)
            | (go_at_fn 112; refine Calls.mono (HSA.out _ _ hs S1.out ?_ ?_) ?_; omega; omega; rintro e w' ⟨rfl, d', hp, hS⟩; replace PP : Aside (PermA _ _) := PP.out.trans hp; replace hs := hp.size.trans hs; replace S1 : Aside _ := hS; clear hp hS)
            | (go_at_fn 112; refine Calls.mono (HSB.out _ _ hs S1.out ?_ ?_) ?_; omega; omega; rintro e w' ⟨rfl, d', hp, hS⟩; replace PP : Aside (PermA _ _) := PP.out.trans hp; replace hs := hp.size.trans hs; replace S1 : Aside _ := hS; clear hp hS))
          all_goals
            go_end0
            exact ⟨rfl, _, PP.out, S1.out⟩
end Go.Proofs.W
