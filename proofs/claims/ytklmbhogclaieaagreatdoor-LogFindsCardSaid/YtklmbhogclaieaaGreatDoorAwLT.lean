/- A PART OF THE PROOF THAT ONE CALL OF A LAW OF LAYER 46 (which of any patches have a line with any word) returns true, whatever the input; the input reads as it did. No condition beyond the given statement. This part: AwLT. -/
import Derived.Test.YtklmbhogclaieaaGreatDoorBaseW
import Derived.Lib.IndexMore
import Derived.Test.YtklmbhogclaieaaGreatDoorBaseG
import Derived.Test.YtklmbhogclaieaaGreatDoorEvMemo
namespace Go.Proofs.Wc
open Go Go.Ev Go.Proofs
set_option maxRecDepth 100000
set_option maxHeartbeats 0
/-- strings.Contains -/
def phiContains : List AV → Option AV
  | [.str s, .str t] => (chk (Nat.ble s.length 4294967280)).bind fun _ => some (.bool (Lib.contains s t))
  | _ => none
def prims1 (i : Nat) : Option (List AV → Option AV) := bif Nat.beq i 63 then some phiContains else prims0 i
noncomputable def C1 (m : Int) : Ctx := { types, funs, prims := prims1, globs := fun g => bif Nat.beq g 0 then some [.int .i64 m] else none, ext := exts }
end Go.Proofs.Wc
namespace Go.Proofs.Wc
open Go Go.Ev Go.Proofs Go.RowKit
set_option maxRecDepth 100000

theorem entersC : ∀ args w, (callFunc 63 args).run Tryz.prog w = .ok (.enter 63 args) w := enters_of Tryz.func63 (by kernel_rfl) rfl

theorem containsOk (m : Int) {ds : List AV} {r : AV} (h : phiContains ds = some r) {w : World} {B : Nat → Prop} {cargs : List Value} (hg : ∀ g cs, (C1 m).globs g = some cs → VR (C1 m) w (fun _ => False) B (fun _ => none) (.pdat false cs) (.pointer (some ⟨g, 0, none⟩))) (hl : LR (C1 m) w (fun _ => False) B (fun _ => none) ds cargs) :
    FnOk Tryz.prog 63 cargs.toArray w fun cv w' => VR (C1 m) w' (fun _ => False) B (fun _ => none) r cv ∧ Ext w (fun _ => False) (fun _ => none) w' (fun _ => False) (fun _ => none) := by
  have hm : w.cell? ⟨0, 0, none⟩ = some (.int .i64 m) := by
    have h1 := hg 0 [.int .i64 m] rfl
    cases h1 with
    | pdat _ _ _ _ vs _ _ _ _ hcell _ hv =>
      have h2 := hcell 0 (by simp)
      have h3 := hv 0 (by simp)
      simp only [List.getElem_cons_zero] at h3
      generalize vs 0 = q at h2 h3
      cases h3
      exact h2
  intro o a next Q hn
  unfold phiContains at h
  split at h
  · rename_i s t
    simp only [Option.bind_eq_some_iff, Option.some.injEq] at h
    obtain ⟨_, hch, rfl⟩ := h
    have hch := Nat.le_of_ble_eq_true (chk_some hch)
    obtain ⟨x, y, rfl, hx, hy⟩ := lr_two hl
    cases hx with
    | str _ bs hs =>
      cases hy with
      | str _ bt ht =>
        subst hs ht
        rw [entersC, Oper.upon_enter]
        have hsz : bs.size < 4294967281 := by
          have : bs.data.toList.length = bs.size := by simp
          omega
        exact (Tryz.strings_Contains bs bt m w hsz hm).mono fun e w' ⟨h1, h2⟩ => by
          subst h1
          subst h2
          exact hn _ _ ⟨.bool _, .refl _ _ _⟩
  · cases h

theorem good1 (m : Int) : Good (C1 m) := ⟨rfl, rfl, rfl, fun f φ hφ ds r h w B cargs hg hB hl => by
  have hφ2 : prims1 f = some φ := hφ
  unfold prims1 at hφ2
  cases h1 : Nat.beq f 63 with
  | true =>
    rw [h1] at hφ2
    simp only [cond_true, Option.some.injEq] at hφ2
    obtain rfl := (beq_iff _ _).1 h1
    subst hφ2
    exact containsOk m h hg hl
  | false =>
    rw [h1] at hφ2
    exact primFns0 (C1 m) hφ2 h hB hl⟩

/-- what was run once is looked up: a table more -/
theorem memoGood {D D' : Ctx} (g : Good D) {n f : Nat} {tbl : List (List AV × AV)} (h : tbl.all (memoChk D n f) = true) (p : PrimFns Tryz.prog D')
    (ht : D'.types = types) (hg : D'.globs = D.globs) {E : Ctx} (hE : E.types = types) (hEg : E.globs = D.globs) (hEp : E.prims = fun i => bif Nat.beq i f then some (Go.Ev.memo tbl) else D'.prims i) : PrimFns Tryz.prog E := by
  intro g' φ hφ ds r hr w B cargs hgl hB hl
  have hφ2 : (bif Nat.beq g' f then some (Go.Ev.memo tbl) else D'.prims g') = some φ := by rw [hEp] at hφ; exact hφ
  clear hφ
  have hφ := hφ2
  clear hφ2
  cases h1 : Nat.beq g' f with
  | true =>
    rw [h1] at hφ
    simp only [cond_true, Option.some.injEq] at hφ
    obtain rfl := (beq_iff _ _).1 h1
    subst hφ
    exact memo_prim (C0 := D) (hE.trans g.types.symm) hEg g.ty g.prims g.fns g.draws h hr hgl hB hl
  | false =>
    rw [h1] at hφ
    simp only [cond_false] at hφ
    refine (p g' φ hφ ds r hr w B cargs (fun k cs hk => ?_) hB ⟨hl.len, fun j a b => (hl.rel j a b).ctx (hE.trans ht.symm)⟩).mono fun cv w' ⟨h2, h3⟩ => ⟨h2.ctx (ht.trans hE.symm), h3⟩
    rw [hg, ← hEg] at hk
    exact (hgl k cs hk).ctx (hE.trans ht.symm)

/-- the variable that the library looks at -/
def HasM (w : World) : Prop := ∃ m, w.cell? ⟨0, 0, none⟩ = some (.int .i64 m) ∧ 0 < w.heap.size
theorem HasM.below {w w' : World} (h : HasM w) (hb : Below w.heap.size w w') : HasM w' := by
  obtain ⟨m, h1, h2⟩ := h
  exact ⟨m, (World.cell?_of_block (hb.block _ h2)).trans h1, Nat.lt_of_lt_of_le h2 hb.size⟩

end Go.Proofs.Wc
namespace Go.Proofs.Wc
open Go Go.Ev Go.Proofs
set_option maxRecDepth 100000
set_option maxHeartbeats 0
def AwLTtbl131 : List (List AV × AV) := [([.agg [.str [97], .snil, .sdat true 16 [.agg [.int .i64 (2), .str [97], .int .i64 (0), .str [], .int .i64 (0), .str [], .int .i64 (0), .str [120], .str [], .str [], .int .i64 (0), .str [], .int .i64 (0), .snil, .int .i64 (0), .snil], .agg [.int .i64 (5), .str [97], .int .i64 (0), .str [], .int .i64 (0), .str [], .int .i64 (0), .str [], .str [], .str [], .int .i64 (1), .str [], .int .i64 (2), .snil, .int .i64 (1), .sdat true 1 [.str [111, 110, 101, 32, 116, 119, 111]] (some 1)]] (some 2)]], .int .i64 (0)),
  ([.agg [.str [97], .snil, .sdat false 16 [.agg [.int .i64 (2), .str [97], .int .i64 (0), .str [], .int .i64 (0), .str [], .int .i64 (0), .str [120], .str [], .str [], .int .i64 (0), .str [], .int .i64 (0), .snil, .int .i64 (0), .snil], .agg [.int .i64 (5), .str [97], .int .i64 (0), .str [], .int .i64 (0), .str [], .int .i64 (0), .str [], .str [], .str [], .int .i64 (1), .str [], .int .i64 (2), .snil, .int .i64 (1), .sdat false 1 [.str [111, 110, 101, 32, 116, 119, 111]] none]] none]], .int .i64 (0))]
theorem AwLTtbl131_ok (m : Int) : AwLTtbl131.all (memoChk (C1 m) 400 131) = true := by kernel_rfl
noncomputable def AwLTC1_0 (m : Int) : Ctx := { types, funs, prims := fun i => bif Nat.beq i 131 then some (memo AwLTtbl131) else (C1 m).prims i, globs := (C1 m).globs, ext := exts }
def AwLTtbl85 : List (List AV × AV) := [([.sdat true 3 [.agg [.str [97], .snil, .sdat true 16 [.agg [.int .i64 (2), .str [97], .int .i64 (0), .str [], .int .i64 (0), .str [], .int .i64 (0), .str [120], .str [], .str [], .int .i64 (0), .str [], .int .i64 (0), .snil, .int .i64 (0), .snil], .agg [.int .i64 (5), .str [97], .int .i64 (0), .str [], .int .i64 (0), .str [], .int .i64 (0), .str [], .str [], .str [], .int .i64 (1), .str [], .int .i64 (2), .snil, .int .i64 (1), .sdat true 1 [.str [111, 110, 101, 32, 116, 119, 111]] (some 1)]] (some 2)]] (some 1)], .int .i64 (0))]
theorem AwLTtbl85_ok (m : Int) : AwLTtbl85.all (memoChk (AwLTC1_0 m) 400 85) = true := by kernel_rfl
noncomputable def AwLTC2_0 (m : Int) : Ctx := { types, funs, prims := fun i => bif Nat.beq i 85 then some (memo AwLTtbl85) else (AwLTC1_0 m).prims i, globs := (C1 m).globs, ext := exts }
def AwLTtbl186 : List (List AV × AV) := [([.sdat true 3 [.agg [.str [97], .snil, .sdat true 16 [.agg [.int .i64 (2), .str [97], .int .i64 (0), .str [], .int .i64 (0), .str [], .int .i64 (0), .str [120], .str [], .str [], .int .i64 (0), .str [], .int .i64 (0), .snil, .int .i64 (0), .snil], .agg [.int .i64 (5), .str [97], .int .i64 (0), .str [], .int .i64 (0), .str [], .int .i64 (0), .str [], .str [], .str [], .int .i64 (1), .str [], .int .i64 (2), .snil, .int .i64 (1), .sdat true 1 [.str [111, 110, 101, 32, 116, 119, 111]] (some 1)]] (some 2)]] (some 1)], .snil)]
theorem AwLTtbl186_ok (m : Int) : AwLTtbl186.all (memoChk (AwLTC2_0 m) 400 186) = true := by kernel_rfl
noncomputable def AwLTC3_0 (m : Int) : Ctx := { types, funs, prims := fun i => bif Nat.beq i 186 then some (memo AwLTtbl186) else (AwLTC2_0 m).prims i, globs := (C1 m).globs, ext := exts }
def AwLTtbl197 : List (List AV × AV) := [([.sdat true 3 [.agg [.str [97], .snil, .sdat true 16 [.agg [.int .i64 (2), .str [97], .int .i64 (0), .str [], .int .i64 (0), .str [], .int .i64 (0), .str [120], .str [], .str [], .int .i64 (0), .str [], .int .i64 (0), .snil, .int .i64 (0), .snil], .agg [.int .i64 (5), .str [97], .int .i64 (0), .str [], .int .i64 (0), .str [], .int .i64 (0), .str [], .str [], .str [], .int .i64 (1), .str [], .int .i64 (2), .snil, .int .i64 (1), .sdat true 1 [.str [111, 110, 101, 32, 116, 119, 111]] (some 1)]] (some 2)]] (some 1)], .tup [.agg [.sdat false 10 [.agg [.str [97], .int .i64 (0), .bool false, .str [], .int .i64 (0), .str [120], .str [], .sdat false 4 [.agg [.str [97], .int .i64 (1), .str [111, 110, 101, 32, 116, 119, 111], .str []]] none, .sdat false 1 [.str [97]] none, .sdat false 1 [.str [97]] none]] none, .sdat false 4 [.agg [.str [], .int .i64 (0), .str [120], .sdat false 1 [.str [97]] none]] none], .int .i64 (0)])]
theorem AwLTtbl197_ok (m : Int) : AwLTtbl197.all (memoChk (AwLTC3_0 m) 400 197) = true := by kernel_rfl
noncomputable def AwLTC4_0 (m : Int) : Ctx := { types, funs, prims := fun i => bif Nat.beq i 197 then some (memo AwLTtbl197) else (AwLTC3_0 m).prims i, globs := (C1 m).globs, ext := exts }
theorem AwLT_awake (m : Int) : isTrue2 (runK (AwLTC4_0 m) 400 17 []) = true := by kernel_rfl
end Go.Proofs.Wc
namespace Go.Proofs.Wc
open Go Go.Ev Go.Proofs Go.RowKit
set_option maxRecDepth 100000
theorem AwLTC1_0_p (m : Int) : PrimFns Tryz.prog (AwLTC1_0 m) := memoGood (D := C1 m) (D' := C1 m) (E := AwLTC1_0 m) (good1 m) (AwLTtbl131_ok m) (good1 m).prim rfl rfl rfl rfl rfl
theorem AwLTgood1 (m : Int) : Good (AwLTC1_0 m) := ⟨rfl, rfl, rfl, (AwLTC1_0_p m)⟩
theorem AwLTC2_0_p (m : Int) : PrimFns Tryz.prog (AwLTC2_0 m) := memoGood (D := AwLTC1_0 m) (D' := AwLTC1_0 m) (E := AwLTC2_0 m) (AwLTgood1 m) (AwLTtbl85_ok m) (AwLTgood1 m).prim rfl rfl rfl rfl rfl
theorem AwLTgood2 (m : Int) : Good (AwLTC2_0 m) := ⟨rfl, rfl, rfl, (AwLTC2_0_p m)⟩
theorem AwLTC3_0_p (m : Int) : PrimFns Tryz.prog (AwLTC3_0 m) := memoGood (D := AwLTC2_0 m) (D' := AwLTC2_0 m) (E := AwLTC3_0 m) (AwLTgood2 m) (AwLTtbl186_ok m) (AwLTgood2 m).prim rfl rfl rfl rfl rfl
theorem AwLTgood3 (m : Int) : Good (AwLTC3_0 m) := ⟨rfl, rfl, rfl, (AwLTC3_0_p m)⟩
theorem AwLTC4_0_p (m : Int) : PrimFns Tryz.prog (AwLTC4_0 m) := memoGood (D := AwLTC3_0 m) (D' := AwLTC3_0 m) (E := AwLTC4_0 m) (AwLTgood3 m) (AwLTtbl197_ok m) (AwLTgood3 m).prim rfl rfl rfl rfl rfl
theorem AwLTgood4 (m : Int) : Good (AwLTC4_0 m) := ⟨rfl, rfl, rfl, (AwLTC4_0_p m)⟩
theorem AwLT_last (m : Int) : Good (AwLTC4_0 m) := AwLTgood4 m
end Go.Proofs.Wc
namespace Go.Proofs.Wc
open Go Go.Ev Go.Proofs Go.RowKit
set_option maxRecDepth 100000

theorem awakeL_calls (w : World) (hm : HasM w) : Calls Tryz.prog 17 #[] w fun e w' => e = .returned (.bool true) ∧ Below w.heap.size w w' := by
  obtain ⟨m, h1, h2⟩ := hm
  refine trueCalls (AwLT_last m) fr17 rfl (AwLT_awake m) w (fun k cs h => ?_)
  have h : (bif Nat.beq k 0 then some [AV.int .i64 m] else none) = some cs := h
  cases hk : Nat.beq k 0 with
  | false => rw [hk] at h; cases h
  | true =>
    rw [hk] at h
    obtain rfl := (beq_iff _ _).1 hk
    obtain rfl := Option.some.inj h
    refine .pdat false [.int .i64 m] _ 0 (fun _ => .int .i64 m) h2 (fun h => h) (fun _ h => h) rfl (fun j hj => ?_) (fun j hj => ?_) (fun j hj => ?_)
    · have : j = 0 := by simpa using hj
      subst this; exact h1
    · have : j = 0 := by simpa using hj
      subst this; rfl
    · have : j = 0 := by simpa using hj
      subst this; exact .int _ _
end Go.Proofs.Wc
