/- A PART OF THE PROOF THAT SAVETEXTS HOLDS FOR EVERY INPUT OF BULK AT MOST 1048576. No condition beyond the given statement. This part: WName. -/
import Derived.Test.YtciahohaonhdgaaGreatDoorWHead
import Derived.Test.YtciahohaonhdgaaGreatDoorWShelf
import Derived.Test.YtciahohaonhdgaaGreatDoorNodesLaw
namespace Go.Proofs.W
open Go Go.Proofs Go.RowKit Go.WideShapes
set_option maxRecDepth 1000000
set_option maxHeartbeats 4000000 in
theorem name_bad (r : Nat) (W : World) : Calls Tryz.prog 151 #[.int .i32 (r : Int)] W fun e w' => e = .returned (.bool (badR r)) ∧ w' = W := by
 go_enter Tryz.func151, Tryz.ntmps151
 go_wp2
 all_goals go_ret
 all_goals refine ⟨?_, rfl⟩
 all_goals refine congrArg Ending.returned (congrArg Value.bool ?_)
 all_goals rw [Bool.eq_iff_iff]
 all_goals simp [badR]
 all_goals omega
theorem name_bad_enters : ∀ args w, (callFunc 151 args).run Tryz.prog w = .ok (.enter 151 args) w := enters_of Tryz.func151 (by kernel_rfl) rfl
theorem name_bad_pred (w : World) : PredAt Tryz.prog 151 #[] encR badR w := fun W x _ => (name_bad x W).mono fun _ _ ⟨h1, h2⟩ => ⟨h1, 0, by rw [h2]; rfl⟩
set_option maxHeartbeats 4000000 in
theorem name_index (s : ByteArray) (w : World) : Calls Tryz.prog 152 #[.string s, .func (.func 151) #[] #[]] w fun e w' => e = .returned (.int .i64 (Lib.idxFunc badR true s)) ∧ Below w.heap.size w w' := by
 have hcon := Tryz.strings_indexFunc 151 #[] name_bad_enters badR true s w (name_bad_pred w)
 generalize Lib.idxFunc badR true s = r at hcon ⊢
 go_enter Tryz.func152, Tryz.ntmps152
 go_wp2_with (go_at_call 216; refine hcon.mono ?_; rintro e w' ⟨rfl, hb'⟩)
 go_ret
 exact ⟨rfl, hb'⟩
set_option maxHeartbeats 4000000 in
theorem name_Right (s : ByteArray) (w : World) : Calls Tryz.prog 104 #[.string s] w fun e w' => e = .returned (.bool (nameR s)) ∧ Below w.heap.size w w' := by
 have hcon := name_index s w
 unfold nameR
 generalize Lib.idxFunc badR true s = r at hcon ⊢
 cases h1 : s.toList.isEmpty <;> cases h2 : decide ((s.size : Int) ≤ 40) <;> cases h3 : (s.toList == [46]) <;> cases h4 : (s.toList == [46, 46])
 all_goals
  go_enter Tryz.func104, Tryz.ntmps104
  go_wp2_with (go_at_call 152; refine hcon.mono ?_; rintro e w' ⟨rfl, hb'⟩)
 all_goals go_ret
 all_goals first
  | exact ⟨by simp, Below.refl _ _⟩
  | exact ⟨by simp, hb'⟩
end Go.Proofs.W
namespace Go.Proofs.W
open Go Go.Proofs Go.RowKit
open Go.Proofs.Np (idxI idxI_at idxI_cases cutB splitS joinB joinS cutAt_length splitB_cutB countB_cutB join_joinB)
set_option maxRecDepth 1000000
set_option maxHeartbeats 4000000 in
theorem path_bad (s : ByteArray) (w : World) : Calls Tryz.prog 103 #[.string s] w fun e w' => e = .returned (.bool (!nameR s)) ∧ Below w.heap.size w w' := by
 have hcon := name_Right s w
 generalize nameR s = r at hcon ⊢
 go_enter Tryz.func103, Tryz.ntmps103
 go_wp2_with (go_at_call 104; refine hcon.mono ?_; rintro e w' ⟨rfl, hb'⟩)
 go_ret
 exact ⟨rfl, hb'⟩
theorem path_bad_enters : ∀ args w, (callFunc 103 args).run Tryz.prog w = .ok (.enter 103 args) w := enters_of Tryz.func103 (by kernel_rfl) rfl
theorem idxI_step {α : Type} {q : α → Bool} {ns : List α} {i : Nat} {d : α} (hd : ns[i]? = some d) (hq : q d = true) (hno : ∀ j d, j < i → ns[j]? = some d → q d = false) : idxI q ns = (i : Nat) := by
 unfold idxI
 have : ns.findIdx? q = some i := by
  rw [List.findIdx?_eq_some_iff_getElem]
  obtain ⟨h1, h2⟩ := List.getElem?_eq_some_iff.1 hd
  refine ⟨h1, by rw [h2]; exact hq, fun j hj => ?_⟩
  have := hno j ns[j] hj (List.getElem?_eq_getElem (by omega))
  simp [this]
 rw [this]
theorem idxI_none {α : Type} {q : α → Bool} {ns : List α} (hno : ∀ j d, j < ns.length → ns[j]? = some d → q d = false) : idxI q ns = -1 := by
 unfold idxI
 have : ns.findIdx? q = none := by
  rw [List.findIdx?_eq_none_iff]
  intro x hx
  obtain ⟨j, hj, rfl⟩ := List.getElem_of_mem hx
  exact hno j _ hj (List.getElem?_eq_getElem hj)
 rw [this]
set_option maxHeartbeats 4000000 in
theorem strs_IndexFunc (b o c : Nat) (xs : List ByteArray) (w : World) (h : TextsAt w b o xs) (hlen : xs.length < 9223372036854775808) :
  Calls Tryz.prog 153 #[.slice (some ⟨b, o, none⟩) xs.length c, .func (.func 103) #[] #[]] w fun e w' => e = .returned (.int .i64 (idxI (fun s => !nameR s) xs)) ∧ Below w.heap.size w w' := by
 have e60 := path_bad_enters
 go_enter Tryz.func153, Tryz.ntmps153
 go_wp2
 go_loopw [8] (fun x w' => Below w.heap.size w w' ∧ ∃ i : Nat, i ≤ xs.length ∧ x = .int .i64 i ∧ ∀ j d, j < i → xs[j]? = some d → (!nameR d) = false) (fun x _ => match x with | .int _ i => (xs.length - i.toNat) | _ => 0)
 case atStart => exact ⟨Below.refl _ w, 0, Nat.zero_le _, rfl, fun j d hj => absurd hj (Nat.not_lt_zero _)⟩
 case round =>
  obtain ⟨hB, i, hi, rfl, hno⟩ := hrel
  by_cases hlt : i < xs.length
  ·have hd : xs[i]? = some xs[i] := List.getElem?_eq_getElem hlt
   have c0 := (h.below hB).cell i _ hd
   have hlt' : (i : Int) < (xs.length : Int) := by omega
   have hnn : ¬ (i : Int) < 0 := by omega
   have hnn0 : (0 : Int) ≤ (i : Int) := by omega
   have hcall := path_bad xs[i] wr
   cases hqi : (!nameR xs[i]) with
   | true =>
    rw [hqi] at hcall
    go_wp2_with (go_at_fn 103; refine hcall.mono ?_; rintro e w' ⟨rfl, hb'⟩)
    go_ret
    exact ⟨by rw [idxI_step hd hqi hno]; rfl, belowTrans hB hb'⟩
   | false =>
    rw [hqi] at hcall
    go_wp2_with (go_at_fn 103; refine hcall.mono ?_; rintro e w' ⟨rfl, hb'⟩)
    go_roundw
    case rel => exact ⟨belowTrans hB hb', i + 1, by omega, by push_cast; rfl, fun j d hj hd2 => by
     by_cases e : j = i
     ·subst e; rw [hd] at hd2; obtain rfl := Option.some.inj hd2; exact hqi
     ·exact hno j d (by omega) hd2⟩
    case measure =>
     show xs.length - ((i : Int) + 1).toNat < xs.length - (i : Int).toNat
     omega
  ·have hlt' : ¬ (i : Int) < (xs.length : Int) := by omega
   go_wp2
   go_ret
   exact ⟨by rw [idxI_none fun j d hj => hno j d (by omega)]; rfl, hB⟩
set_option maxHeartbeats 4000000 in
theorem strs_ContainsFunc (b o c : Nat) (xs : List ByteArray) (w : World) (h : TextsAt w b o xs) (hlen : xs.length < 9223372036854775808) :
  Calls Tryz.prog 105 #[.slice (some ⟨b, o, none⟩) xs.length c, .func (.func 103) #[] #[]] w fun e w' => e = .returned (.bool (decide (0 ≤ idxI (fun s => !nameR s) xs))) ∧ Below w.heap.size w w' := by
 have hcon := strs_IndexFunc b o c xs w h hlen
 generalize idxI (fun s => !nameR s) xs = r at hcon ⊢
 go_enter Tryz.func105, Tryz.ntmps105
 go_wp2_with (go_at_call 153; refine hcon.mono ?_; rintro e w' ⟨rfl, hb'⟩)
 go_ret
 exact ⟨rfl, hb'⟩
def HasM (w : World) : Prop := ∃ m, w.cell? ⟨2, 0, none⟩ = some (.int .i64 m) ∧ 2 < w.heap.size
theorem HasM.below {w w' : World} (h : HasM w) (hb : Below w.heap.size w w') : HasM w' := by
 obtain ⟨m, h1, h2⟩ := h
 exact ⟨m, (World.cell?_of_block (hb.block _ h2)).trans h1, Nat.lt_of_lt_of_le h2 hb.size⟩
theorem strings_SplitP (s : ByteArray) (w : World) (hs : s.size < 4294967281) (hm : HasM w) :
  Calls Tryz.prog 102 #[.string s, .string ⟨#[47]⟩] w fun e w' => e = .returned (.slice (some ⟨w.heap.size, 0, none⟩) (cutB s).length (cutB s).length) ∧ w' = w.alloc (.cells ((cutB s).map Value.string).toArray 9) := by
 obtain ⟨m, h1, _⟩ := hm
 have h := Tryz.strings_Split s ⟨#[47]⟩ m w hs h1 (by decide)
 rw [countB_cutB, splitB_cutB] at h
 exact h
theorem cutB_length (s : ByteArray) : (cutB s).length ≤ s.size + 1 := by
 unfold cutB
 rw [List.length_map, cutAt_length]
 have : s.data.toList.count 47 ≤ s.data.toList.length := List.count_le_length
 have h2 : s.data.toList.length = s.size := Array.length_toList
 omega
set_option maxHeartbeats 4000000 in
theorem path_Right (p : ByteArray) (w : World) (hs : p.size < 4294967281) (hm : HasM w) : Calls Tryz.prog 61 #[.string p] w fun e w' => e = .returned (.bool (pathR p)) ∧ Below w.heap.size w w' := by
 have hsp := strings_SplitP p w hs hm
 have hB1 := belowAlloc w (.cells ((cutB p).map Value.string).toArray 9)
 have hl := cutB_length p
 have hhas := strs_ContainsFunc w.heap.size 0 (cutB p).length (cutB p) _ (textsAt_new w (cutB p) 9) (by omega)
 unfold pathR
 generalize idxI (fun s => !nameR s) (cutB p) = r at hhas ⊢
 generalize hW : w.alloc (.cells ((cutB p).map Value.string).toArray 9) = W at hsp hhas hB1
 generalize (cutB p).length = k at hsp hhas hl ⊢
 cases h1 : decide ((p.size : Int) ≤ 200) <;> cases h2 : decide ((k : Int) ≤ 16)
 all_goals
  go_enter Tryz.func61, Tryz.ntmps61
  go_wp2_with (first | (go_at_call 102; refine hsp.mono ?_; rintro e w' ⟨rfl, rfl⟩) | (go_at_call 105; refine hhas.mono ?_; rintro e w' ⟨rfl, hb'⟩))
 all_goals go_ret
 all_goals first
  | exact ⟨by simp, hB1⟩
  | exact ⟨by simp, belowTrans hB1 hb'⟩
set_option maxHeartbeats 4000000 in
theorem path_Split (p : ByteArray) (w : World) (hs : p.size < 4294967281) (hm : HasM w) : Calls Tryz.prog 122 #[.string p] w fun e w' => (∃ v, e = .returned v ∧ TextNew w.heap.size w' v (splitS pathR p)) ∧ Below w.heap.size w w' := by
 have hr := path_Right p w hs hm
 unfold splitS
 cases h1 : pathR p with
 | false =>
  rw [h1] at hr
  go_enter Tryz.func122, Tryz.ntmps122
  go_wp2_with (go_at_call 61; refine hr.mono ?_; rintro e w' ⟨rfl, hb'⟩)
  go_ret
  exact ⟨⟨_, rfl, .inl ⟨rfl, rfl⟩⟩, hb'⟩
 | true =>
  rw [h1] at hr
  go_enter Tryz.func122, Tryz.ntmps122
  go_wp2_with (go_at_call 61; refine hr.mono ?_; rintro e w' ⟨rfl, hb'⟩)
  refine (strings_SplitP p w' hs (hm.below hb')).mono ?_
  rintro e w2 ⟨rfl, rfl⟩
  go_wp2
  go_ret
  exact ⟨⟨_, rfl, .inr ⟨_, _, rfl, hb'.size, textsAt_new w' (cutB p) 9, Nat.le_refl _⟩⟩, belowTrans hb' (belowAlloc _ _)⟩
theorem joinB_size (xs : List ByteArray) : (Lib.join (xs.map (·.data.toList)) [47]).length = (joinB xs).size := by
 rw [← join_joinB]
 simp [ByteArray.size]
def TextSlC (w : World) (v : Value) (xs : List ByteArray) : Prop := (xs = [] ∧ ∃ a c, v = .slice a 0 c) ∨ ∃ b o c, v = .slice (some ⟨b, o, none⟩) xs.length c ∧ TextsAt w b o xs ∧ xs.length ≤ c
theorem strings_JoinP (v : Value) (xs : List ByteArray) (w : World) (h : TextSlC w v xs) (hlen : xs.length ≤ 1000) (hsz : (joinB xs).size < 4294967281) :
  Calls Tryz.prog 178 #[v, .string ⟨#[47]⟩] w fun e w' => e = .returned (.string (joinB xs)) ∧ Below w.heap.size w w' := by
 rcases h with ⟨rfl, a, c, rfl⟩ | ⟨b, o, c, rfl, ht, hc⟩
 ·refine (Tryz.strings_Join_none a c ⟨#[47]⟩ w).mono ?_
  rintro e w' ⟨rfl, rfl⟩
  exact ⟨rfl, Below.refl _ _⟩
 ·have := Tryz.strings_Join b o c xs ⟨#[47]⟩ w ht.cell ht.lt (by omega) hc (by
   have := joinB_size xs
   show (Lib.join (xs.map (·.data.toList)) [47]).length ≤ _
   omega)
  refine this.mono ?_
  rintro e w' ⟨rfl, hb⟩
  refine ⟨?_, hb⟩
  rw [← join_joinB]
set_option maxHeartbeats 4000000 in
theorem path_Join (v : Value) (xs : List ByteArray) (w : World) (h : TextSlC w v xs) (hlen : xs.length ≤ 1000) (hsz : (joinB xs).size < 4294967281) (hm : HasM w) :
  Calls Tryz.prog 126 #[v] w fun e w' => e = .returned (.string (joinS pathR xs)) ∧ Below w.heap.size w w' := by
 have hj := strings_JoinP v xs w h hlen hsz
 obtain ⟨a, n, c, rfl, hn⟩ : ∃ a n c, v = .slice a n c ∧ n = xs.length := by
  rcases h with ⟨rfl, a, c, rfl⟩ | ⟨b, o, c, rfl, _, _⟩
  ·exact ⟨a, 0, c, rfl, rfl⟩
  ·exact ⟨_, _, _, rfl, rfl⟩
 unfold joinS
 generalize joinB xs = q at hj hsz ⊢
 rw [← hn]
 clear hn h
 by_cases he : (splitS pathR q).length = n
 ·rw [if_pos he]
  go_enter Tryz.func126, Tryz.ntmps126
  go_wp2_with (go_at_call 178; refine hj.mono ?_; rintro e w' ⟨rfl, hb'⟩)
  refine (path_Split q w' hsz (hm.below hb')).mono ?_
  rintro e w2 ⟨⟨v', rfl, ht⟩, hb2⟩
  rcases ht with ⟨hnil, rfl⟩ | ⟨b', c', rfl, _, _, _⟩
  ·rw [hnil] at he
   obtain rfl : 0 = n := he
   go_wp2
   go_ret
   exact ⟨rfl, belowTrans hb' hb2⟩
  ·rw [he]
   go_wp2
   go_ret
   exact ⟨rfl, belowTrans hb' hb2⟩
 ·rw [if_neg he]
  go_enter Tryz.func126, Tryz.ntmps126
  go_wp2_with (go_at_call 178; refine hj.mono ?_; rintro e w' ⟨rfl, hb'⟩)
  refine (path_Split q w' hsz (hm.below hb')).mono ?_
  rintro e w2 ⟨⟨v', rfl, ht⟩, hb2⟩
  rcases ht with ⟨hnil, rfl⟩ | ⟨b', c', rfl, _, _, _⟩
  ·rw [hnil] at he
   have he' : ¬ (0 : Int) = (n : Int) := by
    intro e; exact he (by simp; omega)
   go_wp2
   all_goals first
    | (go_ret; exact ⟨rfl, belowTrans hb' hb2⟩)
    | (exfalso; omega)
  ·have he' : ¬ ((splitS pathR q).length : Int) = (n : Int) := by omega
   go_wp2
   all_goals first
    | (go_ret; exact ⟨rfl, belowTrans hb' hb2⟩)
    | (exfalso; omega)
end Go.Proofs.W
namespace Go.Proofs.W
open Go Go.Proofs Go.RowKit Go.Op
open Go.Proofs.Np (idxI idxI_at idxI_cases cutB splitS joinB joinS)
set_option maxRecDepth 1000000
set_option maxHeartbeats 4000000 in
theorem str_isNaN (x : ByteArray) (w : World) : Calls Tryz.prog 228 #[.string x] w fun e w' => e = .returned (.bool false) ∧ w' = w := by
 have h : (x.toList == x.toList) = true := by simp
 go_enter Tryz.func228, Tryz.ntmps228
 go_wp2
 go_ret
 exact ⟨by simp, rfl⟩
def cmpB (x y : ByteArray) : Int := if bytesLess x.toList y.toList then -1 else if bytesLess y.toList x.toList then 1 else 0
theorem run_gtr (x y : ByteArray) (b : Bool) (h : (!(bytesLess x.toList y.toList || x.toList == y.toList)) = b) (w : World) : Sem.run Tryz.prog (binOp .gtr 9 (.string x) (.string y)) w = .ok (.bool b) w := by
 subst h
 simp [binOp, Op.stringOp]
set_option maxHeartbeats 4000000 in
theorem str_Compare (x y : ByteArray) (w : World) : Calls Tryz.prog 176 #[.string x, .string y] w fun e w' => e = .returned (.int .i64 (cmpB x y)) ∧ w' = w := by
 have hgt : (!(bytesLess x.toList y.toList || x.toList == y.toList)) = (!bytesLess x.toList y.toList && bytesLess y.toList x.toList) := by
  rw [Bool.eq_iff_iff]
  simp only [Bool.not_eq_true', Bool.or_eq_false_iff, beq_eq_false_iff_ne, ne_eq, Bool.and_eq_true, bytesLess_iff]
  constructor
  ·rintro ⟨h1, h2⟩
   refine ⟨h1, ?_⟩
   have h1 : ¬ x.toList < y.toList := fun e => by rw [(bytesLess_iff _ _).2 e] at h1; cases h1
   rcases lt_tri x.toList y.toList with e | e | e
   ·exact absurd e h1
   ·exact absurd e h2
   ·exact e
  ·rintro ⟨h1, h2⟩
   exact ⟨h1, fun e => by rw [e] at h2; exact lt_irr _ h2⟩
 unfold cmpB
 cases h1 : bytesLess x.toList y.toList with
 | true =>
  go_enter Tryz.func176, Tryz.ntmps176
  go_wp2_with (go_at_call 228; refine (str_isNaN _ _).mono ?_; rintro e w' ⟨rfl, rfl⟩)
  go_ret
  exact ⟨rfl, rfl⟩
 | false =>
  rw [h1] at hgt
  cases h2 : bytesLess y.toList x.toList with
  | true =>
   rw [h2] at hgt
   have hr := run_gtr x y true (by rw [h1]; exact hgt)
   go_enter Tryz.func176, Tryz.ntmps176
   go_wp2_with (go_at_call 228; refine (str_isNaN _ _).mono ?_; rintro e w' ⟨rfl, rfl⟩)
   go_ret
   exact ⟨rfl, rfl⟩
  | false =>
   rw [h2] at hgt
   have hr := run_gtr x y false (by rw [h1]; exact hgt)
   go_enter Tryz.func176, Tryz.ntmps176
   go_wp2_with (go_at_call 228; refine (str_isNaN _ _).mono ?_; rintro e w' ⟨rfl, rfl⟩)
   go_ret
   exact ⟨rfl, rfl⟩
theorem cmpL_cons (a b : ByteArray) (x y : List ByteArray) : cmpL ((a :: x).map fun b => b.data.toList) ((b :: y).map fun b => b.data.toList) = if cmpB a b = 0 then cmpL (x.map fun b => b.data.toList) (y.map fun b => b.data.toList) else cmpB a b := by
 simp only [List.map_cons, cmpL]
 unfold cmpB
 rw [ByteArray.toList_eq, ByteArray.toList_eq]
 cases bytesLess a.data.toList b.data.toList <;> cases bytesLess b.data.toList a.data.toList <;> simp
set_option maxHeartbeats 4000000 in
theorem strs_Compare (a b : Option Addr) (c d : Nat) (xs ys : List ByteArray) (w : World) (h1 : TextsH w a xs) (h2 : TextsH w b ys) (hl1 : xs.length < 9223372036854775808) :
  Calls Tryz.prog 123 #[.slice a xs.length c, .slice b ys.length d] w fun e w' => e = .returned (.int .i64 (cmpL (xs.map fun b => b.data.toList) (ys.map fun b => b.data.toList))) ∧ Below w.heap.size w w' := by
 go_enter Tryz.func123, Tryz.ntmps123
 go_wp2
 go_loopw [11] (fun x w' => w' = w ∧ ∃ i : Nat, i ≤ xs.length ∧ x = .int .i64 i ∧ i ≤ ys.length ∧ Hid (cmpL ((xs.drop i).map fun b => b.data.toList) ((ys.drop i).map fun b => b.data.toList) = cmpL (xs.map fun b => b.data.toList) (ys.map fun b => b.data.toList))) (fun x _ => xs.length - (intOf x).toNat)
 case atStart => exact ⟨rfl, 0, Nat.zero_le _, rfl, Nat.zero_le _, rfl⟩
 case round =>
  obtain ⟨rfl, i, hi, rfl, hiy, hH⟩ := hrel
  by_cases hlt : i < xs.length
  ·obtain ⟨b1, o1, rfl, hN⟩ : ∃ k o, a = some ⟨k, o, none⟩ ∧ TextsAt wr k o xs := h1.resolve_left (by omega)
   obtain ⟨x, hx⟩ : ∃ x, xs[i]? = some x := ⟨_, List.getElem?_eq_getElem hlt⟩
   have e1 := hN.cell i _ hx
   have hlt' : (i : Int) < (xs.length : Int) := by omega
   have hnn : ¬ (i : Int) < 0 := by omega
   have hnn0 : (0 : Int) ≤ (i : Int) := by omega
   have hdx : xs.drop i = x :: xs.drop (i + 1) := by rw [List.drop_eq_getElem_cons hlt]; rw [List.getElem?_eq_getElem hlt] at hx; rw [Option.some.inj hx]
   by_cases hlty : i < ys.length
   ·obtain ⟨b2, o2, rfl, hM⟩ : ∃ k o, b = some ⟨k, o, none⟩ ∧ TextsAt wr k o ys := h2.resolve_left (by omega)
    obtain ⟨y, hy⟩ : ∃ x, ys[i]? = some x := ⟨_, List.getElem?_eq_getElem hlty⟩
    have e2 := hM.cell i _ hy
    have hlty' : ¬ (ys.length : Int) ≤ (i : Int) := by omega
    have hlty2 : (i : Int) < (ys.length : Int) := by omega
    have hdy : ys.drop i = y :: ys.drop (i + 1) := by rw [List.drop_eq_getElem_cons hlty]; rw [List.getElem?_eq_getElem hlty] at hy; rw [Option.some.inj hy]
    have hcall := str_Compare x y wr
    have hcm := hH.out
    rw [hdx, hdy, cmpL_cons] at hcm
    by_cases hc : cmpB x y = 0
    ·rw [if_pos hc] at hcm
     rw [hc] at hcall
     have hH2 : Hid _ := hcm
     clear hcm hH hc hdx hdy hx hy
     go_wp2_with (go_at_call 176; refine hcall.mono ?_; rintro e w5 ⟨rfl, rfl⟩)
     go_roundw
     case rel => exact ⟨by first | rfl | trivial, i + 1, by omega, by push_cast; rfl, by omega, hH2⟩
     case measure => simp [intOf]; omega
    ·rw [if_neg hc] at hcm
     have hH2 : Hid _ := hcm
     clear hcm hH hdx hdy hx hy
     generalize cmpB x y = r at hcall hH2 hc
     go_wp2_with (go_at_call 176; refine hcall.mono ?_; rintro e w5 ⟨rfl, rfl⟩)
     go_ret
     exact ⟨by rw [← hH2.out]; rfl, Below.refl _ _⟩
   ·have hlty' : (ys.length : Int) ≤ (i : Int) := by omega
    have hdy : ys.drop i = [] := List.drop_of_length_le (by omega)
    have hcm := hH.out
    rw [hdx, hdy] at hcm
    have hH2 : Hid _ := hcm
    clear hcm hH hdx hdy
    go_wp2
    go_ret
    exact ⟨by rw [← hH2.out]; rfl, Below.refl _ _⟩
  ·have hlt' : ¬ (i : Int) < (xs.length : Int) := by omega
   have hdx : xs.drop i = [] := List.drop_of_length_le (by omega)
   have hcm := hH.out
   rw [hdx] at hcm
   obtain rfl : i = xs.length := by omega
   by_cases hlty : xs.length < ys.length
   ·have hlty' : (xs.length : Int) < (ys.length : Int) := by omega
    obtain ⟨y, r, hdy⟩ : ∃ y r, ys.drop xs.length = y :: r := ⟨_, _, List.drop_eq_getElem_cons hlty⟩
    rw [hdy] at hcm
    have hH2 : Hid _ := hcm
    clear hcm hH hdx hdy
    go_wp2
    go_ret
    exact ⟨by rw [← hH2.out]; rfl, Below.refl _ _⟩
   ·have hlty' : ¬ (xs.length : Int) < (ys.length : Int) := by omega
    have hdy : ys.drop xs.length = [] := List.drop_of_length_le (by omega)
    rw [hdy] at hcm
    have hH2 : Hid _ := hcm
    clear hcm hH hdx hdy
    go_wp2
    go_ret
    exact ⟨by rw [← hH2.out]; rfl, Below.refl _ _⟩
set_option maxHeartbeats 4000000 in
theorem path_Less (p q : ByteArray) (w : World) (hp : p.size < 4294967281) (hq : q.size < 4294967281) (hm : HasM w) :
  Calls Tryz.prog 69 #[.string p, .string q] w fun e w' => e = .returned (.bool (pathLess p q)) ∧ Below w.heap.size w w' := by
 have hz1 : (splitP p).length < 9223372036854775808 := by
  have := cutB_length p
  unfold splitP splitS
  split <;> simp <;> omega
 have hz2 : (splitP q).length < 9223372036854775808 := by
  have := cutB_length q
  unfold splitP splitS
  split <;> simp <;> omega
 have hs1 : ∀ w, HasM w → Calls Tryz.prog 122 #[.string p] w fun e w' => (∃ a c, e = .returned (.slice a (splitP p).length c) ∧ TextsH w' a (splitP p)) ∧ Below w.heap.size w w' := fun w hm => (path_Split p w hp hm).mono fun e w' ⟨⟨v, h1, h2⟩, h3⟩ => by
  obtain ⟨a, c, rfl, h4⟩ := h2.H
  exact ⟨⟨a, c, h1, h4⟩, h3⟩
 have hs2 : ∀ w, HasM w → Calls Tryz.prog 122 #[.string q] w fun e w' => (∃ a c, e = .returned (.slice a (splitP q).length c) ∧ TextsH w' a (splitP q)) ∧ Below w.heap.size w w' := fun w hm => (path_Split q w hq hm).mono fun e w' ⟨⟨v, h1, h2⟩, h3⟩ => by
  obtain ⟨a, c, rfl, h4⟩ := h2.H
  exact ⟨⟨a, c, h1, h4⟩, h3⟩
 unfold pathLess rawP
 generalize splitP p = xs at hz1 hs1 ⊢
 generalize splitP q = ys at hz2 hs2 ⊢
 have hcmp : ∀ (a1 a2 : Option Addr) (c1 c2 : Nat) (w : World), TextsH w a1 xs → TextsH w a2 ys → Calls Tryz.prog 123 #[.slice a1 xs.length c1, .slice a2 ys.length c2] w fun e w' => e = .returned (.int .i64 (cmpL (xs.map fun b => b.data.toList) (ys.map fun b => b.data.toList))) ∧ Below w.heap.size w w' := fun a1 a2 c1 c2 w h1 h2 => strs_Compare a1 a2 c1 c2 xs ys w h1 h2 hz1
 have hxe : xs.isEmpty = decide ((xs.length : Int) = 0) := by cases xs <;> simp <;> omega
 have hye : ys.isEmpty = decide ((ys.length : Int) = 0) := by cases ys <;> simp <;> omega
 rw [hxe, hye, ← ByteArray.toList_eq, ← ByteArray.toList_eq]
 generalize cmpL (xs.map fun b => b.data.toList) (ys.map fun b => b.data.toList) = r at hcmp ⊢
 have hkeep : ∀ (w w' : World) (a : Option Addr), TextsH w a xs → Below w.heap.size w w' → TextsH w' a xs := fun _ _ _ h hb => h.below hb
 generalize xs.length = n at hs1 hcmp ⊢
 generalize ys.length = m at hs2 hcmp ⊢
 have HS1 : Hid _ := hs1
 have HS2 : Hid _ := hs2
 have HC : Hid _ := hcmp
 have HK : Hid _ := hkeep
 clear hs1 hs2 hcmp hkeep hxe hye hz1 hz2
 by_cases h0 : (n : Int) = 0
 ·by_cases h1 : (m : Int) = 0
  ·rw [if_pos (by simp [h0, h1])]
   go_enter Tryz.func69, Tryz.ntmps69
   go_wp2_with fail
   refine (HS1.out w hm).mono ?_
   rintro e w1 ⟨⟨a1, c1, rfl, hx1⟩, hb1⟩
   go_wp2_with fail
   refine (HS2.out w1 (hm.below hb1)).mono ?_
   rintro e w2 ⟨⟨a2, c2, rfl, hx2⟩, hb2⟩
   clear hx1 hx2
   go_wp2
   go_ret
   exact ⟨rfl, belowTrans hb1 hb2⟩
  ·rw [if_neg (by simp; omega)]
   go_enter Tryz.func69, Tryz.ntmps69
   go_wp2_with fail
   refine (HS1.out w hm).mono ?_
   rintro e w1 ⟨⟨a1, c1, rfl, hx1⟩, hb1⟩
   go_wp2_with fail
   refine (HS2.out w1 (hm.below hb1)).mono ?_
   rintro e w2 ⟨⟨a2, c2, rfl, hx2⟩, hb2⟩
   have hcc := HC.out a1 a2 c1 c2 w2 (HK.out _ _ _ hx1 hb2) hx2
   clear hx1 hx2
   go_wp2_with (go_at_call 123; refine hcc.mono ?_; rintro e w3 ⟨rfl, hb3⟩)
   go_ret
   exact ⟨rfl, belowTrans hb1 (belowTrans hb2 hb3)⟩
 ·rw [if_neg (by simp; omega)]
  go_enter Tryz.func69, Tryz.ntmps69
  go_wp2_with fail
  refine (HS1.out w hm).mono ?_
  rintro e w1 ⟨⟨a1, c1, rfl, hx1⟩, hb1⟩
  go_wp2_with fail
  refine (HS2.out w1 (hm.below hb1)).mono ?_
  rintro e w2 ⟨⟨a2, c2, rfl, hx2⟩, hb2⟩
  have hcc := HC.out a1 a2 c1 c2 w2 (HK.out _ _ _ hx1 hb2) hx2
  clear hx1 hx2
  go_wp2_with (go_at_call 123; refine hcc.mono ?_; rintro e w3 ⟨rfl, hb3⟩)
  go_ret
  exact ⟨rfl, belowTrans hb1 (belowTrans hb2 hb3)⟩
end Go.Proofs.W
