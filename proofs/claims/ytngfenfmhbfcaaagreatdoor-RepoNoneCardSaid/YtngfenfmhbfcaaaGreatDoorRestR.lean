/- A PART OF THE PROOFS THAT ONE CALL OF A LAW (the nil repository of layer 34; no desk, no power of layer 37) returns true, whatever the input; the input reads as it did. No condition beyond the given statement. This part: RestR. -/
import Derived.Test.YtngfenfmhbfcaaaGreatDoorGoodR
namespace Go.Proofs.Tr
open Go Go.Ev Go.Proofs Go.RowKit
set_option maxRecDepth 1000000
set_option maxHeartbeats 0

noncomputable def restR : Code := match Tryz.f3.body with
  | some (.seq _ (.seq _ r)) => r
  | _ => .skip
abbrev DD : AV := .sown 0 0 [] none
def cCells (k ek : Int) (nm p t : List UInt8) (ns ls : AV) : List AV := [.int .i64 k, .str nm, ns, .int .i64 ek, .str p, .str t, ls]
def restTs (cs : List AV) : List AV := DD :: .pdat true cs :: List.replicate 115 DD
noncomputable def okR (r : Option (Ex × FrK)) : Bool := match r with
  | some (.ret, k) => match (accOf 2).get k.tmps with
    | some (.bool b) => b
    | _ => false
  | _ => false
noncomputable def restRun (cs : List AV) : Option (Ex × FrK) := evK C8 400 (codeOf C8 restR) ⟨treeOf 117 (restTs cs), { heap := [], nxt := 0, low := 0 }⟩
theorem rest00 (k ek : Int) (nm p t : List UInt8) : okR (restRun (cCells k ek nm p t .snil .snil)) = true := by kernel_rfl
theorem rest01 (k ek : Int) (nm p t : List UInt8) (ys : List AV) : okR (restRun (cCells k ek nm p t .snil (.sdat true 1 ys none))) = true := by kernel_rfl
theorem rest10 (k ek : Int) (nm p t : List UInt8) (xs : List AV) : okR (restRun (cCells k ek nm p t (.sdat true 1 xs none) .snil)) = true := by kernel_rfl
theorem rest11 (k ek : Int) (nm p t : List UInt8) (xs ys : List AV) : okR (restRun (cCells k ek nm p t (.sdat true 1 xs none) (.sdat true 1 ys none))) = true := by kernel_rfl
end Go.Proofs.Tr
