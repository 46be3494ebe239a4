/- A PART OF THE PROOF THAT ONE CALL OF A LAW OF LAYER 46 (which of any patches have a line with any word) returns true, whatever the input; the input reads as it did. No condition beyond the given statement. This part: BaseW. -/
import Derived.Test.YtklmbhogclaieaaGreatDoorCtxW
namespace Go.Proofs.Wc
open Go Go.Ev Go.Proofs
set_option maxRecDepth 100000

/-! ### A set of texts, for the kernel -/
def insQ (x : List UInt8) : List (List UInt8) → List (List UInt8)
  | [] => [x]
  | y :: r => bif bytesLess y x then y :: insQ x r else bif y == x then y :: r else x :: y :: r
def setQ (l : List (List UInt8)) : List (List UInt8) := l.foldl (fun o x => insQ x o) []

def pairsQ : List AV → Option (List (List UInt8))
  | [] => some []
  | .agg [.str a, .str b] :: r => (pairsQ r).map fun l => a :: b :: l
  | _ => none
/-- event.names of pairs -/
def phiNames : List AV → Option AV
  | [.snil] => some .snil
  | [.sdat _ 2 (x :: xs) _] => (pairsQ (x :: xs)).bind fun l => (chk (Nat.ble (x :: xs).length 1000)).bind fun _ => some (.sdat false 1 ((setQ l).map .str) none)
  | _ => none

def prims0 (i : Nat) : Option (List AV → Option AV) :=
  bif Nat.beq i 349 then some phiIndexByte else bif Nat.beq i 403 then some phiCount else bif Nat.beq i 111 then some phiJoin else bif Nat.beq i 166 then some phiNames else none
def exts (i : Nat) : Option Go.Ev.Extern := bif Nat.beq i 302 || Nat.beq i 311 then some .overlaps else none
noncomputable def C0 : Ctx := { types, funs, prims := prims0, globs := fun _ => none, ext := exts }
end Go.Proofs.Wc
