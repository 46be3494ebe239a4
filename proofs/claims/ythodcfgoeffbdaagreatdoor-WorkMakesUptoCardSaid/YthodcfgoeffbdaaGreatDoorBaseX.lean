/- A PART OF THE PROOF THAT WORKMAKES HOLDS FOR EVERY INPUT OF BULK AT MOST 1048576. No condition beyond the given statement. This part: BaseX. -/
import Derived.Test.YthodcfgoeffbdaaGreatDoorCtxW
namespace Go.Proofs.Wc
open Go Go.Ev Go.Proofs
set_option maxRecDepth 100000

def prims0 (i : Nat) : Option (List AV → Option AV) :=
  bif Nat.beq i 270 then some phiIndexByte else bif Nat.beq i 241 then some phiCount else bif Nat.beq i 161 then some phiJoin else none
def exts (i : Nat) : Option Go.Ev.Extern := bif Nat.beq i 158 || Nat.beq i 168 then some .overlaps else none
noncomputable def C0 : Ctx := { types, funs, prims := prims0, globs := fun _ => none, ext := exts }
end Go.Proofs.Wc
namespace Go.Proofs.Wc
open Go Go.Ev Go.Proofs
set_option maxRecDepth 100000
set_option maxHeartbeats 0
theorem awakeX : isTrue2 (runK C0 1000 5 []) = true := by kernel_rfl
end Go.Proofs.Wc
