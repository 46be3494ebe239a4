/- A PART OF THE PROOFS THAT ONE CALL OF A LAW (the nil repository of layer 34; no desk, no power of layer 37) returns true, whatever the input; the input reads as it did. No condition beyond the given statement. This part: AwR. -/
import Derived.Test.YtngfenfmhbfcaaaGreatDoorMemoR8
namespace Go.Proofs.Tr
open Go Go.Ev Go.Proofs
set_option maxRecDepth 100000
set_option maxHeartbeats 0
def isTrue2 (r : Option (AV × St)) : Bool := match r with
  | some (.bool b, _) => b
  | _ => false
theorem awake : isTrue2 (runK C8 400 6 []) = true := by kernel_rfl
end Go.Proofs.Tr
