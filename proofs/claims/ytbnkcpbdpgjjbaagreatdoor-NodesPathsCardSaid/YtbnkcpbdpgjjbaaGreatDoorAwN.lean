/- A PART OF THE PROOF THAT ONE CALL OF A LAW OF LAYER 18 (of nodes that may be, each path leads there) returns true, whatever the input; the input reads as it did. No condition beyond the given statement. This part: AwN. -/
import Derived.Test.YtbnkcpbdpgjjbaaGreatDoorCtxN
namespace Go.Proofs.Tn
open Go Go.Ev Go.Proofs
set_option maxRecDepth 100000
set_option maxHeartbeats 0
theorem awake : isTrue2 (runK C 400 5 []) = true := by kernel_rfl
end Go.Proofs.Tn
