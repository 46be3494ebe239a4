/- A PART OF THE PROOF THAT ONE CALL OF A LAW OF LAYER 18 (of nodes that may be, each path leads there) returns true, whatever the input; the input reads as it did. No condition beyond the given statement. This part: CardN. -/
import Derived.Test.YtbnkcpbdpgjjbaaGreatDoorClaimN
import Derived.Test.YtbnkcpbdpgjjbaaGreatDoorCardN0
import Derived.Test.YtbnkcpbdpgjjbaaGreatDoorCardN3
import Derived.Test.YtbnkcpbdpgjjbaaGreatDoorCardN1
namespace Go.Proofs.YtbnkcpbdpgjjbaaGreatDoor
open Go
/-- NODESPATHS: whatever the input, the call returns true, and the input reads as it did. -/
theorem nodesPaths_holds : Rows.NodesPathsCardSaid := Go.Proofs.Np.cardOf (Go.Proofs.Np.saidOf (Go.Proofs.Np.liftedOf Go.Proofs.Np.contract))
end Go.Proofs.YtbnkcpbdpgjjbaaGreatDoor
