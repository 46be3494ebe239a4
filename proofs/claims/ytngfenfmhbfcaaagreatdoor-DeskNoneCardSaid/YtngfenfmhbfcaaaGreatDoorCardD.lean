/- A PART OF THE PROOFS THAT ONE CALL OF A LAW (the nil repository of layer 34; no desk, no power of layer 37) returns true, whatever the input; the input reads as it did. No condition beyond the given statement. This part: CardD. -/
import Derived.Test.YtngfenfmhbfcaaaGreatDoorClaimD
import Derived.Test.YtngfenfmhbfcaaaGreatDoorCardD0
import Derived.Test.YtngfenfmhbfcaaaGreatDoorCardD3
import Derived.Test.YtngfenfmhbfcaaaGreatDoorCardD1
namespace Go.Proofs.YtngfenfmhbfcaaaGreatDoor
open Go
/-- DESKNONE: whatever the input, the call returns true, and the input reads as it did. -/
theorem deskNone_holds : Rows.DeskNoneCardSaid := Go.Proofs.Tr.cardOf (Go.Proofs.Tr.saidOf (Go.Proofs.Tr.liftedOf Go.Proofs.Tr.contract))
end Go.Proofs.YtngfenfmhbfcaaaGreatDoor
