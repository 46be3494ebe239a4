/- A PART OF THE PROOFS THAT ONE CALL OF A LAW (the nil repository of layer 34; no desk, no power of layer 37) returns true, whatever the input; the input reads as it did. No condition beyond the given statement. This part: CardR. -/
import Derived.Test.YtngfenfmhbfcaaaGreatDoorClaimR
import Derived.Test.YtngfenfmhbfcaaaGreatDoorCardR0
import Derived.Test.YtngfenfmhbfcaaaGreatDoorCardR3
import Derived.Test.YtngfenfmhbfcaaaGreatDoorCardR1
namespace Go.Proofs.YtngfenfmhbfcaaaGreatDoor
open Go
/-- REPONONE: whatever the input, the call returns true, and the input reads as it did. -/
theorem repoNone_holds : Rows.RepoNoneCardSaid := Go.Proofs.Tr.cardOf (Go.Proofs.Tr.saidOf (Go.Proofs.Tr.liftedOf Go.Proofs.Tr.contract))
end Go.Proofs.YtngfenfmhbfcaaaGreatDoor
