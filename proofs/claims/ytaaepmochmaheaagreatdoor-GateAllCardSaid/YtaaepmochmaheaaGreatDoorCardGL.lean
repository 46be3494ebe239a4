/- A PART OF THE PROOF THAT SHOWS THAT EACH OF rafterlaw44.GateAsk AND rafterlaw44.GateAll RETURNS TRUE FOR EVERY INPUT. No condition beyond the given statement. This part: CardGL. -/
import Derived.Test.YtaaepmochmaheaaGreatDoorClaimGL
import Derived.Test.YtaaepmochmaheaaGreatDoorCardGL0
import Derived.Test.YtaaepmochmaheaaGreatDoorCardGL3
import Derived.Test.YtaaepmochmaheaaGreatDoorCardGL1
namespace Go.Proofs.YtaaepmochmaheaaGreatDoor
open Go
/-- GateAll: whatever the input, the call returns true, and the input reads as it did. -/
theorem gateAll_holds : Rows.GateAllCardSaid := Go.Proofs.WGL.cardOf (Go.Proofs.WGL.saidOf (Go.Proofs.WGL.liftedOf Go.Proofs.WGL.contract))
end Go.Proofs.YtaaepmochmaheaaGreatDoor
