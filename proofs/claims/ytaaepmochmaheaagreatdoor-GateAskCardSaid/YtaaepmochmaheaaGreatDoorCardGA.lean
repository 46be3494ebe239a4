/- A PART OF THE PROOF THAT SHOWS THAT EACH OF rafterlaw44.GateAsk AND rafterlaw44.GateAll RETURNS TRUE FOR EVERY INPUT. No condition beyond the given statement. This part: CardGA. -/
import Derived.Test.YtaaepmochmaheaaGreatDoorClaimGA
import Derived.Test.YtaaepmochmaheaaGreatDoorCardGA0
import Derived.Test.YtaaepmochmaheaaGreatDoorCardGA3
import Derived.Test.YtaaepmochmaheaaGreatDoorCardGA1
namespace Go.Proofs.YtaaepmochmaheaaGreatDoor
open Go
/-- GateAsk: whatever the input, the call returns true, and the input reads as it did. -/
theorem gateAsk_holds : Rows.GateAskCardSaid := Go.Proofs.WGA.cardOf (Go.Proofs.WGA.saidOf (Go.Proofs.WGA.liftedOf Go.Proofs.WGA.contract))
end Go.Proofs.YtaaepmochmaheaaGreatDoor
