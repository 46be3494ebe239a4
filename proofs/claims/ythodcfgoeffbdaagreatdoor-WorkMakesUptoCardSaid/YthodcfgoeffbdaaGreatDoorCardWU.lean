/- A PART OF THE PROOF THAT WORKMAKES HOLDS FOR EVERY INPUT OF BULK AT MOST 1048576. No condition beyond the given statement. This part: CardWU. -/
import Derived.Test.YthodcfgoeffbdaaGreatDoorClaimWU
import Derived.Test.YthodcfgoeffbdaaGreatDoorCardWU0
import Derived.Test.YthodcfgoeffbdaaGreatDoorCardWU3
import Derived.Test.YthodcfgoeffbdaaGreatDoorCardWU1
namespace Go.Proofs.YthodcfgoeffbdaaGreatDoor
open Go
/-- WorkMakes: whatever the input of bulk at most 1048576, the call returns true, and the input reads as it did. -/
theorem workMakesUpto_holds : Rows.WorkMakesUptoCardSaid := Go.Proofs.WWU.cardOf (Go.Proofs.WWU.saidOf (Go.Proofs.WWU.liftedOf Go.Proofs.WWU.contract))
end Go.Proofs.YthodcfgoeffbdaaGreatDoor
