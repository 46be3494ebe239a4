/- A PART OF THE PROOF THAT SAVETEXTS HOLDS FOR EVERY INPUT OF BULK AT MOST 1048576. No condition beyond the given statement. This part: CardST. -/
import Derived.Test.YtciahohaonhdgaaGreatDoorClaimST
import Derived.Test.YtciahohaonhdgaaGreatDoorCardST0
import Derived.Test.YtciahohaonhdgaaGreatDoorCardST1
namespace Go.Proofs.YtciahohaonhdgaaGreatDoor
open Go
theorem saveTextsUpto_holds : Rows.SaveTextsUptoCardSaid := Go.Proofs.WST.cardOf (Go.Proofs.WST.saidOf (Go.Proofs.WST.liftedOf Go.Proofs.WST.contract))
end Go.Proofs.YtciahohaonhdgaaGreatDoor
