/- A PART OF THE PROOF THAT ONE CALL OF A LAW OF LAYER 46 (which of any patches have a line with any word) returns true, whatever the input; the input reads as it did. No condition beyond the given statement. This part: CardLF. -/
import Derived.Test.YtklmbhogclaieaaGreatDoorClaimLF
import Derived.Test.YtklmbhogclaieaaGreatDoorCardLF0
import Derived.Test.YtklmbhogclaieaaGreatDoorCardLF3
import Derived.Test.YtklmbhogclaieaaGreatDoorCardLF1
namespace Go.Proofs.YtklmbhogclaieaaGreatDoor
open Go
/-- LogFinds: whatever the input, the call returns true, and the input reads as it did. -/
theorem logFinds_holds : Rows.LogFindsCardSaid := Go.Proofs.WLF.cardOf (Go.Proofs.WLF.saidOf (Go.Proofs.WLF.liftedOf Go.Proofs.WLF.contract))
end Go.Proofs.YtklmbhogclaieaaGreatDoor
