/- A PART OF THE PROOF THAT ONE CALL OF A LAW OF LAYER 29 (whose alternatives any lines have, and whether they have marks) returns true, whatever the input; the input reads as it did. No condition beyond the given statement. This part: CardMN. -/
import Derived.Test.YtklmbhogclaieaaGreatDoorClaimMN
import Derived.Test.YtklmbhogclaieaaGreatDoorCardMN0
import Derived.Test.YtklmbhogclaieaaGreatDoorCardMN3
import Derived.Test.YtklmbhogclaieaaGreatDoorCardMN1
namespace Go.Proofs.YtklmbhogclaieaaGreatDoor
open Go
/-- MarkupNames: whatever the input, the call returns true, and the input reads as it did. -/
theorem markupNames_holds : Rows.MarkupNamesCardSaid := Go.Proofs.WMN.cardOf (Go.Proofs.WMN.saidOf (Go.Proofs.WMN.liftedOf Go.Proofs.WMN.contract))
end Go.Proofs.YtklmbhogclaieaaGreatDoor
