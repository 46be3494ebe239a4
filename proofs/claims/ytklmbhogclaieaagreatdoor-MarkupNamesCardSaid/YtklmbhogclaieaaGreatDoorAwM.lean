/- A PART OF THE PROOF THAT ONE CALL OF A LAW OF LAYER 29 (whose alternatives any lines have, and whether they have marks) returns true, whatever the input; the input reads as it did. No condition beyond the given statement. This part: AwM. -/
import Derived.Test.YtklmbhogclaieaaGreatDoorBaseW
namespace Go.Proofs.Wc
open Go Go.Ev Go.Proofs
set_option maxRecDepth 100000
set_option maxHeartbeats 0
theorem awakeM : isTrue2 (runK C0 400 9 []) = true := by kernel_rfl
end Go.Proofs.Wc
