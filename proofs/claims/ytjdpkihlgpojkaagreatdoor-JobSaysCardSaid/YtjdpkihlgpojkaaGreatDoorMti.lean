import Derived.Test.YtjdpkihlgpojkaaGreatDoorMy
import Derived.Test.YtjdpkihlgpojkaaGreatDoorMdn
/- Is it a time? -/
namespace Go.Proofs.YtjdpkihlgpojkaaGreatDoor
open Go Go.B
set_option linter.unusedSimpArgs false
set_option linter.unusedVariables false
set_option linter.unusedSectionVars false

def mayT (t : Int) : Bool := decide (0 ≤ t) && decide (t ≤ 253402300799)

end Go.Proofs.YtjdpkihlgpojkaaGreatDoor
/- Is it a time of a cron? -/
namespace Go.Proofs.YtjdpkihlgpojkaaGreatDoor
open Go Go.B
set_option linter.unusedSimpArgs false
set_option linter.unusedVariables false
set_option linter.unusedSectionVars false
set_option maxRecDepth 20000

end Go.Proofs.YtjdpkihlgpojkaaGreatDoor
