import Derived.Test.YtjbpihalfaclkaaGreatDoorMy
import Derived.Test.YtjbpihalfaclkaaGreatDoorMdn
/- Is it a time? -/
namespace Go.Proofs.YtjbpihalfaclkaaGreatDoor
open Go Go.B
set_option linter.unusedSimpArgs false
set_option linter.unusedVariables false
set_option linter.unusedSectionVars false

def mayT (t : Int) : Bool := decide (0 ≤ t) && decide (t ≤ 253402300799)

end Go.Proofs.YtjbpihalfaclkaaGreatDoor
/- Is it a time of a cron? -/
namespace Go.Proofs.YtjbpihalfaclkaaGreatDoor
open Go Go.B
set_option linter.unusedSimpArgs false
set_option linter.unusedVariables false
set_option linter.unusedSectionVars false
set_option maxRecDepth 20000

end Go.Proofs.YtjbpihalfaclkaaGreatDoor
