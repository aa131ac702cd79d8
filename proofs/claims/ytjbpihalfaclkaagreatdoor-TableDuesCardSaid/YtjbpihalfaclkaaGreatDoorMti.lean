/- Is it a time of a cron? -/
import Derived.Test.YtjbpihalfaclkaaGreatDoorMdn
namespace Go.Proofs.YtjbpihalfaclkaaGreatDoor
open Go Go.B
set_option linter.unusedSimpArgs false
set_option linter.unusedVariables false
set_option linter.unusedSectionVars false
set_option maxRecDepth 20000

/-- is it a time of the cron? -/
noncomputable def isT (c : Cron) (t : Int) : Bool := fitD c (t / 86400) && (decide (t % 60 = 0) && (hasB c.ho (t % 86400 / 3600) && hasB c.mi (t % 86400 % 3600 / 60)))
end Go.Proofs.YtjbpihalfaclkaaGreatDoor
