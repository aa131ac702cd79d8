import Derived.Test.YtnjkboeibcoojaaGreatDoorMy
import Derived.Test.YtnjkboeibcoojaaGreatDoorMdn
/- Is it a time? -/
namespace Go.Proofs.YtnjkboeibcoojaaGreatDoor
open Go Go.B
set_option linter.unusedSimpArgs false
set_option linter.unusedVariables false
set_option linter.unusedSectionVars false

def mayT (t : Int) : Bool := decide (0 ≤ t) && decide (t ≤ 253402300799)

theorem mayT_true {t : Int} (h : mayT t = true) : 0 ≤ t ∧ t ≤ 253402300799 := by simpa [mayT] using h
end Go.Proofs.YtnjkboeibcoojaaGreatDoor
/- Is it a time of a cron? -/
namespace Go.Proofs.YtnjkboeibcoojaaGreatDoor
open Go Go.B
set_option linter.unusedSimpArgs false
set_option linter.unusedVariables false
set_option linter.unusedSectionVars false
set_option maxRecDepth 20000

/-- is it a time of the cron? -/
noncomputable def isT (c : Cron) (t : Int) : Bool := fitD c (t / 86400) && (decide (t % 60 = 0) && (hasB c.ho (t % 86400 / 3600) && hasB c.mi (t % 86400 % 3600 / 60)))
end Go.Proofs.YtnjkboeibcoojaaGreatDoor
