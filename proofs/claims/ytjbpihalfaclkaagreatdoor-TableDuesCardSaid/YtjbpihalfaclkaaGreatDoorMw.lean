/- Is it a time? -/
import Derived.Test.YtjbpihalfaclkaaGreatDoorMy
namespace Go.Proofs.YtjbpihalfaclkaaGreatDoor
open Go Go.B
set_option linter.unusedSimpArgs false
set_option linter.unusedVariables false
set_option linter.unusedSectionVars false

def mayT (t : Int) : Bool := decide (0 ≤ t) && decide (t ≤ 253402300799)

theorem mayT_true {t : Int} (h : mayT t = true) : 0 ≤ t ∧ t ≤ 253402300799 := by simpa [mayT] using h
end Go.Proofs.YtjbpihalfaclkaaGreatDoor
