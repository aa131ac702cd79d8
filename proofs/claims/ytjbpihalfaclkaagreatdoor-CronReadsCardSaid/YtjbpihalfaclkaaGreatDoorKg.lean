/- What the reference makes of texts of fields. -/
import Derived.Test.YtjbpihalfaclkaaGreatDoorKf
namespace Go.Proofs.YtjbpihalfaclkaaGreatDoor
open Go Go.B
set_option linter.unusedSimpArgs false
set_option linter.unusedVariables false
set_option linter.unusedSectionVars false
set_option maxRecDepth 20000

def nmB (k : Nat) : List ByteArray := (nmT k).map fun l => ⟨l.toArray⟩

theorem nmB_len (k : Nat) : (nmB k).length = (nmT k).length := by simp [nmB]

theorem nmT_le (k : Nat) : (nmT k).length ≤ 12 := by unfold nmT; split <;> decide
end Go.Proofs.YtjbpihalfaclkaaGreatDoor
