/- When a cron matched last. -/
import Derived.Test.YtjdpkihlgpojkaaGreatDoorMe
namespace Go.Proofs.YtjdpkihlgpojkaaGreatDoor
open Go Go.B
set_option linter.unusedSimpArgs false
set_option linter.unusedVariables false
set_option linter.unusedSectionVars false
set_option maxRecDepth 20000

end Go.Proofs.YtjdpkihlgpojkaaGreatDoor
