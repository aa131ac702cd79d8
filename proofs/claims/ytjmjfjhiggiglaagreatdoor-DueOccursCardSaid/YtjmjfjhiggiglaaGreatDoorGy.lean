/- The references lie beside. -/
import Derived.Test.YtjmjfjhiggiglaaGreatDoorGx
namespace Go.Proofs.YtjmjfjhiggiglaaGreatDoor
end Go.Proofs.YtjmjfjhiggiglaaGreatDoor
