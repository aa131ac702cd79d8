/- times.May. -/
import Derived.Test.YtjbpihalfaclkaaGreatDoorMw
namespace Go.Proofs.YtjbpihalfaclkaaGreatDoor
open Go Go.B

theorem times_May_fn (t : Int) : times_May_R t (mayT t) := by
  unfold times_May_R mayT
  by_cases h : (0 : Int) ≤ t <;> simp [br, h]
end Go.Proofs.YtjbpihalfaclkaaGreatDoor
