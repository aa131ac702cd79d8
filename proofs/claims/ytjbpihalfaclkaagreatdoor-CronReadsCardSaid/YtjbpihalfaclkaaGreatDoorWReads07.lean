/- The walk of CronReads. -/
import Derived.Test.YtjbpihalfaclkaaGreatDoorLReads07
import Derived.Test.YtjbpihalfaclkaaGreatDoorLdc
namespace Go.Proofs.YtjbpihalfaclkaaGreatDoor
open Go Go.B Go.RowKit
set_option linter.unusedVariables false
set_option linter.unusedSectionVars false
set_option maxRecDepth 100000

theorem walk_CronReads (a0 : Option Addr) (len0 cap0 : Nat) (w : World) (f0 : Sh.fits w (.slice 1 .str) [.slice a0 len0 cap0]) (hL : LaidOf w) :
    Calls Tryz.prog 9 #[.slice a0 len0 cap0] w fun e w' => e = .returned (.bool true) ∧ Ext w w' := by
  obtain ⟨x0, d0, i0⟩ := sl_arg (t := .str) (by decide) f0
  exact law_calls curfewlaw07_CronReads_ok (x := x0) (law_CronReads x0 i0) (us := [.slice a0 len0 cap0]) (w := w) (by
    show Ds _ [.sl .str x0 none] _
    simp only [Ds]
    exact ⟨_, _, rfl, d0, rfl⟩) hL
end Go.Proofs.YtjbpihalfaclkaaGreatDoor
