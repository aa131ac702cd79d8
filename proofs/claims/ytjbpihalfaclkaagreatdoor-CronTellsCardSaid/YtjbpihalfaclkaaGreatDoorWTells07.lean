/- The walk of CronTells. -/
import Derived.Test.YtjbpihalfaclkaaGreatDoorLTells07
import Derived.Test.YtjbpihalfaclkaaGreatDoorLdc
namespace Go.Proofs.YtjbpihalfaclkaaGreatDoor
open Go Go.B Go.RowKit
set_option linter.unusedVariables false
set_option linter.unusedSectionVars false
set_option maxRecDepth 100000

theorem walk_CronTells (a0 : Option Addr) (len0 cap0 : Nat) (w : World) (f0 : Sh.fits w (.slice 5 (.field 0 1 (.int .u64) (.field 1 1 (.int .u64) (.field 2 1 (.int .u64) (.field 3 1 (.int .u64) (.field 4 1 (.int .u64) (.stop 5))))))) [.slice a0 len0 cap0]) (hL : LaidOf w) :
    Calls Tryz.prog 10 #[.slice a0 len0 cap0] w fun e w' => e = .returned (.bool true) ∧ Ext w w' := by
  obtain ⟨x0, d0, i0⟩ := sl_arg (t := (.pr (.int .u64) (.pr (.int .u64) (.pr (.int .u64) (.pr (.int .u64) (.int .u64)))))) (by decide) f0
  exact law_calls curfewlaw07_CronTells_ok (x := x0) (law_CronTells x0 i0) (us := [.slice a0 len0 cap0]) (w := w) (by
    show Ds _ [.sl (.pr (.int .u64) (.pr (.int .u64) (.pr (.int .u64) (.pr (.int .u64) (.int .u64))))) x0 none] _
    simp only [Ds]
    exact ⟨_, _, rfl, d0, rfl⟩) hL
end Go.Proofs.YtjbpihalfaclkaaGreatDoor
