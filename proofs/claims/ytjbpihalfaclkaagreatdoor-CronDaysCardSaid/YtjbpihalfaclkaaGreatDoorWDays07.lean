/- The walk of CronDays. -/
import Derived.Test.YtjbpihalfaclkaaGreatDoorLDays07
import Derived.Test.YtjbpihalfaclkaaGreatDoorLdc
namespace Go.Proofs.YtjbpihalfaclkaaGreatDoor
open Go Go.B Go.RowKit
set_option linter.unusedVariables false
set_option linter.unusedSectionVars false
set_option maxRecDepth 100000

theorem walk_CronDays (c0 : Array Value) (a1 : Int) (w : World) (f0 : Sh.fits w (.field 0 1 (.int .u64) (.field 1 1 (.int .u64) (.field 2 1 (.int .u64) (.field 3 1 (.int .u64) (.field 4 1 (.int .u64) (.stop 5)))))) c0.toList) (w1 : (Lit.int .i64 a1).wf = true) (hL : LaidOf w) :
    Calls Tryz.prog 13 #[.agg c0, .int .i64 a1] w fun e w' => e = .returned (.bool true) ∧ Ext w w' := by
  obtain ⟨x0, d0, i0⟩ := agg_arg (t := (.pr (.int .u64) (.pr (.int .u64) (.pr (.int .u64) (.pr (.int .u64) (.int .u64)))))) (by decide) f0
  replace d0 : D ⟨[], allM w⟩ (.agg [.int .u64 x0.1, .int .u64 x0.2.1, .int .u64 x0.2.2.1, .int .u64 x0.2.2.2.1, .int .u64 x0.2.2.2.2]) (.agg c0) := d0
  exact law_calls curfewlaw07_CronDays_ok (x := ((x0.1, x0.2.1, x0.2.2.1, x0.2.2.2.1, x0.2.2.2.2), a1)) (law_CronDays x0 i0 a1 w1) (us := [.agg c0, .int .i64 a1]) (w := w) (by
    show Ds _ [.agg [.int .u64 x0.1, .int .u64 x0.2.1, .int .u64 x0.2.2.1, .int .u64 x0.2.2.2.1, .int .u64 x0.2.2.2.2], .int .i64 a1] _
    simp only [Ds]
    exact ⟨_, _, rfl, d0, _, _, rfl, by simp [D], rfl⟩) hL
end Go.Proofs.YtjbpihalfaclkaaGreatDoor
