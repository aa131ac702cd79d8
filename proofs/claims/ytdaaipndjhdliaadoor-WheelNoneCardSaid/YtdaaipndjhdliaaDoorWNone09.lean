/- The walk of WheelNone. -/
import Derived.Test.YtdaaipndjhdliaaDoorLNone09
namespace Go.Proofs.YtdaaipndjhdliaaDoor
open Go Go.B Go.RowKit
set_option linter.unusedVariables false
set_option linter.unusedSectionVars false
set_option maxRecDepth 100000

theorem walk_WheelNone (c0 : Array Value) (a1 : Int) (w : World) (f0 : Sh.fits w (.field 0 1 (.int .i64) (.field 1 1 (.int .u64) (.stop 2))) c0.toList) (w1 : (Lit.int .i64 a1).wf = true) (hL : LaidOf w) :
    Calls Tryd.prog 3 #[.agg c0, .int .i64 a1] w fun e w' => e = .returned (.bool true) ∧ Ext w w' := by
  obtain ⟨x0, d0, i0⟩ := agg_arg (t := (.pr (.int .i64) (.int .u64))) (by decide) f0
  replace d0 : D ⟨[], allM w⟩ (.agg [.int .i64 x0.1, .int .u64 x0.2]) (.agg c0) := d0
  exact law_calls curfewlaw09_WheelNone_ok (x := ((x0.1, x0.2), a1)) (law_WheelNone x0 i0 a1 w1) (us := [.agg c0, .int .i64 a1]) (w := w) (by
    show Ds _ [.agg [.int .i64 x0.1, .int .u64 x0.2], .int .i64 a1] _
    simp only [Ds]
    exact ⟨_, _, rfl, d0, _, _, rfl, by simp [D], rfl⟩) hL
end Go.Proofs.YtdaaipndjhdliaaDoor
