/- The walk of FieldSteps. -/
import Derived.Test.YtcbgnicdcdfmiaaDoorLSteps
import Derived.Test.YtcbgnicdcdfmiaaDoorLd
namespace Go.Proofs.YtcbgnicdcdfmiaaDoor
open Go Go.B Go.RowKit
set_option linter.unusedVariables false
set_option linter.unusedSectionVars false
set_option maxRecDepth 100000

theorem walk_FieldSteps (a0 : Int) (c1 : Array Value) (a2 : Int) (w : World) (w0 : (Lit.int .i64 a0).wf = true) (f1 : Sh.fits w (.field 0 1 (.int .i64) (.field 1 1 (.int .i64) (.stop 2))) c1.toList) (w2 : (Lit.int .i64 a2).wf = true) (hL : LaidOf w) :
    Calls Tryd.prog 8 #[.int .i64 a0, .agg c1, .int .i64 a2] w fun e w' => e = .returned (.bool true) ∧ Ext w w' := by
  obtain ⟨x1, d1, i1⟩ := agg_arg (t := (.pr (.int .i64) (.int .i64))) (by decide) f1
  replace d1 : D ⟨[], allM w⟩ (.agg [.int .i64 x1.1, .int .i64 x1.2]) (.agg c1) := d1
  exact law_calls curfewlaw06_FieldSteps_ok (x := (a0, (x1.1, x1.2), a2)) (law_FieldSteps a0 w0 x1 i1 a2 w2) (us := [.int .i64 a0, .agg c1, .int .i64 a2]) (w := w) (by
    show Ds _ [.int .i64 a0, .agg [.int .i64 x1.1, .int .i64 x1.2], .int .i64 a2] _
    simp only [Ds]
    exact ⟨_, _, rfl, by simp [D], _, _, rfl, d1, _, _, rfl, by simp [D], rfl⟩) hL
end Go.Proofs.YtcbgnicdcdfmiaaDoor
