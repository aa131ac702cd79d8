/- The law WheelNone, as plain law. -/
import Derived.Test.YtdaaipndjhdliaaDoorLdw
import Derived.Test.YtdaaipndjhdliaaDoorGWheelNone
namespace Go.Proofs.YtdaaipndjhdliaaDoor
open Go Go.B
set_option linter.unusedVariables false

theorem law_WheelNone (x0 : Int × Int) (i0 : inT (.pr (.int .i64) (.int .u64)) x0) (x1 : Int) (i1 : (Lit.int .i64 x1).wf = true) : curfewlaw09_WheelNone_R x0.1 x0.2 x1 true := by
  exact ⟨true, rfl, rfl⟩
end Go.Proofs.YtdaaipndjhdliaaDoor
