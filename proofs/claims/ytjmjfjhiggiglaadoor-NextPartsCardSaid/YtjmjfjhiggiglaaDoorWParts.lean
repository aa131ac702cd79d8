/- The walk of NextParts. -/
import Derived.Test.YtjmjfjhiggiglaaDoorLParts
namespace Go.Proofs.YtjmjfjhiggiglaaDoor
open Go Go.B Go.RowKit
set_option linter.unusedVariables false
set_option linter.unusedSectionVars false
set_option maxRecDepth 100000

theorem walk_NextParts (c0 : Array Value) (c1 : Array Value) (a2 : Int) (w : World) (f0 : Sh.fits w (.field 0 1 (.int .u64) (.field 1 1 (.int .u64) (.field 2 1 (.int .u64) (.field 3 1 (.int .u64) (.field 4 1 (.int .u64) (.stop 5)))))) c0.toList) (f1 : Sh.fits w (.field 0 1 (.int .i64) (.field 1 1 (.int .i64) (.field 2 1 (.int .i64) (.stop 3)))) c1.toList) (w2 : (Lit.int .i64 a2).wf = true) (hL : LaidOf w) :
    Calls Tryd.prog 5 #[.agg c0, .agg c1, .int .i64 a2] w fun e w' => e = .returned (.bool true) ∧ Ext w w' := by
  obtain ⟨x0, d0, i0⟩ := agg_arg (t := (.pr (.int .u64) (.pr (.int .u64) (.pr (.int .u64) (.pr (.int .u64) (.int .u64)))))) (by decide) f0
  replace d0 : D ⟨[], allM w⟩ (.agg [.int .u64 x0.1, .int .u64 x0.2.1, .int .u64 x0.2.2.1, .int .u64 x0.2.2.2.1, .int .u64 x0.2.2.2.2]) (.agg c0) := d0
  obtain ⟨x1, d1, i1⟩ := agg_arg (t := (.pr (.int .i64) (.pr (.int .i64) (.int .i64)))) (by decide) f1
  replace d1 : D ⟨[], allM w⟩ (.agg [.int .i64 x1.1, .int .i64 x1.2.1, .int .i64 x1.2.2]) (.agg c1) := d1
  exact law_calls curfewlaw08_NextParts_ok (x := ((x0.1, x0.2.1, x0.2.2.1, x0.2.2.2.1, x0.2.2.2.2), (x1.1, x1.2.1, x1.2.2), a2)) (law_NextParts x0 i0 x1 i1 a2 w2) (us := [.agg c0, .agg c1, .int .i64 a2]) (w := w) (by
    show Ds _ [.agg [.int .u64 x0.1, .int .u64 x0.2.1, .int .u64 x0.2.2.1, .int .u64 x0.2.2.2.1, .int .u64 x0.2.2.2.2], .agg [.int .i64 x1.1, .int .i64 x1.2.1, .int .i64 x1.2.2], .int .i64 a2] _
    simp only [Ds]
    exact ⟨_, _, rfl, d0, _, _, rfl, d1, _, _, rfl, by simp [D], rfl⟩) hL
end Go.Proofs.YtjmjfjhiggiglaaDoor
