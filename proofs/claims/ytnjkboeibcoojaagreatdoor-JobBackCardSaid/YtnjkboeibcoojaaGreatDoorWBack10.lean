/- The walk of JobBack. -/
import Derived.Test.YtnjkboeibcoojaaGreatDoorLBack10
import Derived.Test.YtnjkboeibcoojaaGreatDoorLdj
namespace Go.Proofs.YtnjkboeibcoojaaGreatDoor
open Go Go.B Go.RowKit
set_option linter.unusedVariables false
set_option linter.unusedSectionVars false
set_option maxRecDepth 100000

theorem walk_JobBack (c0 : Array Value) (c1 : Array Value) (w : World) (f0 : Sh.fits w (.field 0 1 (.int .u32) (.field 1 1 .bool (.field 2 5 (.field 0 1 (.int .u64) (.field 1 1 (.int .u64) (.field 2 1 (.int .u64) (.field 3 1 (.int .u64) (.field 4 1 (.int .u64) (.stop 5)))))) (.field 7 1 (.int .i64) (.field 8 1 (.int .i64) (.field 9 1 (.int .i64) (.field 10 1 (.int .i64) (.stop 11)))))))) c0.toList) (f1 : Sh.fits w (.field 0 1 (.int .u32) (.field 1 1 .str (.field 2 1 (.int .i64) (.field 3 1 (.int .i64) (.field 4 1 (.int .i64) (.field 5 1 (.int .i64) (.stop 6))))))) c1.toList) (hL : LaidOf w) :
    Calls Tryz.prog 4 #[.agg c0, .agg c1] w fun e w' => e = .returned (.bool true) ∧ Ext w w' := by
  obtain ⟨x0, d0, i0⟩ := agg_arg (t := (.pr (.int .u32) (.pr .bool (.pr (.pr (.int .u64) (.pr (.int .u64) (.pr (.int .u64) (.pr (.int .u64) (.int .u64))))) (.pr (.int .i64) (.pr (.int .i64) (.pr (.int .i64) (.int .i64)))))))) (by decide) f0
  replace d0 : D ⟨[], allM w⟩ (.agg [.int .u32 x0.1, .bool x0.2.1, .int .u64 x0.2.2.1.1, .int .u64 x0.2.2.1.2.1, .int .u64 x0.2.2.1.2.2.1, .int .u64 x0.2.2.1.2.2.2.1, .int .u64 x0.2.2.1.2.2.2.2, .int .i64 x0.2.2.2.1, .int .i64 x0.2.2.2.2.1, .int .i64 x0.2.2.2.2.2.1, .int .i64 x0.2.2.2.2.2.2]) (.agg c0) := d0
  obtain ⟨x1, d1, i1⟩ := agg_arg (t := (.pr (.int .u32) (.pr .str (.pr (.int .i64) (.pr (.int .i64) (.pr (.int .i64) (.int .i64))))))) (by decide) f1
  replace d1 : D ⟨[], allM w⟩ (.agg [.int .u32 x1.1, .str x1.2.1, .int .i64 x1.2.2.1, .int .i64 x1.2.2.2.1, .int .i64 x1.2.2.2.2.1, .int .i64 x1.2.2.2.2.2]) (.agg c1) := d1
  exact law_calls curfewlaw10_JobBack_ok (x := ((x0.1, x0.2.1, x0.2.2.1.1, x0.2.2.1.2.1, x0.2.2.1.2.2.1, x0.2.2.1.2.2.2.1, x0.2.2.1.2.2.2.2, x0.2.2.2.1, x0.2.2.2.2.1, x0.2.2.2.2.2.1, x0.2.2.2.2.2.2), (x1.1, x1.2.1, x1.2.2.1, x1.2.2.2.1, x1.2.2.2.2.1, x1.2.2.2.2.2))) (law_JobBack x0 i0 x1 i1) (us := [.agg c0, .agg c1]) (w := w) (by
    show Ds _ [.agg [.int .u32 x0.1, .bool x0.2.1, .int .u64 x0.2.2.1.1, .int .u64 x0.2.2.1.2.1, .int .u64 x0.2.2.1.2.2.1, .int .u64 x0.2.2.1.2.2.2.1, .int .u64 x0.2.2.1.2.2.2.2, .int .i64 x0.2.2.2.1, .int .i64 x0.2.2.2.2.1, .int .i64 x0.2.2.2.2.2.1, .int .i64 x0.2.2.2.2.2.2], .agg [.int .u32 x1.1, .str x1.2.1, .int .i64 x1.2.2.1, .int .i64 x1.2.2.2.1, .int .i64 x1.2.2.2.2.1, .int .i64 x1.2.2.2.2.2]] _
    simp only [Ds]
    exact ⟨_, _, rfl, d0, _, _, rfl, d1, rfl⟩) hL
end Go.Proofs.YtnjkboeibcoojaaGreatDoor
