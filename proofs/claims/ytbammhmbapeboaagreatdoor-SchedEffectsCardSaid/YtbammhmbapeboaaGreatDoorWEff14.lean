/- The walk of SchedEffects. -/
import Derived.Test.YtbammhmbapeboaaGreatDoorLEff14
namespace Go.Proofs.YtbammhmbapeboaaGreatDoor
open Go Go.B Go.RowKit
set_option linter.unusedVariables false
set_option linter.unusedSectionVars false
set_option maxRecDepth 100000

theorem walk_SchedEffects (c0 : Array Value) (c1 : Array Value) (w : World) (f0 : Sh.fits w (.field 0 1 (.slice 4 (.field 0 1 (.int .u64) (.field 1 1 (.int .u32) (.field 2 1 (.int .i64) (.field 3 1 (.int .i64) (.stop 4)))))) (.field 1 1 .bool (.field 2 1 (.int .i64) (.field 3 1 (.int .u64) (.field 4 2 (.field 0 1 (.int .i64) (.field 1 1 (.slice 1 (.int .u32)) (.stop 2))) (.stop 6)))))) c0.toList) (f1 : Sh.fits w (.field 0 1 (.slice 4 (.field 0 1 (.int .u64) (.field 1 1 (.int .u32) (.field 2 1 (.int .i64) (.field 3 1 (.int .i64) (.stop 4)))))) (.field 1 1 .bool (.field 2 1 (.int .i64) (.field 3 1 (.int .u64) (.field 4 2 (.field 0 1 (.int .i64) (.field 1 1 (.slice 1 (.int .u32)) (.stop 2))) (.stop 6)))))) c1.toList) (hL : LaidOf w) :
    Calls Tryz.prog 3 #[.agg c0, .agg c1] w fun e w' => e = .returned (.bool true) ∧ Ext w w' := by
  obtain ⟨x0, d0, i0⟩ := agg_arg (t := (.pr (.sl (.pr (.int .u64) (.pr (.int .u32) (.pr (.int .i64) (.int .i64))))) (.pr .bool (.pr (.int .i64) (.pr (.int .u64) (.pr (.int .i64) (.sl (.int .u32)))))))) (by decide) f0
  replace d0 : D ⟨[], allM w⟩ (.agg [.sl (.pr (.int .u64) (.pr (.int .u32) (.pr (.int .i64) (.int .i64)))) x0.1 none, .bool x0.2.1, .int .i64 x0.2.2.1, .int .u64 x0.2.2.2.1, .int .i64 x0.2.2.2.2.1, .sl (.int .u32) x0.2.2.2.2.2 none]) (.agg c0) := d0
  obtain ⟨x1, d1, i1⟩ := agg_arg (t := (.pr (.sl (.pr (.int .u64) (.pr (.int .u32) (.pr (.int .i64) (.int .i64))))) (.pr .bool (.pr (.int .i64) (.pr (.int .u64) (.pr (.int .i64) (.sl (.int .u32)))))))) (by decide) f1
  replace d1 : D ⟨[], allM w⟩ (.agg [.sl (.pr (.int .u64) (.pr (.int .u32) (.pr (.int .i64) (.int .i64)))) x1.1 none, .bool x1.2.1, .int .i64 x1.2.2.1, .int .u64 x1.2.2.2.1, .int .i64 x1.2.2.2.2.1, .sl (.int .u32) x1.2.2.2.2.2 none]) (.agg c1) := d1
  exact law_calls curfewlaw14_SchedEffects_ok (x := ((x0.1, x0.2.1, x0.2.2.1, x0.2.2.2.1, x0.2.2.2.2.1, x0.2.2.2.2.2), (x1.1, x1.2.1, x1.2.2.1, x1.2.2.2.1, x1.2.2.2.2.1, x1.2.2.2.2.2))) (law_SchedEffects x0 i0 x1 i1) (us := [.agg c0, .agg c1]) (w := w) (by
    show Ds _ [.agg [.sl (.pr (.int .u64) (.pr (.int .u32) (.pr (.int .i64) (.int .i64)))) x0.1 none, .bool x0.2.1, .int .i64 x0.2.2.1, .int .u64 x0.2.2.2.1, .int .i64 x0.2.2.2.2.1, .sl (.int .u32) x0.2.2.2.2.2 none], .agg [.sl (.pr (.int .u64) (.pr (.int .u32) (.pr (.int .i64) (.int .i64)))) x1.1 none, .bool x1.2.1, .int .i64 x1.2.2.1, .int .u64 x1.2.2.2.1, .int .i64 x1.2.2.2.2.1, .sl (.int .u32) x1.2.2.2.2.2 none]] _
    simp only [Ds]
    exact ⟨_, _, rfl, d0, _, _, rfl, d1, rfl⟩) hL
end Go.Proofs.YtbammhmbapeboaaGreatDoor
