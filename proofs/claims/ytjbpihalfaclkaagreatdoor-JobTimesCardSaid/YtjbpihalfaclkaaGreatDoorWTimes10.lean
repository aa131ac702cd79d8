/- The walk of JobTimes. -/
import Derived.Test.YtjbpihalfaclkaaGreatDoorLTimes10
import Derived.Test.YtjbpihalfaclkaaGreatDoorLdj
namespace Go.Proofs.YtjbpihalfaclkaaGreatDoor
open Go Go.B Go.RowKit
set_option linter.unusedVariables false
set_option linter.unusedSectionVars false
set_option maxRecDepth 100000

theorem walk_JobTimes (c0 : Array Value) (a1 : Option Addr) (len1 cap1 : Nat) (a2 : Int) (w : World) (f0 : Sh.fits w (.field 0 1 (.int .u32) (.field 1 1 .bool (.field 2 5 (.field 0 1 (.int .u64) (.field 1 1 (.int .u64) (.field 2 1 (.int .u64) (.field 3 1 (.int .u64) (.field 4 1 (.int .u64) (.stop 5)))))) (.field 7 1 (.int .i64) (.field 8 1 (.int .i64) (.field 9 1 (.int .i64) (.field 10 1 (.int .i64) (.stop 11)))))))) c0.toList) (f1 : Sh.fits w (.slice 2 (.field 0 1 (.int .i64) (.field 1 1 (.int .i64) (.stop 2)))) [.slice a1 len1 cap1]) (w2 : (Lit.int .i64 a2).wf = true) (hL : LaidOf w) :
    Calls Tryz.prog 4 #[.agg c0, .slice a1 len1 cap1, .int .i64 a2] w fun e w' => e = .returned (.bool true) ∧ Ext w w' := by
  obtain ⟨x0, d0, i0⟩ := agg_arg (t := (.pr (.int .u32) (.pr .bool (.pr (.pr (.int .u64) (.pr (.int .u64) (.pr (.int .u64) (.pr (.int .u64) (.int .u64))))) (.pr (.int .i64) (.pr (.int .i64) (.pr (.int .i64) (.int .i64)))))))) (by decide) f0
  replace d0 : D ⟨[], allM w⟩ (.agg [.int .u32 x0.1, .bool x0.2.1, .int .u64 x0.2.2.1.1, .int .u64 x0.2.2.1.2.1, .int .u64 x0.2.2.1.2.2.1, .int .u64 x0.2.2.1.2.2.2.1, .int .u64 x0.2.2.1.2.2.2.2, .int .i64 x0.2.2.2.1, .int .i64 x0.2.2.2.2.1, .int .i64 x0.2.2.2.2.2.1, .int .i64 x0.2.2.2.2.2.2]) (.agg c0) := d0
  obtain ⟨x1, d1, i1⟩ := sl_arg (t := (.pr (.int .i64) (.int .i64))) (by decide) f1
  exact law_calls curfewlaw10_JobTimes_ok (x := ((x0.1, x0.2.1, x0.2.2.1.1, x0.2.2.1.2.1, x0.2.2.1.2.2.1, x0.2.2.1.2.2.2.1, x0.2.2.1.2.2.2.2, x0.2.2.2.1, x0.2.2.2.2.1, x0.2.2.2.2.2.1, x0.2.2.2.2.2.2), x1, a2)) (law_JobTimes x0 i0 x1 i1 a2 w2) (us := [.agg c0, .slice a1 len1 cap1, .int .i64 a2]) (w := w) (by
    show Ds _ [.agg [.int .u32 x0.1, .bool x0.2.1, .int .u64 x0.2.2.1.1, .int .u64 x0.2.2.1.2.1, .int .u64 x0.2.2.1.2.2.1, .int .u64 x0.2.2.1.2.2.2.1, .int .u64 x0.2.2.1.2.2.2.2, .int .i64 x0.2.2.2.1, .int .i64 x0.2.2.2.2.1, .int .i64 x0.2.2.2.2.2.1, .int .i64 x0.2.2.2.2.2.2], .sl (.pr (.int .i64) (.int .i64)) x1 none, .int .i64 a2] _
    simp only [Ds]
    exact ⟨_, _, rfl, d0, _, _, rfl, d1, _, _, rfl, by simp [D], rfl⟩) hL
end Go.Proofs.YtjbpihalfaclkaaGreatDoor
