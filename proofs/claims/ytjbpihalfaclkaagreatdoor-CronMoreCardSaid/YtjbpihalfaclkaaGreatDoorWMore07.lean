/- The walk of CronMore. -/
import Derived.Test.YtjbpihalfaclkaaGreatDoorLMore07
import Derived.Test.YtjbpihalfaclkaaGreatDoorLdc
namespace Go.Proofs.YtjbpihalfaclkaaGreatDoor
open Go Go.B Go.RowKit
set_option linter.unusedVariables false
set_option linter.unusedSectionVars false
set_option maxRecDepth 100000

theorem walk_CronMore (c0 : Array Value) (c1 : Array Value) (a2 : Option Addr) (len2 cap2 : Nat) (w : World) (f0 : Sh.fits w (.field 0 1 (.int .u64) (.field 1 1 (.int .u64) (.field 2 1 (.int .u64) (.field 3 1 (.int .u64) (.field 4 1 (.int .u64) (.stop 5)))))) c0.toList) (f1 : Sh.fits w (.field 0 1 (.int .u64) (.field 1 1 (.int .u64) (.field 2 1 (.int .u64) (.field 3 1 (.int .u64) (.field 4 1 (.int .u64) (.stop 5)))))) c1.toList) (f2 : Sh.fits w (.slice 1 (.int .i64)) [.slice a2 len2 cap2]) (hL : LaidOf w) :
    Calls Tryz.prog 12 #[.agg c0, .agg c1, .slice a2 len2 cap2] w fun e w' => e = .returned (.bool true) ∧ Ext w w' := by
  obtain ⟨x0, d0, i0⟩ := agg_arg (t := (.pr (.int .u64) (.pr (.int .u64) (.pr (.int .u64) (.pr (.int .u64) (.int .u64)))))) (by decide) f0
  replace d0 : D ⟨[], allM w⟩ (.agg [.int .u64 x0.1, .int .u64 x0.2.1, .int .u64 x0.2.2.1, .int .u64 x0.2.2.2.1, .int .u64 x0.2.2.2.2]) (.agg c0) := d0
  obtain ⟨x1, d1, i1⟩ := agg_arg (t := (.pr (.int .u64) (.pr (.int .u64) (.pr (.int .u64) (.pr (.int .u64) (.int .u64)))))) (by decide) f1
  replace d1 : D ⟨[], allM w⟩ (.agg [.int .u64 x1.1, .int .u64 x1.2.1, .int .u64 x1.2.2.1, .int .u64 x1.2.2.2.1, .int .u64 x1.2.2.2.2]) (.agg c1) := d1
  obtain ⟨x2, d2, i2⟩ := sl_arg (t := (.int .i64)) (by decide) f2
  exact law_calls curfewlaw07_CronMore_ok (x := ((x0.1, x0.2.1, x0.2.2.1, x0.2.2.2.1, x0.2.2.2.2), (x1.1, x1.2.1, x1.2.2.1, x1.2.2.2.1, x1.2.2.2.2), x2)) (law_CronMore x0 i0 x1 i1 x2 i2) (us := [.agg c0, .agg c1, .slice a2 len2 cap2]) (w := w) (by
    show Ds _ [.agg [.int .u64 x0.1, .int .u64 x0.2.1, .int .u64 x0.2.2.1, .int .u64 x0.2.2.2.1, .int .u64 x0.2.2.2.2], .agg [.int .u64 x1.1, .int .u64 x1.2.1, .int .u64 x1.2.2.1, .int .u64 x1.2.2.2.1, .int .u64 x1.2.2.2.2], .sl (.int .i64) x2 none] _
    simp only [Ds]
    exact ⟨_, _, rfl, d0, _, _, rfl, d1, _, _, rfl, d2, rfl⟩) hL
end Go.Proofs.YtjbpihalfaclkaaGreatDoor
