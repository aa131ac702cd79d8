/- The walk of NextTells. -/
import Derived.Test.YtiffoefhadgdnaaDoorLTells
namespace Go.Proofs.YtiffoefhadgdnaaDoor
open Go Go.B Go.RowKit
set_option linter.unusedVariables false
set_option linter.unusedSectionVars false
set_option maxRecDepth 100000

theorem walk_NextTells (c0 : Array Value) (a1 : Option Addr) (len1 cap1 : Nat) (w : World) (f0 : Sh.fits w (.field 0 1 (.int .u64) (.field 1 1 (.int .u64) (.field 2 1 (.int .u64) (.field 3 1 (.int .u64) (.field 4 1 (.int .u64) (.stop 5)))))) c0.toList) (f1 : Sh.fits w (.slice 1 (.int .i64)) [.slice a1 len1 cap1]) (hL : LaidOf w) :
    Calls Tryd.prog 5 #[.agg c0, .slice a1 len1 cap1] w fun e w' => e = .returned (.bool true) ∧ Ext w w' := by
  obtain ⟨x0, d0, i0⟩ := agg_arg (t := (.pr (.int .u64) (.pr (.int .u64) (.pr (.int .u64) (.pr (.int .u64) (.int .u64)))))) (by decide) f0
  replace d0 : D ⟨[], allM w⟩ (.agg [.int .u64 x0.1, .int .u64 x0.2.1, .int .u64 x0.2.2.1, .int .u64 x0.2.2.2.1, .int .u64 x0.2.2.2.2]) (.agg c0) := d0
  obtain ⟨x1, d1, i1⟩ := sl_arg (t := (.int .i64)) (by decide) f1
  exact law_calls curfewlaw08_NextTells_ok (x := ((x0.1, x0.2.1, x0.2.2.1, x0.2.2.2.1, x0.2.2.2.2), x1)) (law_NextTells x0 i0 x1 i1) (us := [.agg c0, .slice a1 len1 cap1]) (w := w) (by
    show Ds _ [.agg [.int .u64 x0.1, .int .u64 x0.2.1, .int .u64 x0.2.2.1, .int .u64 x0.2.2.2.1, .int .u64 x0.2.2.2.2], .sl (.int .i64) x1 none] _
    simp only [Ds]
    exact ⟨_, _, rfl, d0, _, _, rfl, d1, rfl⟩) hL
end Go.Proofs.YtiffoefhadgdnaaDoor
