/- The walk of NextTight. -/
import Derived.Test.YtiffoefhadgdnaaDoorLTight
namespace Go.Proofs.YtiffoefhadgdnaaDoor
open Go Go.B Go.RowKit
set_option linter.unusedVariables false
set_option linter.unusedSectionVars false
set_option maxRecDepth 100000

theorem walk_NextTight (c0 : Array Value) (a1 : Int) (a2 : Option Addr) (len2 cap2 : Nat) (w : World) (f0 : Sh.fits w (.field 0 1 (.int .u64) (.field 1 1 (.int .u64) (.field 2 1 (.int .u64) (.field 3 1 (.int .u64) (.field 4 1 (.int .u64) (.stop 5)))))) c0.toList) (w1 : (Lit.int .i64 a1).wf = true) (f2 : Sh.fits w (.slice 1 (.int .u64)) [.slice a2 len2 cap2]) (hL : LaidOf w) :
    Calls Tryd.prog 7 #[.agg c0, .int .i64 a1, .slice a2 len2 cap2] w fun e w' => e = .returned (.bool true) ∧ Ext w w' := by
  obtain ⟨x0, d0, i0⟩ := agg_arg (t := (.pr (.int .u64) (.pr (.int .u64) (.pr (.int .u64) (.pr (.int .u64) (.int .u64)))))) (by decide) f0
  replace d0 : D ⟨[], allM w⟩ (.agg [.int .u64 x0.1, .int .u64 x0.2.1, .int .u64 x0.2.2.1, .int .u64 x0.2.2.2.1, .int .u64 x0.2.2.2.2]) (.agg c0) := d0
  obtain ⟨x2, d2, i2⟩ := sl_arg (t := (.int .u64)) (by decide) f2
  exact law_calls curfewlaw08_NextTight_ok (x := ((x0.1, x0.2.1, x0.2.2.1, x0.2.2.2.1, x0.2.2.2.2), a1, x2)) (law_NextTight x0 i0 a1 w1 x2 i2) (us := [.agg c0, .int .i64 a1, .slice a2 len2 cap2]) (w := w) (by
    show Ds _ [.agg [.int .u64 x0.1, .int .u64 x0.2.1, .int .u64 x0.2.2.1, .int .u64 x0.2.2.2.1, .int .u64 x0.2.2.2.2], .int .i64 a1, .sl (.int .u64) x2 none] _
    simp only [Ds]
    exact ⟨_, _, rfl, d0, _, _, rfl, by simp [D], _, _, rfl, d2, rfl⟩) hL
end Go.Proofs.YtiffoefhadgdnaaDoor
