/- The walk of DueRises. -/
import Derived.Test.YtjmjfjhiggiglaaDoorLRises
namespace Go.Proofs.YtjmjfjhiggiglaaDoor
open Go Go.B Go.RowKit
set_option linter.unusedVariables false
set_option linter.unusedSectionVars false
set_option maxRecDepth 100000

theorem walk_DueRises (c0 : Array Value) (a1 : Option Addr) (len1 cap1 : Nat) (w : World) (f0 : Sh.fits w (.field 0 11 (.field 0 1 (.int .u32) (.field 1 1 .bool (.field 2 5 (.field 0 1 (.int .u64) (.field 1 1 (.int .u64) (.field 2 1 (.int .u64) (.field 3 1 (.int .u64) (.field 4 1 (.int .u64) (.stop 5)))))) (.field 7 1 (.int .i64) (.field 8 1 (.int .i64) (.field 9 1 (.int .i64) (.field 10 1 (.int .i64) (.stop 11)))))))) (.field 11 1 .bool (.field 12 1 (.int .i64) (.field 13 3 (.field 0 1 (.int .u64) (.field 1 1 (.int .i64) (.field 2 1 (.int .i64) (.stop 3)))) (.field 16 1 (.slice 1 (.int .i64)) (.stop 17)))))) c0.toList) (f1 : Sh.fits w (.slice 6 (.field 0 1 (.int .i64) (.field 1 1 (.int .i64) (.field 2 1 (.int .u64) (.field 3 1 (.int .u64) (.field 4 1 .bool (.field 5 1 .bool (.stop 6)))))))) [.slice a1 len1 cap1]) (hL : LaidOf w) :
    Calls Tryd.prog 4 #[.agg c0, .slice a1 len1 cap1] w fun e w' => e = .returned (.bool true) ∧ Ext w w' := by
  obtain ⟨x0, d0, i0⟩ := agg_arg (t := (.pr (.pr (.int .u32) (.pr .bool (.pr (.pr (.int .u64) (.pr (.int .u64) (.pr (.int .u64) (.pr (.int .u64) (.int .u64))))) (.pr (.int .i64) (.pr (.int .i64) (.pr (.int .i64) (.int .i64))))))) (.pr .bool (.pr (.int .i64) (.pr (.pr (.int .u64) (.pr (.int .i64) (.int .i64))) (.sl (.int .i64))))))) (by decide) f0
  replace d0 : D ⟨[], allM w⟩ (.agg [.int .u32 x0.1.1, .bool x0.1.2.1, .int .u64 x0.1.2.2.1.1, .int .u64 x0.1.2.2.1.2.1, .int .u64 x0.1.2.2.1.2.2.1, .int .u64 x0.1.2.2.1.2.2.2.1, .int .u64 x0.1.2.2.1.2.2.2.2, .int .i64 x0.1.2.2.2.1, .int .i64 x0.1.2.2.2.2.1, .int .i64 x0.1.2.2.2.2.2.1, .int .i64 x0.1.2.2.2.2.2.2, .bool x0.2.1, .int .i64 x0.2.2.1, .int .u64 x0.2.2.2.1.1, .int .i64 x0.2.2.2.1.2.1, .int .i64 x0.2.2.2.1.2.2, .sl (.int .i64) x0.2.2.2.2 none]) (.agg c0) := d0
  obtain ⟨x1, d1, i1⟩ := sl_arg (t := (.pr (.int .i64) (.pr (.int .i64) (.pr (.int .u64) (.pr (.int .u64) (.pr .bool .bool)))))) (by decide) f1
  exact law_calls curfewlaw13_DueRises_ok (x := ((x0.1.1, x0.1.2.1, x0.1.2.2.1.1, x0.1.2.2.1.2.1, x0.1.2.2.1.2.2.1, x0.1.2.2.1.2.2.2.1, x0.1.2.2.1.2.2.2.2, x0.1.2.2.2.1, x0.1.2.2.2.2.1, x0.1.2.2.2.2.2.1, x0.1.2.2.2.2.2.2, x0.2.1, x0.2.2.1, x0.2.2.2.1.1, x0.2.2.2.1.2.1, x0.2.2.2.1.2.2, x0.2.2.2.2), x1)) (law_DueRises x0 i0 x1 i1) (us := [.agg c0, .slice a1 len1 cap1]) (w := w) (by
    show Ds _ [.agg [.int .u32 x0.1.1, .bool x0.1.2.1, .int .u64 x0.1.2.2.1.1, .int .u64 x0.1.2.2.1.2.1, .int .u64 x0.1.2.2.1.2.2.1, .int .u64 x0.1.2.2.1.2.2.2.1, .int .u64 x0.1.2.2.1.2.2.2.2, .int .i64 x0.1.2.2.2.1, .int .i64 x0.1.2.2.2.2.1, .int .i64 x0.1.2.2.2.2.2.1, .int .i64 x0.1.2.2.2.2.2.2, .bool x0.2.1, .int .i64 x0.2.2.1, .int .u64 x0.2.2.2.1.1, .int .i64 x0.2.2.2.1.2.1, .int .i64 x0.2.2.2.1.2.2, .sl (.int .i64) x0.2.2.2.2 none], .sl (.pr (.int .i64) (.pr (.int .i64) (.pr (.int .u64) (.pr (.int .u64) (.pr .bool .bool))))) x1 none] _
    simp only [Ds]
    exact ⟨_, _, rfl, d0, _, _, rfl, d1, rfl⟩) hL
end Go.Proofs.YtjmjfjhiggiglaaDoor
