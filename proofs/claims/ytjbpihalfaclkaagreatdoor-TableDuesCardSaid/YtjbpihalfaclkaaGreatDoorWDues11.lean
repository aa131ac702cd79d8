/- The walk of TableDues. -/
import Derived.Test.YtjbpihalfaclkaaGreatDoorLDues11
namespace Go.Proofs.YtjbpihalfaclkaaGreatDoor
open Go Go.B Go.RowKit
set_option linter.unusedVariables false
set_option linter.unusedSectionVars false
set_option maxRecDepth 100000

theorem walk_TableDues (a0 : Option Addr) (len0 cap0 : Nat) (w : World) (f0 : Sh.fits w (.slice 17 (.field 0 11 (.field 0 1 (.int .u32) (.field 1 1 .bool (.field 2 5 (.field 0 1 (.int .u64) (.field 1 1 (.int .u64) (.field 2 1 (.int .u64) (.field 3 1 (.int .u64) (.field 4 1 (.int .u64) (.stop 5)))))) (.field 7 1 (.int .i64) (.field 8 1 (.int .i64) (.field 9 1 (.int .i64) (.field 10 1 (.int .i64) (.stop 11)))))))) (.field 11 1 .bool (.field 12 1 (.int .i64) (.field 13 3 (.field 0 1 (.int .u64) (.field 1 1 (.int .i64) (.field 2 1 (.int .i64) (.stop 3)))) (.field 16 1 (.slice 1 (.int .i64)) (.stop 17))))))) [.slice a0 len0 cap0]) (hL : LaidOf w) :
    Calls Tryz.prog 7 #[.slice a0 len0 cap0] w fun e w' => e = .returned (.bool true) ∧ Ext w w' := by
  obtain ⟨x0, d0, i0⟩ := sl_arg (t := (.pr (.pr (.int .u32) (.pr .bool (.pr (.pr (.int .u64) (.pr (.int .u64) (.pr (.int .u64) (.pr (.int .u64) (.int .u64))))) (.pr (.int .i64) (.pr (.int .i64) (.pr (.int .i64) (.int .i64))))))) (.pr .bool (.pr (.int .i64) (.pr (.pr (.int .u64) (.pr (.int .i64) (.int .i64))) (.sl (.int .i64))))))) (by decide) f0
  exact law_calls curfewlaw11_TableDues_ok (x := x0) (law_TableDues x0 i0) (us := [.slice a0 len0 cap0]) (w := w) (by
    show Ds _ [.sl (.pr (.pr (.int .u32) (.pr .bool (.pr (.pr (.int .u64) (.pr (.int .u64) (.pr (.int .u64) (.pr (.int .u64) (.int .u64))))) (.pr (.int .i64) (.pr (.int .i64) (.pr (.int .i64) (.int .i64))))))) (.pr .bool (.pr (.int .i64) (.pr (.pr (.int .u64) (.pr (.int .i64) (.int .i64))) (.sl (.int .i64)))))) x0 none] _
    simp only [Ds]
    exact ⟨_, _, rfl, d0, rfl⟩) hL
end Go.Proofs.YtjbpihalfaclkaaGreatDoor
