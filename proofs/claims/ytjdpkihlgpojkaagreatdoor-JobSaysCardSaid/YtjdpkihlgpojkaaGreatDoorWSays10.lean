/- The walk of JobSays. -/
import Derived.Test.YtjdpkihlgpojkaaGreatDoorLSays10
import Derived.Test.YtjdpkihlgpojkaaGreatDoorLdj
namespace Go.Proofs.YtjdpkihlgpojkaaGreatDoor
open Go Go.B Go.RowKit
set_option linter.unusedVariables false
set_option linter.unusedSectionVars false
set_option maxRecDepth 100000

theorem walk_JobSays (a0 : Option Addr) (len0 cap0 : Nat) (w : World) (f0 : Sh.fits w (.slice 6 (.field 0 1 (.int .u32) (.field 1 1 .str (.field 2 1 (.int .i64) (.field 3 1 (.int .i64) (.field 4 1 (.int .i64) (.field 5 1 (.int .i64) (.stop 6)))))))) [.slice a0 len0 cap0]) (hL : LaidOf w) :
    Calls Tryz.prog 3 #[.slice a0 len0 cap0] w fun e w' => e = .returned (.bool true) ∧ Ext w w' := by
  obtain ⟨x0, d0, i0⟩ := sl_arg (t := (.pr (.int .u32) (.pr .str (.pr (.int .i64) (.pr (.int .i64) (.pr (.int .i64) (.int .i64))))))) (by decide) f0
  exact law_calls curfewlaw10_JobSays_ok (x := x0) (law_JobSays x0 i0) (us := [.slice a0 len0 cap0]) (w := w) (by
    show Ds _ [.sl (.pr (.int .u32) (.pr .str (.pr (.int .i64) (.pr (.int .i64) (.pr (.int .i64) (.int .i64)))))) x0 none] _
    simp only [Ds]
    exact ⟨_, _, rfl, d0, rfl⟩) hL
end Go.Proofs.YtjdpkihlgpojkaaGreatDoor
