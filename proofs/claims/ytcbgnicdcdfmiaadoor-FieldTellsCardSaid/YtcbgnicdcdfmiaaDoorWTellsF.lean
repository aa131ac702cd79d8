/- The walk of FieldTells. -/
import Derived.Test.YtcbgnicdcdfmiaaDoorLTellsF
import Derived.Test.YtcbgnicdcdfmiaaDoorLd
namespace Go.Proofs.YtcbgnicdcdfmiaaDoor
open Go Go.B Go.RowKit
set_option linter.unusedVariables false
set_option linter.unusedSectionVars false
set_option maxRecDepth 100000

theorem walk_FieldTells (a0 : Option Addr) (len0 cap0 : Nat) (a1 : Int) (a2 : Option Addr) (len2 cap2 : Nat) (w : World) (f0 : Sh.fits w (.slice 1 (.int .i64)) [.slice a0 len0 cap0]) (w1 : (Lit.int .u64 a1).wf = true) (f2 : Sh.fits w (.slice 1 .str) [.slice a2 len2 cap2]) (hL : LaidOf w) :
    Calls Tryd.prog 7 #[.slice a0 len0 cap0, .int .u64 a1, .slice a2 len2 cap2] w fun e w' => e = .returned (.bool true) ∧ Ext w w' := by
  obtain ⟨x0, d0, i0⟩ := sl_arg (t := (.int .i64)) (by decide) f0
  obtain ⟨x2, d2, i2⟩ := sl_arg (t := .str) (by decide) f2
  exact law_calls curfewlaw06_FieldTells_ok (x := (x0, a1, x2)) (law_FieldTells x0 i0 a1 w1 x2 i2) (us := [.slice a0 len0 cap0, .int .u64 a1, .slice a2 len2 cap2]) (w := w) (by
    show Ds _ [.sl (.int .i64) x0 none, .int .u64 a1, .sl .str x2 none] _
    simp only [Ds]
    exact ⟨_, _, rfl, d0, _, _, rfl, by simp [D], _, _, rfl, d2, rfl⟩) hL
end Go.Proofs.YtcbgnicdcdfmiaaDoor
