/- The walk of FieldTexts. -/
import Derived.Test.YtcbgnicdcdfmiaaDoorLTextsF
import Derived.Test.YtcbgnicdcdfmiaaDoorLd
namespace Go.Proofs.YtcbgnicdcdfmiaaDoor
open Go Go.B Go.RowKit
set_option linter.unusedVariables false
set_option linter.unusedSectionVars false
set_option maxRecDepth 100000

theorem walk_FieldTexts (a0 : Int) (a1 : Option Addr) (len1 cap1 : Nat) (w : World) (w0 : (Lit.int .i64 a0).wf = true) (f1 : Sh.fits w (.slice 1 (.int .u64)) [.slice a1 len1 cap1]) (hL : LaidOf w) :
    Calls Tryd.prog 4 #[.int .i64 a0, .slice a1 len1 cap1] w fun e w' => e = .returned (.bool true) ∧ Ext w w' := by
  obtain ⟨x1, d1, i1⟩ := sl_arg (t := (.int .u64)) (by decide) f1
  exact law_calls curfewlaw06_FieldTexts_ok (x := (a0, x1)) (law_FieldTexts a0 w0 x1 i1) (us := [.int .i64 a0, .slice a1 len1 cap1]) (w := w) (by
    show Ds _ [.int .i64 a0, .sl (.int .u64) x1 none] _
    simp only [Ds]
    exact ⟨_, _, rfl, by simp [D], _, _, rfl, d1, rfl⟩) hL
end Go.Proofs.YtcbgnicdcdfmiaaDoor
