/- The walk of FieldReads. -/
import Derived.Test.YtcbgnicdcdfmiaaDoorLReads
import Derived.Test.YtcbgnicdcdfmiaaDoorLd
namespace Go.Proofs.YtcbgnicdcdfmiaaDoor
open Go Go.B Go.RowKit
set_option linter.unusedVariables false
set_option linter.unusedSectionVars false
set_option maxRecDepth 100000

theorem walk_FieldReads (a0 : Int) (a1 : Option Addr) (len1 cap1 : Nat) (w : World) (w0 : (Lit.int .i64 a0).wf = true) (f1 : Sh.fits w (.slice 1 .str) [.slice a1 len1 cap1]) (hL : LaidOf w) :
    Calls Tryd.prog 3 #[.int .i64 a0, .slice a1 len1 cap1] w fun e w' => e = .returned (.bool true) ∧ Ext w w' := by
  obtain ⟨x1, d1, i1⟩ := sl_arg (t := .str) (by decide) f1
  exact law_calls curfewlaw06_FieldReads_ok (x := (a0, x1)) (law_FieldReads a0 w0 x1 i1) (us := [.int .i64 a0, .slice a1 len1 cap1]) (w := w) (by
    show Ds _ [.int .i64 a0, .sl .str x1 none] _
    simp only [Ds]
    exact ⟨_, _, rfl, by simp [D], _, _, rfl, d1, rfl⟩) hL
end Go.Proofs.YtcbgnicdcdfmiaaDoor
