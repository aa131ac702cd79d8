/- The walk of FieldBack. -/
import Derived.Test.YtcbgnicdcdfmiaaDoorLBackF
import Derived.Test.YtcbgnicdcdfmiaaDoorLd
namespace Go.Proofs.YtcbgnicdcdfmiaaDoor
open Go Go.B Go.RowKit
set_option linter.unusedVariables false
set_option linter.unusedSectionVars false
set_option maxRecDepth 100000

theorem walk_FieldBack (a0 : Int) (a1 : Int) (a2 : ByteArray) (w : World) (w0 : (Lit.int .i64 a0).wf = true) (w1 : (Lit.int .u64 a1).wf = true) (w2 : a2.size ≤ maxLen) (hL : LaidOf w) :
    Calls Tryd.prog 5 #[.int .i64 a0, .int .u64 a1, .string a2] w fun e w' => e = .returned (.bool true) ∧ Ext w w' := by
  exact law_calls curfewlaw06_FieldBack_ok (x := (a0, a1, a2)) (law_FieldBack a0 w0 a1 w1 a2 w2) (us := [.int .i64 a0, .int .u64 a1, .string a2]) (w := w) (by
    show Ds _ [.int .i64 a0, .int .u64 a1, .str a2] _
    simp only [Ds]
    exact ⟨_, _, rfl, by simp [D], _, _, rfl, by simp [D], _, _, rfl, by simp [D], rfl⟩) hL
end Go.Proofs.YtcbgnicdcdfmiaaDoor
