/- The law DaysAdds, walked. -/
import Derived.Test.YtkhmkenankdakabDoorDaysM
namespace Go.Proofs.YtkhmkenankdakabDoor
open Go Go.RowKit
set_option linter.unusedSimpArgs false
set_option linter.unusedVariables false

theorem refAt_day (n : Int) (w : World) (h : dayB n = true) : Calls Tryd.prog 38 #[.int .i64 n] w fun e w' => e = .returned (.agg #[.int .i64 (Cal.dat n).1, .int .i64 (Cal.dat n).2.1, .int .i64 (Cal.dat n).2.2]) ∧ Ext w w' := refAt_any n w h