/- The law DaysTells, walked. -/
import Derived.Test.YtkhmkenankdakabDoorDaysO
namespace Go.Proofs.YtkhmkenankdakabDoor
open Go Go.RowKit
set_option linter.unusedSimpArgs false
set_option linter.unusedVariables false

theorem leap_yes (y : Int) (w : World) (b : Bool) (h : Cal.leapB y = b) : Calls Tryd.prog 53 #[.int .i64 y] w fun e w' => e = .returned (.bool b) ∧ Ext w w' := by
  have k := leap_any y w; rw [h] at k; exact k

theorem refLeap_yes (y : Int) (w : World) (b : Bool) (h : Cal.leapB y = b) : Calls Tryd.prog 52 #[.int .i64 y] w fun e w' => e = .returned (.bool b) ∧ w = w' := by
  have k := refLeap_any y w; rw [h] at k; exact k