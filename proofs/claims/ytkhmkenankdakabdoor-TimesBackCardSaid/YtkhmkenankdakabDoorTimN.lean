/- times.Parse of a text of another length. -/
import Derived.Test.YtkhmkenankdakabDoorTimT
import Derived.WalkMore
namespace Go.Proofs.YtkhmkenankdakabDoor
open Go Go.RowKit
set_option linter.unusedSimpArgs false
set_option linter.unusedVariables false

theorem at_zero (w : World) : Calls Tryd.prog 16 #[.int .i64 0] w fun e w' => e = .returned (.tuple #[.agg #[.int .i64 1970, .int .i64 1, .int .i64 1, .int .i64 0, .int .i64 0, .int .i64 0], .int .i64 0]) ∧ Ext w w' := by
  have k := cvAt_yes 0 1970 1 1 w (by decide) (by have := Cal.dat_num (y := 1970) (m := 1) (d := 1) (by decide); have e : Cal.num 1970 1 1 = 0 / 86400 := by decide +kernel
                                                  rw [e] at this; exact this)
  exact k

set_option maxHeartbeats 2000000 in
set_option maxRecDepth 100000 in
theorem parse_short (s : ByteArray) (w : World) (hL : DaysLaid w) (hs : s.size ≤ maxLen) (h19 : s.size ≠ 19) :
    Calls Tryd.prog 27 #[.string s] w fun e w' => e = .returned (.tuple #[.int .i64 0, .int .i64 151]) ∧ Ext w w' := by
  unfold maxLen at hs
  have hs9 : ((s.size : Int) == 19) = false := by simp; omega
  go_enter Tryd.func27, Tryd.ntmps27
  go_wp2_with fail
  go_step3
  go_wp2_with fail
  go_step3
  go_wp2_with fail
  refine wp_loop_unroll 1 (Unr.step ?_)
  go_wp2_with (first | (go_at_call 20; (with_reducible refine (cvOf_no 0 0 0 0 0 0 _ (hL.ext (by (repeat (first | with_reducible exact Ext.refl _ | with_reducible assumption | exact Ext.mk (by with_reducible assumption) | with_reducible refine Ext.alloc ?_ _ | with_reducible refine Ext.drewN ?_ _ | with_reducible refine Ext.drew ?_ | with_reducible refine Ext.setCell ?_ (by first | (simp; done) | assumption | (simp; omega)) _ | (with_reducible refine Ext.trans ?_ (by with_reducible assumption)))))) (by decide)).mono ?_); rintro e w5 ⟨rfl, E5⟩; have hc5 := E5.2.1; have hf5 := E5.2.2; have hz5 := E5.size; have ht5 := E5.sizes; (try simp [Nat.add_one_le_iff] at hz5); (try have hy5 := Nat.le_of_lt hz5); have F5 : Ext w w5 := (by (repeat (first | with_reducible exact Ext.refl _ | with_reducible assumption | exact Ext.mk (by with_reducible assumption) | with_reducible refine Ext.alloc ?_ _ | with_reducible refine Ext.drewN ?_ _ | with_reducible refine Ext.drew ?_ | with_reducible refine Ext.setCell ?_ (by first | (simp; done) | assumption | (simp; omega)) _ | (with_reducible refine Ext.trans ?_ (by with_reducible assumption))))); have kc5 := F5.2.1; have kf5 := F5.2.2; have kz5 := F5.size; have kt5 := F5.sizes; (try simp [Nat.add_one_le_iff] at kz5); (try have ky5 := Nat.le_of_lt kz5)) | (go_at_call 16; (with_reducible refine (at_zero _).mono ?_); rintro e w6 ⟨rfl, E6⟩; have hc6 := E6.2.1; have hf6 := E6.2.2; have hz6 := E6.size; have ht6 := E6.sizes; (try simp [Nat.add_one_le_iff] at hz6); (try have hy6 := Nat.le_of_lt hz6); have F6 : Ext w w6 := (by (repeat (first | with_reducible exact Ext.refl _ | with_reducible assumption | exact Ext.mk (by with_reducible assumption) | with_reducible refine Ext.alloc ?_ _ | with_reducible refine Ext.drewN ?_ _ | with_reducible refine Ext.drew ?_ | with_reducible refine Ext.setCell ?_ (by first | (simp; done) | assumption | (simp; omega)) _ | (with_reducible refine Ext.trans ?_ (by with_reducible assumption))))); have kc6 := F6.2.1; have kf6 := F6.2.2; have kz6 := F6.size; have kt6 := F6.sizes; (try simp [Nat.add_one_le_iff] at kz6); (try have ky6 := Nat.le_of_lt kz6)))
  rw [Exit.noGoto_ret]
  go_ret2
  refine ⟨rfl, ?_⟩
  (repeat (first | with_reducible exact Ext.refl _ | with_reducible assumption | exact Ext.mk (by with_reducible assumption) | with_reducible refine Ext.alloc ?_ _ | with_reducible refine Ext.drewN ?_ _ | with_reducible refine Ext.drew ?_ | with_reducible refine Ext.setCell ?_ (by first | (simp; done) | assumption | (simp; omega)) _ | (with_reducible refine Ext.trans ?_ (by with_reducible assumption))))
end Go.Proofs.YtkhmkenankdakabDoor
