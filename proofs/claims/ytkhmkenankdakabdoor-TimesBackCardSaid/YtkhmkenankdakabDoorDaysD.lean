import Derived.Test.YtkhmkenankdakabDoorDaysC
import Derived.Lib.Hide
namespace Go.Proofs.YtkhmkenankdakabDoor
open Go Go.RowKit
set_option linter.unusedSimpArgs false
set_option linter.unusedVariables false

theorem at_no (n : Int) (w : World) (h : dayB n = false) : Calls Tryd.prog 37 #[.int .i64 n] w fun e w' => e = .returned (.tuple #[.agg #[.int .i64 0, .int .i64 0, .int .i64 0], .int .i64 2]) ∧ Ext w w' := by
  go_enter Tryd.func37, Tryd.ntmps37
  go_wp2_with fail
  go_step3
  go_wp2_with (go_at_call 47; (with_reducible refine (day_any _ _).mono ?_); rintro e w1 ⟨rfl, rfl⟩)
  rw [Exit.noGoto_ret]
  refine bodyPost_ret (v := .tuple #[.agg #[.int .i64 0, .int .i64 0, .int .i64 0], .int .i64 2]) (by simp [results, Tryd.results37, go_sem]) rfl ⟨?_, ?_⟩
  · rfl
  · (repeat (first | with_reducible exact Ext.refl _ | with_reducible assumption | exact Ext.mk (by with_reducible assumption) | with_reducible refine Ext.alloc ?_ _ | with_reducible refine Ext.drewN ?_ _ | with_reducible refine Ext.drew ?_ | with_reducible refine Ext.setCell ?_ (by first | (simp; done) | assumption | (simp; omega)) _ | (with_reducible refine Ext.trans ?_ (by with_reducible assumption))))

theorem check_yes (y m d : Int) (w : World) (hL : DaysLaid w) (h : Cal.okd y m d = true) : Calls Tryd.prog 40 #[.agg #[.int .i64 y, .int .i64 m, .int .i64 d]] w fun e w' => e = .returned (.int .i64 0) ∧ Ext w w' := by
  have := check_any y m d w hL; rw [h] at this; exact this

theorem check_no (y m d : Int) (w : World) (hL : DaysLaid w) (h : Cal.okd y m d = false) : Calls Tryd.prog 40 #[.agg #[.int .i64 y, .int .i64 m, .int .i64 d]] w fun e w' => e = .returned (.int .i64 140) ∧ Ext w w' := by
  have := check_any y m d w hL; rw [h] at this; exact this

theorem of_no (y m d : Int) (w : World) (hL : DaysLaid w) (h : Cal.okd y m d = false) : Calls Tryd.prog 29 #[.agg #[.int .i64 y, .int .i64 m, .int .i64 d]] w fun e w' => e = .returned (.tuple #[.int .i64 0, .int .i64 140]) ∧ Ext w w' := by
  have hL' := hL.ext (Ext.new w (.cells #[.int .i64 y, .int .i64 m, .int .i64 d] 35))
  go_enter Tryd.func29, Tryd.ntmps29
  go_wp2_with (go_at_call 40; (with_reducible refine (check_no _ _ _ _ hL' h).mono ?_); rintro e w1 ⟨rfl, E1⟩; have hc1 := E1.2.1; have hf1 := E1.2.2; have hz1 := E1.size; have ht1 := E1.sizes; (try simp [Nat.add_one_le_iff] at hz1); (try have hy1 := Nat.le_of_lt hz1))
  go_ret2
  exact ⟨rfl, (Ext.new _ _).trans E1⟩

set_option maxHeartbeats 1000000 in
theorem of_yes (y m d : Int) (w : World) (hL : DaysLaid w) (h : Cal.okd y m d = true) : Calls Tryd.prog 29 #[.agg #[.int .i64 y, .int .i64 m, .int .i64 d]] w fun e w' => e = .returned (.tuple #[.int .i64 (Cal.num y m d), .int .i64 0]) ∧ Ext w w' := by
  have hL' := hL.ext (Ext.new w (.cells #[.int .i64 y, .int .i64 m, .int .i64 d] 35))
  obtain ⟨m1, m2⟩ := Cal.okd_month h
  obtain ⟨y1, y2, d1, d2⟩ := Cal.okd_iff.mp h
  have d3 := (Cal.long_bd y m).2
  by_cases h3 : 3 ≤ m
  · have hn : Hid _ := Cal.num_march y m d h3 m2
    obtain ⟨n0, n1⟩ := Cal.mon_bd (m - 3) (by omega) (by omega)
    go_enter Tryd.func29, Tryd.ntmps29
    go_wp2_with (go_at_call 40; (with_reducible refine (check_yes _ _ _ _ hL' h).mono ?_); rintro e w1 ⟨rfl, E1⟩; have hc1 := E1.2.1; have hf1 := E1.2.2; have hz1 := E1.size; have ht1 := E1.sizes; (try simp [Nat.add_one_le_iff] at hz1); (try have hy1 := Nat.le_of_lt hz1))
    go_quiet (fail)
    go_wp2
    refine wp_region_from w1 (by (repeat (first | with_reducible exact Ext.refl _ | with_reducible assumption | exact Ext.mk (by with_reducible assumption) | with_reducible refine Ext.alloc ?_ _ | with_reducible refine Ext.drewN ?_ _ | with_reducible refine Ext.drew ?_ | with_reducible refine Ext.setCell ?_ (by first | (simp; done) | assumption | (simp; omega)) _ | (with_reducible refine Ext.trans ?_ (by with_reducible assumption))))) (by kernel_rfl) (by kernel_rfl) ?_
    repeat (go_big_quiet_step ((go_at_call 46; exact Calls.ext_of_keep (mon_any _ _ (by omega) (by omega)))))
    refine wpQuiet_nil ?_
    intro w2 hb2
    go_wp2
    go_ret2
    refine ⟨?_, ((Ext.new _ _).trans E1).trans hb2⟩
    rw [hn.out]
    have e : Cal.mby y = y * 365 + y / 4 - y / 100 + y / 400 := by unfold Cal.mby; omega
    rw [e]
    rfl
  · have hn : Hid _ := Cal.num_jan y m d m1 (by omega)
    obtain ⟨n0, n1⟩ := Cal.mon_bd (m + 9) (by omega) (by omega)
    have e9 : m - 3 + 12 = m + 9 := by omega
    go_enter Tryd.func29, Tryd.ntmps29
    go_wp2_with (go_at_call 40; (with_reducible refine (check_yes _ _ _ _ hL' h).mono ?_); rintro e w1 ⟨rfl, E1⟩; have hc1 := E1.2.1; have hf1 := E1.2.2; have hz1 := E1.size; have ht1 := E1.sizes; (try simp [Nat.add_one_le_iff] at hz1); (try have hy1 := Nat.le_of_lt hz1))
    go_quiet (fail)
    go_wp2
    refine wp_region_from w1 (by (repeat (first | with_reducible exact Ext.refl _ | with_reducible assumption | exact Ext.mk (by with_reducible assumption) | with_reducible refine Ext.alloc ?_ _ | with_reducible refine Ext.drewN ?_ _ | with_reducible refine Ext.drew ?_ | with_reducible refine Ext.setCell ?_ (by first | (simp; done) | assumption | (simp; omega)) _ | (with_reducible refine Ext.trans ?_ (by with_reducible assumption))))) (by kernel_rfl) (by kernel_rfl) ?_
    repeat (go_big_quiet_step ((go_at_call 46; exact Calls.ext_of_keep (mon_any _ _ (by omega) (by omega)))))
    refine wpQuiet_nil ?_
    intro w2 hb2
    go_wp2
    go_ret2
    refine ⟨?_, ((Ext.new _ _).trans E1).trans hb2⟩
    rw [hn.out]
    have e : Cal.mby (y - 1) = (y - 1) * 365 + (y - 1) / 4 - (y - 1) / 100 + (y - 1) / 400 := by unfold Cal.mby; omega
    rw [e]
    rfl

/-- the order of dates -/
def cmpD (y m d y' m' d' : Int) : Int := or3 (cmpI y y') (cmpI m m') (cmpI d d')

theorem cmpI_eq {a b : Int} : cmpI a b = 0 ↔ a = b := by unfold cmpI; split <;> (try split) <;> omega

theorem cmpD_eq {y m d y' m' d' : Int} : cmpD y m d y' m' d' = 0 ↔ y = y' ∧ m = m' ∧ d = d' := by
  unfold cmpD or3
  have a := @cmpI_eq y y'
  have b := @cmpI_eq m m'
  have c := @cmpI_eq d d'
  split
  · rename_i h; constructor
    · intro k; exact absurd k h
    · intro k; exact absurd (a.mpr k.1) h
  · rename_i h
    split
    · rename_i h2; constructor
      · intro k; exact absurd k h2
      · intro k; exact absurd (b.mpr k.2.1) h2
    · rename_i h2
      have h' : cmpI y y' = 0 := by simpa using h
      have h2' : cmpI m m' = 0 := by simpa using h2
      rw [c, a.mp h', b.mp h2']; simp