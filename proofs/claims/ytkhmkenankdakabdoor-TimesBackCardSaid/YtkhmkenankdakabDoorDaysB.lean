/- Walks of package days and its reference: orders, weekdays, and what the reference says of years and months. -/
import Derived.Test.YtkhmkenankdakabDoorDaysA
namespace Go.Proofs.YtkhmkenankdakabDoor
open Go Go.RowKit

theorem leapB_ref (y : Int) : Cal.leapB y = (((y.tmod 4 == 0) && (y.tmod 100 != 0)) || (y.tmod 400 == 0)) := by
  have h4 := tmod0 y 4
  have h100 := tmod0 y 100
  have h400 := tmod0 y 400
  unfold Cal.leapB Cal.lp
  by_cases a : y % 4 = 0 <;> by_cases b : y % 100 = 0 <;> by_cases c : y % 400 = 0 <;> simp only [a, b, c, iff_true, iff_false] at h4 h100 h400 <;> first | omega | simp [a, b, c, h4, h100, h400]

set_option maxHeartbeats 400000 in
theorem refLeap_any (y : Int) (w : World) : Calls Tryd.prog 52 #[.int .i64 y] w fun e w' => e = .returned (.bool (Cal.leapB y)) ∧ w = w' := by
  go_enter Tryd.func52, Tryd.ntmps52
  go_wp2
  all_goals
    go_ret
    refine ⟨?_, rfl⟩
    simp only [leapB_ref]
    simp [*]

theorem idx12 (m : Int) (h1 : 1 ≤ m) (h2 : m ≤ 12) (w : World) :
    (Instr.index 86 (.agg #[.int .i64 31, .int .i64 28, .int .i64 31, .int .i64 30, .int .i64 31, .int .i64 30, .int .i64 31, .int .i64 31, .int .i64 30, .int .i64 31, .int .i64 30, .int .i64 31]) (.int .i64 (m - 1))).run Tryd.prog w = .ok (.int .i64 (longTab.getD m.toNat 0)) w := by
  rcases Cal.m12 h1 h2 with k | k | k | k | k | k | k | k | k | k | k | k <;> subst k <;> kernel_rfl

set_option maxHeartbeats 400000 in
theorem refLong_any (y m : Int) (w : World) : Calls Tryd.prog 50 #[.int .i64 y, .int .i64 m] w fun e w' => e = .returned (.int .i64 (Cal.long y m)) ∧ w = w' := by
  by_cases h : 1 ≤ m ∧ m ≤ 12
  · obtain ⟨h1, h2⟩ := h
    by_cases e : m = 2
    · subst e
      have ix : ∀ w : World, (Instr.index 86 (.agg #[.int .i64 31, .int .i64 28, .int .i64 31, .int .i64 30, .int .i64 31, .int .i64 30, .int .i64 31, .int .i64 31, .int .i64 30, .int .i64 31, .int .i64 30, .int .i64 31]) (.int .i64 1)).run Tryd.prog w = .ok (.int .i64 28) w := fun w => idx12 2 h1 h2 w
      cases hl : Cal.leapB y
      · have hd : Hid (Cal.long y 2 = 28) := by rw [long_2, Cal.leapB_false hl]; rfl
        go_enter Tryd.func50, Tryd.ntmps50
        go_wp2_with (go_at_call 52; (with_reducible refine (refLeap_any _ _).mono ?_); rintro e w1 ⟨rfl, rfl⟩)
        go_ret
        exact ⟨ret_int hd.out.symm, rfl⟩
      · have hd : Hid (Cal.long y 2 = 29) := by rw [long_2, Cal.leapB_true hl]; rfl
        go_enter Tryd.func50, Tryd.ntmps50
        go_wp2_with (go_at_call 52; (with_reducible refine (refLeap_any _ _).mono ?_); rintro e w1 ⟨rfl, rfl⟩)
        go_ret
        exact ⟨ret_int hd.out.symm, rfl⟩
    · have ix := idx12 m h1 h2
      have hd : Hid _ := longTab_long y m h1 h2 e
      go_enter Tryd.func50, Tryd.ntmps50
      go_wp2
      go_ret
      exact ⟨ret_int hd.out, rfl⟩
  · have hd : Hid _ := long_no (y := y) h
    go_enter Tryd.func50, Tryd.ntmps50
    go_wp2
    all_goals go_ret
    all_goals exact ⟨ret_int hd.out.symm, rfl⟩

theorem year_any (y : Int) (w : World) : Calls Tryd.prog 49 #[.int .i64 y] w fun e w' => e = .returned (.int .i64 (365 + Cal.lp y)) ∧ w = w' := by
  cases hl : Cal.leapB y
  · have hd : Hid _ := Cal.leapB_false hl
    go_enter Tryd.func49, Tryd.ntmps49
    go_wp2_with (go_at_call 52; (with_reducible refine (refLeap_any _ _).mono ?_); rintro e w1 ⟨rfl, rfl⟩)
    go_ret
    exact ⟨ret_int (by rw [hd.out]; rfl), rfl⟩
  · have hd : Hid _ := Cal.leapB_true hl
    go_enter Tryd.func49, Tryd.ntmps49
    go_wp2_with (go_at_call 52; (with_reducible refine (refLeap_any _ _).mono ?_); rintro e w1 ⟨rfl, rfl⟩)
    go_ret
    exact ⟨ret_int (by rw [hd.out]; rfl), rfl⟩

set_option maxHeartbeats 400000 in
theorem right_any (y m d : Int) (w : World) : Calls Tryd.prog 42 #[.agg #[.int .i64 y, .int .i64 m, .int .i64 d]] w fun e w' => e = .returned (.bool (Cal.okd y m d)) ∧ Ext w w' := by
  by_cases h1 : 1970 ≤ y
  case neg =>
    have hd : Hid (Cal.okd y m d = false) := okd_neg (by omega)
    have d1 := df h1
    go_enter Tryd.func42, Tryd.ntmps42
    go_wp2
    refine wp_region_ext (by kernel_rfl) (by kernel_rfl) ?_
    repeat (go_big_quiet_step ((go_at_call 50; exact Calls.ext_of_keep (refLong_any _ _ _))))
    refine wpQuiet_nil ?_
    intro w1 hb1
    go_wp2
    go_ret
    exact ⟨ret_bool (by rw [hd.out]), (Ext.new _ _).trans hb1⟩
  have d1 := dt h1
  by_cases h2 : y ≤ 9999
  case neg =>
    have hd : Hid (Cal.okd y m d = false) := okd_neg (by omega)
    have d2 := df h2
    go_enter Tryd.func42, Tryd.ntmps42
    go_wp2
    refine wp_region_ext (by kernel_rfl) (by kernel_rfl) ?_
    repeat (go_big_quiet_step ((go_at_call 50; exact Calls.ext_of_keep (refLong_any _ _ _))))
    refine wpQuiet_nil ?_
    intro w1 hb1
    go_wp2
    go_ret
    exact ⟨ret_bool (by rw [hd.out]), (Ext.new _ _).trans hb1⟩
  have d2 := dt h2
  by_cases h3 : 1 ≤ d
  case neg =>
    have hd : Hid (Cal.okd y m d = false) := okd_neg (by omega)
    have d3 := df h3
    go_enter Tryd.func42, Tryd.ntmps42
    go_wp2
    refine wp_region_ext (by kernel_rfl) (by kernel_rfl) ?_
    repeat (go_big_quiet_step ((go_at_call 50; exact Calls.ext_of_keep (refLong_any _ _ _))))
    refine wpQuiet_nil ?_
    intro w1 hb1
    go_wp2
    go_ret
    exact ⟨ret_bool (by rw [hd.out]), (Ext.new _ _).trans hb1⟩
  have d3 := dt h3
  by_cases h4 : d ≤ Cal.long y m
  case neg =>
    have hd : Hid (Cal.okd y m d = false) := okd_neg (by omega)
    have d4 := df h4
    go_enter Tryd.func42, Tryd.ntmps42
    go_wp2
    refine wp_region_ext (by kernel_rfl) (by kernel_rfl) ?_
    repeat (go_big_quiet_step ((go_at_call 50; exact Calls.ext_of_keep (refLong_any _ _ _))))
    refine wpQuiet_nil ?_
    intro w1 hb1
    go_wp2
    go_ret
    exact ⟨ret_bool (by rw [hd.out]), (Ext.new _ _).trans hb1⟩
  case pos =>
    have hd : Hid (Cal.okd y m d = true) := okd_pos (by omega)
    have d4 := dt h4
    go_enter Tryd.func42, Tryd.ntmps42
    go_wp2
    refine wp_region_ext (by kernel_rfl) (by kernel_rfl) ?_
    repeat (go_big_quiet_step ((go_at_call 50; exact Calls.ext_of_keep (refLong_any _ _ _))))
    refine wpQuiet_nil ?_
    intro w1 hb1
    go_wp2
    go_ret
    exact ⟨ret_bool (by rw [hd.out]), (Ext.new _ _).trans hb1⟩

/-- is it a date's number? -/
def dayB (n : Int) : Bool := decide (0 ≤ n) && decide (n ≤ 2932896)

theorem dayB_true {n : Int} (h : dayB n = true) : 0 ≤ n ∧ n ≤ 2932896 := by simpa [dayB] using h

theorem dayB_false {n : Int} (h : dayB n = false) : ¬ (0 ≤ n ∧ n ≤ 2932896) := by simp [dayB] at h; omega

theorem day_any (n : Int) (w : World) : Calls Tryd.prog 47 #[.int .i64 n] w fun e w' => e = .returned (.bool (dayB n)) ∧ w = w' := by
  go_enter Tryd.func47, Tryd.ntmps47
  go_wp2
  all_goals
    go_ret
    exact ⟨ret_bool (by simp [dayB]; try omega), rfl⟩

theorem weekday_yes (n : Int) (w : World) (h : dayB n = true) : Calls Tryd.prog 30 #[.int .i64 n] w fun e w' => e = .returned (.tuple #[.int .i64 ((n + 4) % 7), .int .i64 0]) ∧ w = w' := by
  obtain ⟨h1, h2⟩ := dayB_true h
  go_enter Tryd.func30, Tryd.ntmps30
  go_wp2_with (go_at_call 47; (with_reducible refine (day_any _ _).mono ?_); rintro e w1 ⟨rfl, rfl⟩)
  go_ret2
  exact ⟨rfl, rfl⟩

theorem weekday_no (n : Int) (w : World) (h : dayB n = false) : Calls Tryd.prog 30 #[.int .i64 n] w fun e w' => e = .returned (.tuple #[.int .i64 0, .int .i64 2]) ∧ w = w' := by
  go_enter Tryd.func30, Tryd.ntmps30
  go_wp2_with (go_at_call 47; (with_reducible refine (day_any _ _).mono ?_); rintro e w1 ⟨rfl, rfl⟩)
  go_ret2
  exact ⟨rfl, rfl⟩

theorem refWeekday_any (n : Int) (w : World) (h1 : 0 ≤ n) (h2 : n ≤ 2932896) : Calls Tryd.prog 39 #[.int .i64 n] w fun e w' => e = .returned (.int .i64 ((n + 4) % 7)) ∧ w = w' := by
  have hd : Hid ((n % 7 + 4) % 7 = (n + 4) % 7) := by show _ = _; omega
  go_enter Tryd.func39, Tryd.ntmps39
  go_wp2
  go_ret
  exact ⟨ret_int hd.out, rfl⟩

/-- the order of two numbers -/
def cmpI (a b : Int) : Int := if a < b then -1 else if b < a then 1 else 0

theorem cmpI_bd (a b : Int) : -1 ≤ cmpI a b ∧ cmpI a b ≤ 1 := by unfold cmpI; split <;> (try split) <;> omega

/-- the first that is not 0 -/
def or3 (a b c : Int) : Int := if a ≠ 0 then a else if b ≠ 0 then b else c