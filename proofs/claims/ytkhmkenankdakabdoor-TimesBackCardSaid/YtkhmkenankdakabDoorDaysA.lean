/- Walks of package days and its reference: leap years, lengths of months, numbers of dates. -/
import Derived.Test.YtkhmkenankdakabDoorProg
import Derived.Test.YtkhmkenankdakabDoorCal
import Derived.Test.YtkhmkenankdakabDoorFw
namespace Go.Proofs.YtkhmkenankdakabDoor
open Go Go.RowKit

theorem tmod0 (y n : Int) : (y.tmod n = 0) ↔ (y % n = 0) := by rw [← Int.dvd_iff_tmod_eq_zero, ← Int.dvd_iff_emod_eq_zero]

theorem leapB_tmod (y : Int) : Cal.leapB y = ((y.tmod 4 == 0) && ((y.tmod 100 != 0) || (y.tmod 400 == 0))) := by
  have h4 := tmod0 y 4
  have h100 := tmod0 y 100
  have h400 := tmod0 y 400
  unfold Cal.leapB Cal.lp
  by_cases a : y % 4 = 0 <;> by_cases b : y % 100 = 0 <;> by_cases c : y % 400 = 0 <;> simp only [a, b, c, iff_true, iff_false] at h4 h100 h400 <;> simp [a, b, c, h4, h100, h400]

def longTab : List Int := [0, 31, 28, 31, 30, 31, 30, 31, 31, 30, 31, 30, 31]

def DaysLaid (w : World) : Prop := 0 < w.heap.size ∧ ∀ i : Nat, i < 13 → w.cell? ⟨0, i, none⟩ = some (.int .i64 (longTab.getD i 0))

theorem DaysLaid.ext {w w' : World} (h : DaysLaid w) (e : Ext w w') : DaysLaid w' :=
  ⟨Nat.lt_of_lt_of_le h.1 e.size, fun i hi => by rw [e.cell (a := ⟨0, i, none⟩) h.1]; exact h.2 i hi⟩

set_option maxHeartbeats 400000 in
theorem leap_any (y : Int) (w : World) : Calls Tryd.prog 53 #[.int .i64 y] w fun e w' => e = .returned (.bool (Cal.leapB y)) ∧ Ext w w' := by
  go_enter Tryd.func53, Tryd.ntmps53
  go_wp2
  all_goals
    go_ret
    refine ⟨?_, Ext.new _ _⟩
    simp only [leapB_tmod]
    simp [*]

theorem longTab_long (y m : Int) (h1 : 1 ≤ m) (h2 : m ≤ 12) (h : m ≠ 2) : longTab.getD m.toNat 0 = Cal.long y m := by
  rcases Cal.m12 h1 h2 with k | k | k | k | k | k | k | k | k | k | k | k <;> subst k <;> simp [longTab, Cal.long] at h ⊢

theorem long_2 {y : Int} : Cal.long y 2 = 28 + Cal.lp y := by simp [Cal.long]

theorem long_no {y m : Int} (h : ¬ (1 ≤ m ∧ m ≤ 12)) : Cal.long y m = 0 := by unfold Cal.long; rw [if_pos (by omega)]

set_option maxHeartbeats 400000 in
theorem long_any (y m : Int) (w : World) (hL : DaysLaid w) : Calls Tryd.prog 51 #[.int .i64 y, .int .i64 m] w fun e w' => e = .returned (.int .i64 (Cal.long y m)) ∧ Ext w w' := by
  by_cases h : 1 ≤ m ∧ m ≤ 12
  · obtain ⟨h1, h2⟩ := h
    by_cases e : m = 2
    · subst e
      have hc : w.cell? ⟨0, 2, none⟩ = some (.int .i64 28) := hL.2 2 (by omega)
      cases hl : Cal.leapB y
      · have hd : Hid (Cal.long y 2 = 28) := by rw [long_2, Cal.leapB_false hl]; rfl
        go_enter Tryd.func51, Tryd.ntmps51
        go_wp2_with (go_at_call 53; (with_reducible refine (leap_any _ _).mono ?_); rintro e w1 ⟨rfl, hb1⟩)
        go_ret
        exact ⟨ret_int hd.out.symm, hb1⟩
      · have hd : Hid (Cal.long y 2 = 29) := by rw [long_2, Cal.leapB_true hl]; rfl
        go_enter Tryd.func51, Tryd.ntmps51
        go_wp2_with (go_at_call 53; (with_reducible refine (leap_any _ _).mono ?_); rintro e w1 ⟨rfl, hb1⟩)
        go_ret
        exact ⟨ret_int hd.out.symm, hb1⟩
    · have hc := hL.2 m.toNat (by omega)
      have hd : Hid _ := longTab_long y m h1 h2 e
      go_enter Tryd.func51, Tryd.ntmps51
      go_wp2
      go_ret
      exact ⟨ret_int hd.out, Ext.refl _⟩
  · have hd : Hid _ := long_no (y := y) h
    go_enter Tryd.func51, Tryd.ntmps51
    go_wp2
    all_goals go_ret
    all_goals exact ⟨ret_int hd.out.symm, Ext.refl _⟩

theorem okd_pos {y m d : Int} (h : 1970 ≤ y ∧ y ≤ 9999 ∧ 1 ≤ d ∧ d ≤ Cal.long y m) : Cal.okd y m d = true := Cal.okd_iff.mpr h

theorem okd_neg {y m d : Int} (h : ¬ (1970 ≤ y ∧ y ≤ 9999 ∧ 1 ≤ d ∧ d ≤ Cal.long y m)) : Cal.okd y m d = false := by
  cases e : Cal.okd y m d
  · rfl
  · exact absurd (Cal.okd_iff.mp e) h

/-- 0 or an error's number -/
def chk (b : Bool) (n : Int) : Int := if b then 0 else n

theorem dt {p : Prop} [Decidable p] (h : p) : decide p = true := decide_eq_true h

theorem df {p : Prop} [Decidable p] (h : ¬ p) : decide p = false := decide_eq_false h

set_option maxHeartbeats 400000 in
theorem check_any (y m d : Int) (w : World) (hL : DaysLaid w) : Calls Tryd.prog 40 #[.agg #[.int .i64 y, .int .i64 m, .int .i64 d]] w fun e w' => e = .returned (.int .i64 (chk (Cal.okd y m d) 140)) ∧ Ext w w' := by
  have hL' := hL.ext (Ext.new w (.cells #[.int .i64 y, .int .i64 m, .int .i64 d] 35))
  by_cases h1 : y < 1970
  · have hd : Hid (Cal.okd y m d = false) := okd_neg (by omega)
    have d1 := dt h1
    go_enter Tryd.func40, Tryd.ntmps40
    go_wp2
    refine wp_region_ext (by kernel_rfl) (by kernel_rfl) ?_
    repeat (go_big_quiet_step ((go_at_call 51; exact Calls.ext_of (long_any _ _ _ (hL'.ext (EW.ext _))))))
    refine wpQuiet_nil ?_
    intro w1 hb1
    go_wp2
    go_ret
    exact ⟨ret_int (by rw [hd.out]; rfl), (Ext.new _ _).trans hb1⟩
  have d1 := df h1
  by_cases h2 : 9999 < y
  · have hd : Hid (Cal.okd y m d = false) := okd_neg (by omega)
    have d2 := dt h2
    go_enter Tryd.func40, Tryd.ntmps40
    go_wp2
    refine wp_region_ext (by kernel_rfl) (by kernel_rfl) ?_
    repeat (go_big_quiet_step ((go_at_call 51; exact Calls.ext_of (long_any _ _ _ (hL'.ext (EW.ext _))))))
    refine wpQuiet_nil ?_
    intro w1 hb1
    go_wp2
    go_ret
    exact ⟨ret_int (by rw [hd.out]; rfl), (Ext.new _ _).trans hb1⟩
  have d2 := df h2
  by_cases h3 : d < 1
  · have hd : Hid (Cal.okd y m d = false) := okd_neg (by omega)
    have d3 := dt h3
    go_enter Tryd.func40, Tryd.ntmps40
    go_wp2
    refine wp_region_ext (by kernel_rfl) (by kernel_rfl) ?_
    repeat (go_big_quiet_step ((go_at_call 51; exact Calls.ext_of (long_any _ _ _ (hL'.ext (EW.ext _))))))
    refine wpQuiet_nil ?_
    intro w1 hb1
    go_wp2
    go_ret
    exact ⟨ret_int (by rw [hd.out]; rfl), (Ext.new _ _).trans hb1⟩
  have d3 := df h3
  by_cases h4 : Cal.long y m < d
  · have hd : Hid (Cal.okd y m d = false) := okd_neg (by omega)
    have d4 := dt h4
    go_enter Tryd.func40, Tryd.ntmps40
    go_wp2
    refine wp_region_ext (by kernel_rfl) (by kernel_rfl) ?_
    repeat (go_big_quiet_step ((go_at_call 51; exact Calls.ext_of (long_any _ _ _ (hL'.ext (EW.ext _))))))
    refine wpQuiet_nil ?_
    intro w1 hb1
    go_wp2
    go_ret
    exact ⟨ret_int (by rw [hd.out]; rfl), (Ext.new _ _).trans hb1⟩
  · have hd : Hid (Cal.okd y m d = true) := okd_pos (by omega)
    have d4 := df h4
    go_enter Tryd.func40, Tryd.ntmps40
    go_wp2
    refine wp_region_ext (by kernel_rfl) (by kernel_rfl) ?_
    repeat (go_big_quiet_step ((go_at_call 51; exact Calls.ext_of (long_any _ _ _ (hL'.ext (EW.ext _))))))
    refine wpQuiet_nil ?_
    intro w1 hb1
    go_wp2
    go_ret
    exact ⟨ret_int (by rw [hd.out]; rfl), (Ext.new _ _).trans hb1⟩
