/- The laws DaysGo and DaysEras, walked. -/
import Derived.Test.YtkhmkenankdakabDoorDaysN
import Derived.Deep.DeepCutAuto
namespace Go.Proofs.YtkhmkenankdakabDoor
open Go Go.RowKit
set_option linter.unusedSimpArgs false
set_option linter.unusedVariables false

/-- the day behind a date, in two steps -/
theorem next_day (n : Int) (h : dayB n = true) (h' : dayB (n + 1) = true) :
    (if Cal.long (Cal.dat n).1 (Cal.dat n).2.1 < (Cal.dat n).2.2 + 1 then (if 12 < (Cal.dat n).2.1 + 1 then Cal.dat (n + 1) = ((Cal.dat n).1 + 1, 1, 1) else Cal.dat (n + 1) = ((Cal.dat n).1, (Cal.dat n).2.1 + 1, 1))
      else Cal.dat (n + 1) = ((Cal.dat n).1, (Cal.dat n).2.1, (Cal.dat n).2.2 + 1)) := by
  obtain ⟨h1, h2⟩ := dayB_true h
  obtain ⟨h3, h4⟩ := dayB_true h'
  obtain ⟨o1, o2⟩ := Cal.dat_ok n h1 h2
  generalize Cal.dat n = p at *
  obtain ⟨y, m, d⟩ := p
  dsimp only at *
  obtain ⟨m1, m2⟩ := Cal.okd_month o1
  obtain ⟨y1, y2, d1, d2⟩ := Cal.okd_iff.mp o1
  have hnum : Cal.dby y + Cal.cum y m + d - 1 - 719528 = n := o2
  split
  · have ed : d = Cal.long y m := by omega
    split
    · have em : m = 12 := by omega
      subst em
      have e12 := Cal.cum_succ y 12 (by omega) (by omega)
      have e13 := Cal.cum_13 y
      rw [show (12 : Int) + 1 = 13 from rfl] at e12
      have es := Cal.dby_succ y
      have c1 := Cal.cum_1 (y + 1)
      have hy : y + 1 ≤ 9999 := by
        rcases Int.lt_or_le 9998 y with q | q
        · have : y = 9999 := by omega
          subst this
          have : Cal.dby (9999 + 1) = 3652425 := by decide
          omega
        · omega
      refine Cal.dat_of (Cal.okd_iff.mpr ⟨by omega, hy, by omega, ?_⟩) ?_
      · have := Cal.long_pos (y + 1) 1 (by omega) (by omega); omega
      · unfold Cal.num; omega
    · have ec := Cal.cum_succ y m m1 (by omega)
      refine Cal.dat_of (Cal.okd_iff.mpr ⟨y1, y2, by omega, ?_⟩) ?_
      · have := Cal.long_pos y (m + 1) (by omega) (by omega); omega
      · unfold Cal.num; omega
  · refine Cal.dat_of (Cal.okd_iff.mpr ⟨y1, y2, by omega, by omega⟩) ?_
    unfold Cal.num; omega

theorem at_eq {n y m d : Int} (w : World) (h : dayB n = true) (e : Cal.dat n = (y, m, d)) : Calls Tryd.prog 37 #[.int .i64 n] w fun e w' => e = .returned (.tuple #[.agg #[.int .i64 y, .int .i64 m, .int .i64 d], .int .i64 0]) ∧ Ext w w' := by
  have k := at_yes n w h; rw [e] at k; exact k

theorem dat_okd {n y m d : Int} (h : dayB n = true) (e : Cal.dat n = (y, m, d)) : Cal.okd y m d = true ∧ Cal.num y m d = n := by
  have k := Cal.dat_ok n (dayB_true h).1 (dayB_true h).2
  rw [e] at k; exact k

theorem weekday_next (n : Int) : (n + 1 + 4) % 7 = ((n + 4) % 7 + 1) % 7 := by omega

theorem weekday_day1 (n : Int) (w : World) (h : dayB (n + 1) = true) : Calls Tryd.prog 30 #[.int .i64 (n + 1)] w fun e w' => e = .returned (.tuple #[.int .i64 (((n + 4) % 7 + 1) % 7), .int .i64 0]) ∧ w = w' := by
  have k := weekday_yes (n + 1) w h
  rw [weekday_next] at k; exact k