import Derived.Test.YtjbpihalfaclkaaGreatDoorMb
import Derived.Test.YtjbpihalfaclkaaGreatDoorMy
/- Dates, weekdays, and which days fit a cron. -/
namespace Go.Proofs.YtjbpihalfaclkaaGreatDoor
open Go Go.B
set_option linter.unusedSimpArgs false
set_option linter.unusedVariables false
set_option linter.unusedSectionVars false

theorem days_Weekday_fn {n : Int} (h : dayB n = true) : days_Weekday_R n ((n + 4) % 7, 0) := by
  obtain ⟨h0, h1⟩ := dayB_true h
  refine ⟨_, days_day_fn n, ?_⟩
  rw [h]
  simp only [br, Bool.not_true]
  rw [wi (by omega) (by omega), Int.tmod_eq_emod_of_nonneg (by omega)]

/-- does a date of a month, a day, a weekday fit? -/
def fitB (c : Cron) (m d w : Int) : Bool :=
  hasB c.mo m && (if c.da == 4294967294 || c.we == 127 then hasB c.da d && hasB c.we w else hasB c.da d || hasB c.we w)

theorem cron_Day_fn {c : Cron} (hc : c.in) (hok : c.ok = true) {y m d : Int} (h : Cal.okd y m d = true) :
    cron_Day_R c.mi c.ho c.da c.mo c.we y m d (fitB c m d ((Cal.num y m d + 4) % 7)) := by
  have nb := Cal.num_bd h
  have hd : dayB (Cal.num y m d) = true := by simp [dayB]; omega
  refine ⟨_, days_Of_fn h, _, days_Weekday_fn hd, _, cron_Check_fn hc, ?_⟩
  rw [hok]
  have e0 : ((if (true : Bool) = true then (0 : Int) else 170) != 0) = false := rfl
  have e1 : ((0 : Int) != 0) = false := rfl
  simp only [e0, e1, br]
  refine ⟨_, mask_Has_fn hc.2.2.2.1 m, ?_⟩
  unfold fitB
  cases hasB c.mo m
  · rfl
  refine ⟨_, mask_Has_fn hc.2.2.1 d, _, mask_Has_fn hc.2.2.2.2 _, _, field_Whole_fn 2 (by decide), ?_⟩
  rw [show wholeL.getD 2 0 = 4294967294 from rfl]
  cases c.da == 4294967294
  · refine ⟨_, field_Whole_fn 4 (by decide), ?_⟩
    rw [show wholeL.getD 4 0 = 127 from rfl]
    cases c.we == 127 <;> cases hasB c.da d <;> simp
  · cases hasB c.da d <;> simp

/-- does the day of this number fit? -/
noncomputable def fitD (c : Cron) (n : Int) : Bool := dayB n && fitB c (Cal.dat n).2.1 (Cal.dat n).2.2 ((n + 4) % 7)
end Go.Proofs.YtjbpihalfaclkaaGreatDoor
/- Days of times, within the days that there are. -/
namespace Go.Proofs.YtjbpihalfaclkaaGreatDoor
open Go Go.B
set_option linter.unusedSimpArgs false
set_option linter.unusedVariables false
set_option linter.unusedSectionVars false
set_option maxRecDepth 20000

def ofD (t : Int) : Int := min (max t 0) 253402300799 / 86400

theorem next_of_fn (t : Int) : next_of_R t (ofD t) := by
  unfold next_of_R ofD
  have e : (if 253402300799 < (if 0 > t then 0 else t) then 253402300799 else (if 0 > t then 0 else t)) = min (max t 0) 253402300799 := by
    repeat split
    all_goals omega
  rw [e, Int.tdiv_eq_ediv_of_nonneg (by omega)]
  exact wi (by omega) (by omega)

theorem ofD_day (t : Int) : dayB (ofD t) = true := by unfold dayB ofD; simp; omega
end Go.Proofs.YtjbpihalfaclkaaGreatDoor
