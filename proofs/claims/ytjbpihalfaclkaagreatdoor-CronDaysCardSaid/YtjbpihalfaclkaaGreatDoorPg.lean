/- Which dates, and which times, fit a cron: by the program. -/
import Derived.Test.YtjbpihalfaclkaaGreatDoorMt
namespace Go.Proofs.YtjbpihalfaclkaaGreatDoor
open Go Go.B
set_option linter.unusedSimpArgs false
set_option linter.unusedVariables false
set_option linter.unusedSectionVars false
set_option maxRecDepth 20000

def dayV (c : Cron) (y m d : Int) : Bool := c.ok && (Cal.okd y m d && fitB c m d ((Cal.num y m d + 4) % 7))

theorem days_Of_no {y m d : Int} (h : Cal.okd y m d = false) : days_Of_R y m d (0, 140) := by
  refine ⟨_, days_Check_fn y m d, ?_⟩
  rw [h]
  exact br_yes rfl rfl

theorem cron_Day_all {c : Cron} (hc : c.in) (y m d : Int) : cron_Day_R c.mi c.ho c.da c.mo c.we y m d (dayV c y m d) := by
  have hk := cron_Check_fn hc
  unfold dayV
  cases hd : Cal.okd y m d
  · have hw := days_Weekday_fn (n := 0) (by decide)
    cases hok : c.ok
    · rw [hok] at hk
      exact ⟨_, days_Of_no hd, _, hw, _, hk, br_yes rfl rfl⟩
    · rw [hok] at hk
      exact ⟨_, days_Of_no hd, _, hw, _, hk, br_no rfl (br_yes rfl rfl)⟩
  · have nb := Cal.num_bd hd
    cases hok : c.ok
    · rw [hok] at hk
      exact ⟨_, days_Of_fn hd, _, days_Weekday_fn (by simp [dayB]; omega), _, hk, br_yes rfl rfl⟩
    · simp only [Bool.true_and]
      exact cron_Day_fn hc hok hd

theorem isT_day {c : Cron} {t : Int} (h : mayT t = true) : (c.ok && fitD c (t / 86400)) = dayV c (Cal.dat (t / 86400)).1 (Cal.dat (t / 86400)).2.1 (Cal.dat (t / 86400)).2.2 := by
  obtain ⟨h0, h1⟩ := mayT_true h
  have hd : dayB (t / 86400) = true := by simp [dayB]; omega
  obtain ⟨d0, d1⟩ := dayB_true hd
  obtain ⟨o1, o2⟩ := Cal.dat_ok _ d0 d1
  unfold dayV fitD
  rw [hd, o1, o2]; try rfl

noncomputable def atV (c : Cron) (t : Int) : Bool := mayT t && (decide (t % 60 = 0) && (dayV c (Cal.dat (t / 86400)).1 (Cal.dat (t / 86400)).2.1 (Cal.dat (t / 86400)).2.2 && (hasB c.ho (t % 86400 / 3600) && hasB c.mi (t % 86400 % 3600 / 60))))

theorem times_At_no {t : Int} (h : mayT t = false) : times_At_R t ((0, 0, 0, 0, 0, 0), 2) := by
  refine ⟨_, times_May_fn t, ?_⟩
  rw [h]
  exact br_yes rfl rfl

theorem cron_At_all {c : Cron} (hc : c.in) (t : Int) : cron_At_R c.mi c.ho c.da c.mo c.we t (atV c t) := by
  unfold atV
  cases hm : mayT t
  · exact ⟨_, times_At_no hm, br_no rfl rfl⟩
  · refine ⟨_, times_At_fn hm, br_yes rfl ?_⟩
    have hs : t % 60 = t % 86400 % 60 := by omega
    have hday := cron_Day_all hc (Cal.dat (t / 86400)).1 (Cal.dat (t / 86400)).2.1 (Cal.dat (t / 86400)).2.2
    by_cases h60 : t % 86400 % 60 = 0
    · have e2 : decide (t % 60 = 0) = true := decide_eq_true (by omega)
      rw [e2]
      refine br_yes (by simpa using h60) ⟨_, hday, ?_⟩
      cases dayV c (Cal.dat (t / 86400)).1 (Cal.dat (t / 86400)).2.1 (Cal.dat (t / 86400)).2.2
      · exact br_no rfl rfl
      · refine br_yes rfl ⟨_, mask_Has_fn hc.2.1 _, ?_⟩
        cases hasB c.ho (t % 86400 / 3600)
        · exact br_no rfl rfl
        · exact br_yes rfl ⟨_, mask_Has_fn hc.1 _, by simp⟩
    · have e2 : decide (t % 60 = 0) = false := decide_eq_false (by omega)
      rw [e2]
      exact br_no (by simpa using h60) rfl
end Go.Proofs.YtjbpihalfaclkaaGreatDoor
