import Derived.Test.YtjbpihalfaclkaaGreatDoorMc
import Derived.Test.YtjbpihalfaclkaaGreatDoorMy
import Derived.Test.YtjbpihalfaclkaaGreatDoorMd
/- Is it a time? -/
namespace Go.Proofs.YtjbpihalfaclkaaGreatDoor
open Go Go.B
set_option linter.unusedSimpArgs false
set_option linter.unusedVariables false
set_option linter.unusedSectionVars false

def mayT (t : Int) : Bool := decide (0 ≤ t) && decide (t ≤ 253402300799)

theorem mayT_true {t : Int} (h : mayT t = true) : 0 ≤ t ∧ t ≤ 253402300799 := by simpa [mayT] using h
end Go.Proofs.YtjbpihalfaclkaaGreatDoor
/- times.May. -/
namespace Go.Proofs.YtjbpihalfaclkaaGreatDoor
open Go Go.B

theorem times_May_fn (t : Int) : times_May_R t (mayT t) := by
  unfold times_May_R mayT
  by_cases h : (0 : Int) ≤ t <;> simp [br, h]
end Go.Proofs.YtjbpihalfaclkaaGreatDoor
/- times.At. -/
namespace Go.Proofs.YtjbpihalfaclkaaGreatDoor
open Go Go.B
set_option linter.unusedSimpArgs false
set_option linter.unusedVariables false
set_option linter.unusedSectionVars false

theorem times_At_fn {t : Int} (h : mayT t = true) : times_At_R t (((Cal.dat (t / 86400)).1, (Cal.dat (t / 86400)).2.1, (Cal.dat (t / 86400)).2.2, t % 86400 / 3600, t % 86400 % 3600 / 60, t % 86400 % 60), 0) := by
  obtain ⟨h0, h1⟩ := mayT_true h
  refine ⟨_, times_May_fn t, ?_⟩
  rw [h]
  have hd : dayB (t / 86400) = true := by simp [dayB]; omega
  have e1 : IntKind.wrap .i64 (Int.tdiv t 86400) = t / 86400 := by rw [Int.tdiv_eq_ediv_of_nonneg h0]; exact wi (by omega) (by omega)
  have e2 : Int.tmod t 86400 = t % 86400 := Int.tmod_eq_emod_of_nonneg h0
  have e3 : Int.tmod (t % 86400) 3600 = t % 86400 % 3600 := Int.tmod_eq_emod_of_nonneg (by omega)
  have e4 : Int.tmod (t % 86400 % 3600) 60 = t % 86400 % 60 := by rw [Int.tmod_eq_emod_of_nonneg (by omega)]; omega
  have e5 : IntKind.wrap .i64 (Int.tdiv (t % 86400) 3600) = t % 86400 / 3600 := by rw [Int.tdiv_eq_ediv_of_nonneg (by omega)]; exact wi (by omega) (by omega)
  have e6 : IntKind.wrap .i64 (Int.tdiv (t % 86400 % 3600) 60) = t % 86400 % 3600 / 60 := by rw [Int.tdiv_eq_ediv_of_nonneg (by omega)]; exact wi (by omega) (by omega)
  refine ⟨_, by rw [e1]; exact days_At_fn hd, ?_⟩
  have z : ((0 : Int) != 0) = false := rfl
  simp only [br, Bool.not_true, z, e2, e3, e5, e6]
  rw [show Int.tmod (t % 86400) 60 = t % 86400 % 60 from Int.tmod_eq_emod_of_nonneg (by omega)]
end Go.Proofs.YtjbpihalfaclkaaGreatDoor
/- Is it a time of a cron? -/
namespace Go.Proofs.YtjbpihalfaclkaaGreatDoor
open Go Go.B
set_option linter.unusedSimpArgs false
set_option linter.unusedVariables false
set_option linter.unusedSectionVars false
set_option maxRecDepth 20000

/-- is it a time of the cron? -/
noncomputable def isT (c : Cron) (t : Int) : Bool := fitD c (t / 86400) && (decide (t % 60 = 0) && (hasB c.ho (t % 86400 / 3600) && hasB c.mi (t % 86400 % 3600 / 60)))
end Go.Proofs.YtjbpihalfaclkaaGreatDoor
/- Which times a cron has (cron.At). -/
namespace Go.Proofs.YtjbpihalfaclkaaGreatDoor
open Go Go.B
set_option linter.unusedSimpArgs false
set_option linter.unusedVariables false
set_option linter.unusedSectionVars false
set_option maxRecDepth 20000

theorem cron_At_fn {c : Cron} (hc : c.in) (hok : c.ok = true) {t : Int} (h : mayT t = true) : cron_At_R c.mi c.ho c.da c.mo c.we t (isT c t) := by
  obtain ⟨h0, h1⟩ := mayT_true h
  have hd : dayB (t / 86400) = true := by simp [dayB]; omega
  obtain ⟨d0, d1⟩ := dayB_true hd
  obtain ⟨o1, o2⟩ := Cal.dat_ok _ d0 d1
  have hday := cron_Day_fn hc hok o1
  rw [o2] at hday
  have hf : fitD c (t / 86400) = fitB c (Cal.dat (t / 86400)).2.1 (Cal.dat (t / 86400)).2.2 ((t / 86400 + 4) % 7) := by unfold fitD; rw [hd]; rfl
  rw [← hf] at hday
  refine ⟨_, times_At_fn h, ?_⟩
  have z : ((0 : Int) == 0) = true := rfl
  simp only [br, z]
  unfold isT
  have hs : t % 60 = t % 86400 % 60 := by omega
  by_cases h60 : t % 86400 % 60 = 0
  · have e1 : (t % 86400 % 60 == 0) = true := by simpa using h60
    have e2 : decide (t % 60 = 0) = true := decide_eq_true (by omega)
    simp only [e1, e2, Bool.true_and]
    refine ⟨_, hday, ?_⟩
    cases fitD c (t / 86400)
    · rfl
    refine ⟨_, mask_Has_fn hc.2.1 _, ?_⟩
    cases hasB c.ho (t % 86400 / 3600)
    · rfl
    exact ⟨_, mask_Has_fn hc.1 _, by simp⟩
  · have e1 : (t % 86400 % 60 == 0) = false := by simpa using h60
    have e2 : decide (t % 60 = 0) = false := decide_eq_false (by omega)
    simp only [e1, e2]
    simp
end Go.Proofs.YtjbpihalfaclkaaGreatDoor
