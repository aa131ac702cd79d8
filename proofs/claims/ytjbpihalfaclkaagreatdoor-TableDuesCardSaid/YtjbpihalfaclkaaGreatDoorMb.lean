/- When a cron may be. -/
import Derived.Test.YtjbpihalfaclkaaGreatDoorKa
namespace Go.Proofs.YtjbpihalfaclkaaGreatDoor
open Go Go.B
set_option linter.unusedSimpArgs false
set_option linter.unusedVariables false
set_option linter.unusedSectionVars false

/-- five masks -/
structure Cron where
  (mi ho da mo we : Int)

def Cron.ok (c : Cron) : Bool := okF 0 c.mi && okF 1 c.ho && okF 2 c.da && okF 3 c.mo && okF 4 c.we

def crn (t : Int × Int × Int × Int × Int) : Cron := ⟨t.1, t.2.1, t.2.2.1, t.2.2.2.1, t.2.2.2.2⟩

def Cron.in (c : Cron) : Prop := U64 c.mi ∧ U64 c.ho ∧ U64 c.da ∧ U64 c.mo ∧ U64 c.we

theorem cron_Check_fn {c : Cron} (h : c.in) : cron_Check_R c.mi c.ho c.da c.mo c.we (if c.ok then 0 else 170) := by
  obtain ⟨h0, h1, h2, h3, h4⟩ := h
  unfold cron_Check_R
  cases hz : ((c.mi == 0) && ((c.ho == 0) && ((c.da == 0) && ((c.mo == 0) && ((c.we == 0) && true)))))
  · simp only [br]
    unfold Cron.ok
    refine ⟨_, field_Check_fn 0 (by decide) h0, ?_⟩
    cases okF 0 c.mi
    · rfl
    refine ⟨_, field_Check_fn 1 (by decide) h1, ?_⟩
    cases okF 1 c.ho
    · rfl
    refine ⟨_, field_Check_fn 2 (by decide) h2, ?_⟩
    cases okF 2 c.da
    · rfl
    refine ⟨_, field_Check_fn 3 (by decide) h3, ?_⟩
    cases okF 3 c.mo
    · rfl
    refine ⟨_, field_Check_fn 4 (by decide) h4, ?_⟩
    cases okF 4 c.we <;> rfl
  · simp only [Bool.and_eq_true] at hz
    have : c.ok = false := by unfold Cron.ok okF; rw [hz.1]; rfl
    rw [this]; rfl
end Go.Proofs.YtjbpihalfaclkaaGreatDoor
