/- NextTurns: a time that is found is found again. -/
import Derived.Test.YtjmjfjhiggiglaaDoorMs
import Derived.Test.YtjmjfjhiggiglaaDoorMq
namespace Go.Proofs.YtjmjfjhiggiglaaDoor
open Go Go.B
set_option linter.unusedSimpArgs false
set_option linter.unusedVariables false
set_option linter.unusedSectionVars false
set_option maxRecDepth 20000

def leapC : Cron := ⟨1, 1, 536870912, 4, 127⟩

def quarC : Cron := ⟨32769, 16777215, 4294967294, 8190, 127⟩

theorem leap_in : leapC.in := ⟨⟨by decide, by decide⟩, ⟨by decide, by decide⟩, ⟨by decide, by decide⟩, ⟨by decide, by decide⟩, ⟨by decide, by decide⟩⟩

theorem quar_in : quarC.in := ⟨⟨by decide, by decide⟩, ⟨by decide, by decide⟩, ⟨by decide, by decide⟩, ⟨by decide, by decide⟩, ⟨by decide, by decide⟩⟩

theorem wake1 : nextFC leapC 3981312000 = some 4233686400 := by decide +kernel

theorem wake2 : lastFC leapC 4233686399 = some 3981312000 := by decide +kernel

theorem wake3 : nextFC quarC 0 = some 900 ∧ nextFC quarC 900 = some 3600 ∧ nextFC quarC 3600 = some 4500 := by decide +kernel

theorem wake4 : someL quarC 3600 9 0 [] = [900, 3600] := by
  obtain ⟨h1, h2, h3⟩ := wake3
  rw [← nextF_C] at h1 h2 h3
  unfold someL; rw [h1]
  simp only [show ¬ ((900 : Int) > 3600) from by decide, if_false]
  unfold someL; rw [h2]
  simp only [show ¬ ((3600 : Int) > 3600) from by decide, if_false]
  unfold someL; rw [h3]
  simp

theorem wakes08 : curfewlaw08_wakes_R true := by
  have n1 := next_Next_fn leap_in 3981312000
  rw [nextF_C, wake1] at n1
  have n2 := next_Last_fn leap_in 4233686399
  rw [lastF_C, wake2] at n2
  have n3 := next_Some_yes quar_in (by decide +kernel) 0 3600 9 (by decide)
  rw [wake4] at n3
  exact ⟨_, rfl, _, n1, _, rfl, (3981312000, true), n2, _, n3, _, Equal_yes _ (by decide), rfl⟩
end Go.Proofs.YtjmjfjhiggiglaaDoor
