/- The reference: which crons may be. -/
import Derived.Test.YtjbpihalfaclkaaGreatDoorKer
import Derived.Test.YtjbpihalfaclkaaGreatDoorMb
namespace Go.Proofs.YtjbpihalfaclkaaGreatDoor
open Go Go.B
set_option linter.unusedSimpArgs false
set_option linter.unusedVariables false
set_option linter.unusedSectionVars false
set_option maxRecDepth 20000

theorem rCron_fn {c : Cron} (hc : c.in) : curfewref07_Right_R c.mi c.ho c.da c.mo c.we c.ok := by
  obtain ⟨h0, h1, h2, h3, h4⟩ := hc
  have goal : ∃ k, curfewref07_Right_l0 k (c.mi, c.ho, c.da, c.mo, c.we, 0) (if c.ok then .inr () else .inl ()) := by
    unfold Cron.ok
    refine ⟨6, br_yes (by decide) ⟨by decide, _, rRight_fn (k := 0) (by decide) h0, ?_⟩⟩
    cases e0 : okF 0 c.mi
    · exact br_yes (not_t e0) rfl
    refine br_no (not_f e0) (br_yes (by decide) ⟨by decide, _, rRight_fn (k := 1) (by decide) h1, ?_⟩)
    cases e1 : okF 1 c.ho
    · exact br_yes (not_t e1) rfl
    refine br_no (not_f e1) (br_yes (by decide) ⟨by decide, _, rRight_fn (k := 2) (by decide) h2, ?_⟩)
    cases e2 : okF 2 c.da
    · exact br_yes (not_t e2) rfl
    refine br_no (not_f e2) (br_yes (by decide) ⟨by decide, _, rRight_fn (k := 3) (by decide) h3, ?_⟩)
    cases e3 : okF 3 c.mo
    · exact br_yes (not_t e3) rfl
    refine br_no (not_f e3) (br_yes (by decide) ⟨by decide, _, rRight_fn (k := 4) (by decide) h4, ?_⟩)
    cases e4 : okF 4 c.we
    · exact br_yes (not_t e4) rfl
    exact br_no (not_f e4) (br_no (by decide) rfl)
  refine ⟨_, rfl, _, goal, ?_⟩
  cases c.ok <;> rfl
end Go.Proofs.YtjbpihalfaclkaaGreatDoor
