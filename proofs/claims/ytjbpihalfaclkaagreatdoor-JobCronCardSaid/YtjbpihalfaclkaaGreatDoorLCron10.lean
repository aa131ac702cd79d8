/- The law JobCron, as plain law. -/
import Derived.Test.YtjbpihalfaclkaaGreatDoorPj
import Derived.Test.YtjbpihalfaclkaaGreatDoorGJobCron
namespace Go.Proofs.YtjbpihalfaclkaaGreatDoor
open Go Go.B
set_option linter.unusedSimpArgs false
set_option linter.unusedVariables false
set_option linter.unusedSectionVars false
set_option maxRecDepth 20000

theorem law_cron10 {j : Job} (h : j.in) (t : Int) : curfewlaw10_JobCron_R j.name j.once j.c.mi j.c.ho j.c.da j.c.mo j.c.we j.at_ j.ov j.ca j.re t true := by
  refine ⟨_, wakes10, br_no rfl ⟨_, job_First_fn h t, _, job_Check_fn h, ?_⟩⟩
  cases hg : j.good
  · have e : firstJ j t = none := by unfold firstJ; rw [hg]; rfl
    rw [e]
    exact br_yes (by rw [ck_ne, hg]; rfl) (br_yes rfl rfl)
  · refine br_no (by rw [ck_ne, hg]; rfl) ?_
    cases ho : j.once
    · have ef : firstJ j t = nextF j.c t := by unfold firstJ; rw [hg, ho]; rfl
      have hg' := hg
      unfold Job.good Job.ok0 at hg'
      rw [ho] at hg'
      simp only [Bool.false_or, Bool.and_eq_true, Bool.false_eq_true, if_false] at hg'
      have hok : j.c.ok = true := by simp_all
      have hev : everB j.c = true := by simp_all
      have hev2 := ever_fn h.1
      rw [hev] at hev2
      refine br_no rfl ⟨_, next_Next_fn h.1 t, ?_⟩
      rw [ef]
      refine br_yes (by simp) (br_yes (by simp) ?_)
      cases hn : nextF j.c t with
      | none => exact br_yes rfl ⟨_, hev2, rfl⟩
      | some u =>
        obtain ⟨_, n, hf, hm, _⟩ := nextF_some hn
        obtain ⟨i1, i2, _⟩ := time_isT hok hf hm
        have ha := cron_At_fn h.1 hok i2
        rw [i1] at ha
        exact br_no rfl ⟨_, ha, br_yes rfl ⟨_, hev2, rfl⟩⟩
    · have hl := job_Latest_fn h t
      rw [ho] at hl
      refine br_yes rfl ⟨_, hl, ?_⟩
      by_cases hat : j.at_ > t
      · have e1 : firstJ j t = some j.at_ := by unfold firstJ; rw [hg, ho]; simp [hat]
        have e2 : latestJ j t = none := by unfold latestJ; rw [hg, ho]; simp; omega
        rw [e1, e2]
        exact br_yes rfl (br_no rfl (br_yes (by simp [ansB]) (br_yes rfl rfl)))
      · have e1 : firstJ j t = none := by unfold firstJ; rw [hg, ho]; simp; omega
        have e2 : latestJ j t = some j.at_ := by unfold latestJ; rw [hg, ho]; simp; omega
        rw [e1, e2]
        exact br_yes rfl (br_yes rfl (br_no rfl (by simp [ansB])))

abbrev jobX : Ty := .pr (.int .u32) (.pr .bool (.pr (.pr (.int .u64) (.pr (.int .u64) (.pr (.int .u64) (.pr (.int .u64) (.int .u64))))) (.pr (.int .i64) (.pr (.int .i64) (.pr (.int .i64) (.int .i64))))))

theorem law_JobCron (x0 : jobX.den) (i0 : inT jobX x0) (x1 : Int) (i1 : inT (.int .i64) x1) : curfewlaw10_JobCron_R x0.1 x0.2.1 x0.2.2.1.1 x0.2.2.1.2.1 x0.2.2.1.2.2.1 x0.2.2.1.2.2.2.1 x0.2.2.1.2.2.2.2 x0.2.2.2.1 x0.2.2.2.2.1 x0.2.2.2.2.2.1 x0.2.2.2.2.2.2 x1 true :=
  law_cron10 (j := ⟨x0.1, x0.2.1, ⟨x0.2.2.1.1, x0.2.2.1.2.1, x0.2.2.1.2.2.1, x0.2.2.1.2.2.2.1, x0.2.2.1.2.2.2.2⟩, x0.2.2.2.1, x0.2.2.2.2.1, x0.2.2.2.2.2.1, x0.2.2.2.2.2.2⟩)
    ⟨⟨u64_range i0.2.2.1.1, u64_range i0.2.2.1.2.1, u64_range i0.2.2.1.2.2.1, u64_range i0.2.2.1.2.2.2.1, u64_range i0.2.2.1.2.2.2.2⟩, i64_range i0.2.2.2.1⟩ x1
end Go.Proofs.YtjbpihalfaclkaaGreatDoor
