/- Jobs that wishes say, and wishes that say jobs. -/
import Derived.Test.YtnjkboeibcoojaaGreatDoorPj
import Derived.Test.YtnjkboeibcoojaaGreatDoorPl
import Derived.Test.YtnjkboeibcoojaaGreatDoorPn
namespace Go.Proofs.YtnjkboeibcoojaaGreatDoor
open Go Go.B
set_option linter.unusedSimpArgs false
set_option linter.unusedVariables false
set_option linter.unusedSectionVars false
set_option maxRecDepth 20000

theorem cron_back_fn {c : Cron} (hc : c.in) (hok : c.ok = true) : cron_Read_R ⟨(textC c).toArray⟩ ((c.mi, c.ho, c.da, c.mo, c.we), 0, 0) := by
  have r := cron_Read_fn (s := ⟨(textC c).toArray⟩) (by rw [mk_size]; exact textC_len hc hok)
  rw [bl_mk (textC c), cron_back hc hok] at r
  exact r

abbrev JT := Int × Bool × Int × Int × Int × Int × Int × Int × Int × Int × Int

def Job.tup (j : Job) : JT := (j.name, j.once, j.c.mi, j.c.ho, j.c.da, j.c.mo, j.c.we, j.at_, j.ov, j.ca, j.re)

def zeroJ : JT := (0, false, 0, 0, 0, 0, 0, 0, 0, 0, 0)

def Job.text (j : Job) : ByteArray := if j.once then ⟨#[]⟩ else ⟨(textC j.c).toArray⟩

theorem good_parts {j : Job} (h : j.good = true) : (j.name != 0) = true ∧ (ltd j.ov 1 && (ltd j.ca 2 && ltd j.re 3)) = true ∧
    (j.once = true → j.c = ⟨0, 0, 0, 0, 0⟩) ∧ (j.once = false → j.c.ok = true ∧ j.at_ = 0) := by
  unfold Job.good Job.ok0 at h
  simp only [Bool.and_eq_true] at h
  obtain ⟨⟨h1, ⟨h2, h3, h4⟩, h5⟩, _⟩ := h
  refine ⟨h1, by rw [h2, h3, h4]; rfl, fun ho => ?_, fun ho => ?_⟩
  · rw [ho] at h5
    unfold zeroC at h5
    simp only [if_true, Bool.and_eq_true, beq_iff_eq, Bool.and_true] at h5
    obtain ⟨_, e0, e1, e2, e3, e4⟩ := h5
    generalize j.c = c at *
    cases c
    simp only at e0 e1 e2 e3 e4
    subst e0; subst e1; subst e2; subst e3; subst e4; rfl
  · rw [ho] at h5
    simp only [Bool.false_eq_true, if_false, Bool.and_eq_true, beq_iff_eq] at h5
    exact ⟨h5.1, h5.2.symm⟩

theorem textC_ne {c : Cron} (hc : c.in) (hok : c.ok = true) : textC c ≠ [] := by
  intro e
  have := cron_back hc hok
  rw [e] at this
  have e2 : (cronO []).2.2 = false := by decide +kernel
  rw [this] at e2; cases e2

theorem tl_nil (s : ByteArray) : (ByteArray.toList s == ByteArray.toList (⟨#[]⟩ : ByteArray)) = decide (bl s = []) := tl_same s ⟨#[]⟩

theorem wish_no {j : Job} (h : j.in) (hg : j.good = false) : job_Wish_R j.name j.once j.c.mi j.c.ho j.c.da j.c.mo j.c.we j.at_ j.ov j.ca j.re ((0, ⟨#[]⟩, 0, 0, 0, 0), j.ck) :=
  ⟨_, job_Check_fn h, br_yes (by rw [ck_ne, hg]; rfl) rfl⟩

theorem wish_yes {j : Job} (h : j.in) (hg : j.good = true) : job_Wish_R j.name j.once j.c.mi j.c.ho j.c.da j.c.mo j.c.we j.at_ j.ov j.ca j.re ((j.name, j.text, j.at_, j.ov, j.ca, j.re), 0) := by
  refine ⟨_, job_Check_fn h, br_no (by rw [ck_ne, hg]; rfl) ?_⟩
  unfold Job.text
  cases ho : j.once
  · have t := cron_Text_fn h.1
    rw [((good_parts hg).2.2.2 ho).1] at t
    exact br_yes rfl ⟨_, t, rfl⟩
  · exact br_no rfl rfl

theorem z_U64 : U64 0 := ⟨by decide, by decide⟩

theorem zC_in : Cron.in ⟨0, 0, 0, 0, 0⟩ := ⟨z_U64, z_U64, z_U64, z_U64, z_U64⟩

/-- the wish of a job that may be says it -/
theorem of_good {j : Job} (h : j.in) (hg : j.good = true) : job_Of_R j.name j.text j.at_ j.ov j.ca j.re (j.tup, 0) := by
  obtain ⟨g1, g2, g3, g4⟩ := good_parts hg
  have o1 := job_Check_fn (j := ⟨j.name, true, ⟨0, 0, 0, 0, 0⟩, j.at_, j.ov, j.ca, j.re⟩) ⟨zC_in, h.2⟩
  unfold Job.text Job.tup
  cases ho : j.once
  · obtain ⟨hok, h0⟩ := g4 ho
    have k1 : Job.good ⟨j.name, true, ⟨0, 0, 0, 0, 0⟩, j.at_, j.ov, j.ca, j.re⟩ = true := by
      unfold Job.good Job.ok0
      simp only [h0, g1, g2]
      rfl
    rw [ck_of k1] at o1
    have hne : decide (bl (⟨(textC j.c).toArray⟩ : ByteArray) = []) = false := no_of (by rw [bl_mk (textC j.c)]; exact textC_ne h.1 hok)
    have c2 := job_Check_fn h
    rw [ck_of hg, ho] at c2
    have e0 : (j.at_ != 0) = false := by rw [h0]; rfl
    exact ⟨_, o1, br_no rfl (br_yes (not_t (by rw [tl_nil]; exact hne)) (br_no e0 (br_no (by rw [tl_nil]; exact hne) ⟨_, cron_back_fn h.1 hok, br_no rfl ⟨_, c2, br_no rfl rfl⟩⟩)))⟩
  · have hc := g3 ho
    have ej : (⟨j.name, true, ⟨0, 0, 0, 0, 0⟩, j.at_, j.ov, j.ca, j.re⟩ : Job) = j := by
      rw [← hc]
      generalize hj : j.c = c at *
      cases j
      simp only at ho hj ⊢
      subst ho; subst hj; rfl
    have k1 : Job.good ⟨j.name, true, ⟨0, 0, 0, 0, 0⟩, j.at_, j.ov, j.ca, j.re⟩ = true := by rw [ej]; exact hg
    rw [ck_of k1] at o1
    have te : (ByteArray.toList (⟨#[]⟩ : ByteArray) == ByteArray.toList (⟨#[]⟩ : ByteArray)) = true := by rw [tl_same]; rfl
    refine ⟨_, o1, br_no rfl (br_no (not_f te) (br_yes te ?_))⟩
    rw [hc]

/-- what a wish says: an error, or a job that may be -/
theorem of_any {name at_ ov ca re : Int} (hat : -9223372036854775808 ≤ at_ ∧ at_ ≤ 9223372036854775807) (s : ByteArray) : ∃ res, job_Of_R name s at_ ov ca re res ∧
    (((res.2 != 0) = true ∧ res.1 = zeroJ) ∨ ∃ j : Job, j.in ∧ j.good = true ∧ res = (j.tup, 0) ∧ j.name = name ∧ j.at_ = at_ ∧ decide (bl j.text = []) = decide (bl s = [])) := by
  have o1 := job_Check_fn (j := ⟨name, true, ⟨0, 0, 0, 0, 0⟩, at_, ov, ca, re⟩) ⟨zC_in, hat⟩
  cases k1 : Job.good ⟨name, true, ⟨0, 0, 0, 0, 0⟩, at_, ov, ca, re⟩
  · exact ⟨(zeroJ, 200), ⟨_, o1, br_yes (by rw [ck_ne, k1]; rfl) rfl⟩, .inl ⟨rfl, rfl⟩⟩
  rw [ck_of k1] at o1
  by_cases hs : bl s = []
  · have te : (ByteArray.toList s == ByteArray.toList (⟨#[]⟩ : ByteArray)) = true := by rw [tl_nil]; exact yes_of hs
    exact ⟨_, ⟨_, o1, br_no rfl (br_no (not_f te) (br_yes te rfl))⟩, .inr ⟨_, ⟨zC_in, hat⟩, k1, rfl, rfl, rfl, by rw [hs]; rfl⟩⟩
  have tn : (ByteArray.toList s == ByteArray.toList (⟨#[]⟩ : ByteArray)) = false := by rw [tl_nil]; exact no_of hs
  cases ha : (at_ != 0)
  case true => exact ⟨(zeroJ, 200), ⟨_, o1, br_no rfl (br_yes (not_t tn) (br_yes ha rfl))⟩, .inl ⟨rfl, rfl⟩⟩
  have ha0 : at_ = 0 := by simpa using ha
  by_cases hl : s.size ≤ 256
  · have r := cron_Read_fn hl
    cases hC : cronO (bl s) with
    | mk c q =>
      obtain ⟨p, ok⟩ := q
      rw [hC] at r
      cases ok
      · exact ⟨(zeroJ, 170), ⟨_, o1, br_no rfl (br_yes (not_t tn) (br_no ha (br_no tn ⟨_, r, br_yes rfl rfl⟩)))⟩, .inl ⟨rfl, rfl⟩⟩
      · obtain ⟨cin, cok, rfl⟩ := cronO_good hC
        have c2 := job_Check_fn (j := ⟨name, false, crn c, at_, ov, ca, re⟩) ⟨cin, hat⟩
        cases k2 : Job.good ⟨name, false, crn c, at_, ov, ca, re⟩
        · exact ⟨(zeroJ, _), ⟨_, o1, br_no rfl (br_yes (not_t tn) (br_no ha (br_no tn ⟨_, r, br_no rfl ⟨_, c2, br_yes (by rw [ck_ne, k2]; rfl) rfl⟩⟩)))⟩, .inl ⟨by rw [ck_ne, k2]; rfl, rfl⟩⟩
        · rw [ck_of k2] at c2
          refine ⟨_, ⟨_, o1, br_no rfl (br_yes (not_t tn) (br_no ha (br_no tn ⟨_, r, br_no rfl ⟨_, c2, br_no rfl rfl⟩⟩)))⟩, .inr ⟨_, ⟨cin, hat⟩, k2, rfl, rfl, rfl, ?_⟩⟩
          rw [no_of hs]
          exact no_of (by show bl (⟨(textC (crn c)).toArray⟩ : ByteArray) ≠ []; rw [bl_mk (textC (crn c))]; exact textC_ne cin cok)
  · exact ⟨(zeroJ, 3), ⟨_, o1, br_no rfl (br_yes (not_t tn) (br_no ha (br_no tn ⟨_, br_yes (yes_of (by omega)) rfl, br_yes rfl rfl⟩)))⟩, .inl ⟨rfl, rfl⟩⟩
end Go.Proofs.YtnjkboeibcoojaaGreatDoor
