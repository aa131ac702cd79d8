/- Jobs that wishes say, as far as the laws' first line needs them. -/
import Derived.Test.YtjdpkihlgpojkaaGreatDoorPb
import Derived.Test.YtjdpkihlgpojkaaGreatDoorJa
namespace Go.Proofs.YtjdpkihlgpojkaaGreatDoor
open Go Go.B
set_option linter.unusedSimpArgs false
set_option linter.unusedVariables false
set_option linter.unusedSectionVars false
set_option maxRecDepth 20000

def hC : Cron := ⟨1, 16777215, 4294967294, 8190, 127⟩

def hJ : Job := ⟨7, false, hC, 0, 0, 1, 3⟩

theorem hC_in : hC.in := ⟨⟨by decide, by decide⟩, ⟨by decide, by decide⟩, ⟨by decide, by decide⟩, ⟨by decide, by decide⟩, ⟨by decide, by decide⟩⟩

theorem hJ_in : hJ.in := ⟨hC_in, by decide, by decide⟩

theorem hC_n : nextFC hC (-1) = some 0 ∧ nextFC hC 0 = some 3600 ∧ nextFC hC 3600 = some 7200 ∧ nextFC hC 7200 = some 10800 := by decide +kernel

theorem hJ_good : hJ.good = true := by
  have h1 := hC_n.1
  unfold Job.good everB
  rw [show hJ.c = hC from rfl, nextF_C, h1]
  decide +kernel

theorem hJ_first (t : Int) : firstJ hJ t = nextFC hC t := by
  unfold firstJ
  rw [hJ_good]
  show nextF hC t = _
  rw [nextF_C]

theorem hJ_times : timesL hJ 7200 9 0 [] = [3600, 7200] := by
  obtain ⟨_, h2, h3, h4⟩ := hC_n
  unfold timesL; rw [hJ_first, h2]
  simp only [show ¬ ((3600 : Int) > 7200) from by decide, if_false]
  unfold timesL; rw [hJ_first, h3]
  simp only [show ¬ ((7200 : Int) > 7200) from by decide, if_false]
  unfold timesL; rw [hJ_first, h4]
  simp

theorem hJ_idle : timesL hJ 3599 1 0 [] = [] := by
  obtain ⟨_, h2, _⟩ := hC_n
  unfold timesL; rw [hJ_first, h2]
  simp

theorem ck_of {j : Job} (h : j.good = true) : j.ck = 0 := by
  have := Job.ck_good j
  rw [h] at this
  simpa using this

/-- who is launched once -/
def oJ (at_ ov ca re : Int) : Job := ⟨7, true, ⟨0, 0, 0, 0, 0⟩, at_, ov, ca, re⟩

theorem oJ_in {a ov ca re : Int} (h : -9223372036854775808 ≤ a ∧ a ≤ 9223372036854775807) : (oJ a ov ca re).in :=
  have z : U64 0 := ⟨by decide, by decide⟩
  ⟨⟨z, z, z, z, z⟩, h⟩

theorem never31 : nextFC ⟨1, 1, 2147483648, 4, 127⟩ (-1) = none := by decide +kernel

def nJ : Job := ⟨7, false, ⟨1, 1, 2147483648, 4, 127⟩, 0, 0, 0, 0⟩

theorem nJ_in : nJ.in := ⟨⟨⟨by decide, by decide⟩, ⟨by decide, by decide⟩, ⟨by decide, by decide⟩, ⟨by decide, by decide⟩, ⟨by decide, by decide⟩⟩, by decide, by decide⟩

theorem nJ_ck : nJ.ck = 201 := by
  have h : everB nJ.c = false := by
    unfold everB
    rw [nextF_C]
    show (nextFC ⟨1, 1, 2147483648, 4, 127⟩ (-1)).isSome = false
    rw [never31]; rfl
  unfold Job.ck
  rw [if_pos (by decide +kernel), h]
  rfl

theorem text_at {l : List UInt8} (h : l ≠ []) : (ByteArray.toList (⟨l.toArray⟩ : ByteArray) == ByteArray.toList (⟨#[]⟩ : ByteArray)) = false := by
  rw [tl_same]; exact decide_eq_false h

theorem wakes10 : curfewlaw10_wakes_R true := by
  have o0 := job_Check_fn (oJ_in (a := 0) (ov := 0) (ca := 1) (re := 3) (by decide))
  have g0 : (oJ 0 0 1 3).good = true := by unfold Job.good; rw [show (oJ 0 0 1 3).once = true from rfl]; decide +kernel
  rw [ck_of g0] at o0
  have r1 := cron_Read_fn (s := ⟨#[64, 104, 111, 117, 114, 108, 121]⟩) (by decide)
  have e1 : cronRes (cronO (bl ⟨#[64, 104, 111, 117, 114, 108, 121]⟩)) = ((1, 16777215, 4294967294, 8190, 127), 0, 0) := by decide +kernel
  rw [e1] at r1
  have c1 := job_Check_fn hJ_in
  rw [ck_of hJ_good] at c1
  have o1 := job_Check_fn (oJ_in (a := 90) (ov := 0) (ca := 0) (re := 0) (by decide))
  have g1 : (oJ 90 0 0 0).good = true := by unfold Job.good; rw [show (oJ 90 0 0 0).once = true from rfl]; decide +kernel
  rw [ck_of g1] at o1
  have o2 := job_Check_fn (oJ_in (a := 0) (ov := 0) (ca := 0) (re := 0) (by decide))
  have g2 : (oJ 0 0 0 0).good = true := by unfold Job.good; rw [show (oJ 0 0 0 0).once = true from rfl]; decide +kernel
  rw [ck_of g2] at o2
  have r3 := cron_Read_fn (s := ⟨#[48, 32, 48, 32, 51, 49, 32, 50, 32, 42]⟩) (by decide)
  have e3 : cronRes (cronO (bl ⟨#[48, 32, 48, 32, 51, 49, 32, 50, 32, 42]⟩)) = ((1, 1, 2147483648, 4, 127), 0, 0) := by decide +kernel
  rw [e3] at r3
  have c3 := job_Check_fn nJ_in
  rw [nJ_ck] at c3
  have t1 := text_at (l := [64, 104, 111, 117, 114, 108, 121]) (by decide)
  have t3 := text_at (l := [48, 32, 48, 32, 51, 49, 32, 50, 32, 42]) (by decide)
  have te : (ByteArray.toList (⟨#[]⟩ : ByteArray) == ByteArray.toList (⟨#[]⟩ : ByteArray)) = true := by rw [tl_same]; rfl
  have f := job_First_fn (oJ_in (a := 90) (ov := 0) (ca := 0) (re := 0) (by decide)) 89
  have ef : firstJ (oJ 90 0 0 0) 89 = some 90 := by unfold firstJ; rw [g1]; rfl
  rw [ef] at f
  have l := job_Times_fn hJ_in hJ_good 0 7200 (most := 9) (by decide)
  rw [hJ_times] at l
  have i := job_Times_fn hJ_in hJ_good 0 3599 (most := 1) (by decide)
  rw [hJ_idle] at i
  exact ⟨((7, false, 1, 16777215, 4294967294, 8190, 127, 0, 0, 1, 3), 0), ⟨_, o0, br_no rfl (br_yes (not_t t1) (br_no rfl (br_no t1 ⟨_, r1, br_no rfl ⟨_, c1, br_no rfl rfl⟩⟩)))⟩,
    ((7, true, 0, 0, 0, 0, 0, 90, 0, 0, 0), 0), ⟨_, o1, br_no rfl (br_no (not_f te) (br_yes te rfl))⟩,
    _, l, _, f,
    ((0, false, 0, 0, 0, 0, 0, 0, 0, 0, 0), 201), ⟨_, o2, br_no rfl (br_yes (not_t t3) (br_no rfl (br_no t3 ⟨_, r3, br_no rfl ⟨_, c3, br_yes rfl rfl⟩⟩)))⟩,
    br_yes rfl (br_yes rfl (br_yes rfl (br_yes rfl (br_yes rfl (br_yes rfl (br_yes rfl (br_yes rfl ⟨_, Equal_yes _ (by decide), br_yes rfl ⟨_, ⟨_, i, br_yes rfl rfl⟩, rfl⟩⟩)))))))⟩
end Go.Proofs.YtjdpkihlgpojkaaGreatDoor
