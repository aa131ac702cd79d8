/- The reference: which jobs may be. -/
import Derived.Test.YtjdpkihlgpojkaaGreatDoorRce
import Derived.Test.YtjdpkihlgpojkaaGreatDoorJa
import Derived.Test.YtjdpkihlgpojkaaGreatDoorMti
namespace Go.Proofs.YtjdpkihlgpojkaaGreatDoor
open Go Go.B
set_option linter.unusedSimpArgs false
set_option linter.unusedVariables false
set_option linter.unusedSectionVars false
set_option maxRecDepth 20000

theorem rplain_fn (n o c e : Int) : curfewref10_plain_R n o c e ((n != 0) && (ltd o 1 && (ltd c 2 && ltd e 3))) := by
  unfold curfewref10_plain_R ltd
  by_cases h0 : n = 0
  · exact br_no (by simp [h0]) (by simp [h0])
  refine br_yes (by simpa using h0) ?_
  have e0 : (n != 0) = true := by simpa using h0
  rw [e0, Bool.true_and]
  have rest : (o = 0 ∨ o = 1) → br (decide (c ≥ 0)) (br (decide (c ≤ 2)) (br (decide (e ≥ 0)) ((decide (e ≤ 3)) = ((decide (0 ≤ o) && decide (o ≤ 1)) && ((decide (0 ≤ c) && decide (c ≤ 2)) && (decide (0 ≤ e) && decide (e ≤ 3))))) (false = ((decide (0 ≤ o) && decide (o ≤ 1)) && ((decide (0 ≤ c) && decide (c ≤ 2)) && (decide (0 ≤ e) && decide (e ≤ 3)))))) (false = ((decide (0 ≤ o) && decide (o ≤ 1)) && ((decide (0 ≤ c) && decide (c ≤ 2)) && (decide (0 ≤ e) && decide (e ≤ 3)))))) (false = ((decide (0 ≤ o) && decide (o ≤ 1)) && ((decide (0 ≤ c) && decide (c ≤ 2)) && (decide (0 ≤ e) && decide (e ≤ 3))))) := by
    intro ho
    have o1 : decide (0 ≤ o) = true := yes_of (by omega)
    have o2 : decide (o ≤ 1) = true := yes_of (by omega)
    rw [o1, o2, Bool.true_and, Bool.true_and]
    by_cases c0 : c ≥ 0
    · rw [yes_of (p := 0 ≤ c) c0, Bool.true_and]
      refine br_yes (by first | rfl | exact yes_of c0) ?_
      by_cases c2 : c ≤ 2
      · rw [yes_of c2, Bool.true_and]
        refine br_yes rfl ?_
        by_cases e0 : e ≥ 0
        · exact br_yes (yes_of e0) (by rw [yes_of (p := 0 ≤ e) e0, Bool.true_and])
        · exact br_no (no_of e0) (by rw [no_of (p := 0 ≤ e) e0, Bool.false_and])
      · exact br_no (no_of c2) (by rw [no_of c2, Bool.false_and])
    · exact br_no (no_of c0) (by rw [no_of (p := 0 ≤ c) c0, Bool.false_and, Bool.false_and])
  by_cases a : o = 0
  · exact br_yes (by simpa using a) (rest (.inl a))
  · refine br_no (by simpa using a) ?_
    by_cases b : o = 1
    · exact br_yes (by simpa using b) (rest (.inr b))
    · refine br_no (by simpa using b) ?_
      have : (decide (0 ≤ o) && decide (o ≤ 1)) = false := by
        rw [Bool.and_eq_false_iff]
        by_cases k : 0 ≤ o
        · exact .inr (no_of (by omega))
        · exact .inl (no_of k)
      rw [this, Bool.false_and]

theorem rtime10_fn (t : Int) : curfewref10_time_R t (mayT t) := by
  unfold curfewref10_time_R mayT
  by_cases h : (0 : Int) ≤ t <;> simp [br, h]

theorem everB_fit {c : Cron} (hc : c.in) (hok : c.ok = true) : decide (0 < (fitL c 0 2923).length) = everB c := by
  rw [Bool.eq_iff_iff]
  exact (ever_fitL hok).trans (ever_iff hc).symm

theorem zeroC_eq (c : Cron) : ((c.mi == 0) && ((c.ho == 0) && ((c.da == 0) && ((c.mo == 0) && ((c.we == 0) && true))))) = zeroC c := by
  unfold zeroC
  simp only [Bool.beq_comm, BEq.comm]

theorem rCheck_fn {j : Job} (h : j.in) : curfewref10_Check_R j.name j.once j.c.mi j.c.ho j.c.da j.c.mo j.c.we j.at_ j.ov j.ca j.re j.ck := by
  refine ⟨_, rplain_fn j.name j.ov j.ca j.re, ?_⟩
  have key : ∀ {v : Int}, ((j.name != 0) && (ltd j.ov 1 && (ltd j.ca 2 && ltd j.re 3))) = true → j.ck = (if (if j.once then mayT j.at_ && zeroC j.c else j.c.ok && (0 == j.at_)) then (if j.once || everB j.c then 0 else 201) else 200) := by
    intro v hp
    rw [Bool.and_eq_true] at hp
    unfold Job.ck Job.ok0
    rw [hp.1, hp.2, Bool.true_and, Bool.true_and]
    rfl
  cases hp : ((j.name != 0) && (ltd j.ov 1 && (ltd j.ca 2 && ltd j.re 3)))
  · refine br_yes rfl ?_
    unfold Job.ck Job.ok0
    rw [← Bool.and_assoc, hp, Bool.false_and]
    rfl
  refine br_no rfl ?_
  rw [key (v := 0) hp]
  cases ho : j.once
  · refine br_no rfl ?_
    simp only [Bool.false_eq_true, if_false, Bool.false_or]
    by_cases ha : j.at_ = 0
    · refine br_no (by simpa using ha) ⟨_, rCron_fn h.1, ?_⟩
      cases hc : j.c.ok
      · exact br_yes rfl (by simp)
      · refine br_no rfl ⟨_, rEver_fn h.1 hc, ?_⟩
        rw [everB_fit h.1 hc]
        cases hE : everB j.c
        · exact br_yes rfl (by simp [ha])
        · exact br_no rfl (by simp [ha])
    · exact br_yes (by simpa using ha) (by simp; intro _ e; exact absurd e.symm ha)
  · refine br_yes rfl ⟨_, rtime10_fn j.at_, ?_⟩
    cases hm : mayT j.at_
    · exact br_yes rfl (by simp)
    · refine br_no rfl ?_
      rw [zeroC_eq]
      cases hz : zeroC j.c
      · exact br_yes rfl (by simp)
      · exact br_no rfl (by simp)
end Go.Proofs.YtjdpkihlgpojkaaGreatDoor
