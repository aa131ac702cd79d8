/- The reference: jobs, and rows that may be. -/
import Derived.Test.YtjmjfjhiggiglaaGreatDoorRc
import Derived.Test.YtjmjfjhiggiglaaGreatDoorJe
import Derived.Test.YtjmjfjhiggiglaaGreatDoorMq
namespace Go.Proofs.YtjmjfjhiggiglaaGreatDoor
open Go Go.B
set_option linter.unusedSimpArgs false
set_option linter.unusedVariables false
set_option linter.unusedSectionVars false
set_option maxRecDepth 20000

theorem rplain_fn (n o c e : Int) : curfewref10_plain_R n o c e ((n != 0) && (ltd o 1 && (ltd c 2 && ltd e 3))) := by
  unfold curfewref10_plain_R ltd
  by_cases h0 : n = 0
  · exact br_no (by simp [h0]) (by simp [h0])
  refine br_yes (by simpa using h0) ?_
  have e0 : (n != 0) = true := by simpa using h0
  rw [e0, Bool.true_and]
  have rest : (o = 0 ∨ o = 1) → br (decide (c ≥ 0)) (br (decide (c ≤ 2)) (br (decide (e ≥ 0)) ((decide (e ≤ 3)) = ((decide (0 ≤ o) && decide (o ≤ 1)) && ((decide (0 ≤ c) && decide (c ≤ 2)) && (decide (0 ≤ e) && decide (e ≤ 3))))) (false = ((decide (0 ≤ o) && decide (o ≤ 1)) && ((decide (0 ≤ c) && decide (c ≤ 2)) && (decide (0 ≤ e) && decide (e ≤ 3)))))) (false = ((decide (0 ≤ o) && decide (o ≤ 1)) && ((decide (0 ≤ c) && decide (c ≤ 2)) && (decide (0 ≤ e) && decide (e ≤ 3)))))) (false = ((decide (0 ≤ o) && decide (o ≤ 1)) && ((decide (0 ≤ c) && decide (c ≤ 2)) && (decide (0 ≤ e) && decide (e ≤ 3))))) := by
    intro ho
    have o1 : decide (0 ≤ o) = true := yes_of (by omega)
    have o2 : decide (o ≤ 1) = true := yes_of (by omega)
    rw [o1, o2, Bool.true_and, Bool.true_and]
    by_cases c0 : c ≥ 0
    · rw [yes_of (p := 0 ≤ c) c0, Bool.true_and]
      refine br_yes (by first | rfl | exact yes_of c0) ?_
      by_cases c2 : c ≤ 2
      · rw [yes_of c2, Bool.true_and]
        refine br_yes rfl ?_
        by_cases e0 : e ≥ 0
        · exact br_yes (yes_of e0) (by rw [yes_of (p := 0 ≤ e) e0, Bool.true_and])
        · exact br_no (no_of e0) (by rw [no_of (p := 0 ≤ e) e0, Bool.false_and])
      · exact br_no (no_of c2) (by rw [no_of c2, Bool.false_and])
    · exact br_no (no_of c0) (by rw [no_of (p := 0 ≤ c) c0, Bool.false_and, Bool.false_and])
  by_cases a : o = 0
  · exact br_yes (by simpa using a) (rest (.inl a))
  · refine br_no (by simpa using a) ?_
    by_cases b : o = 1
    · exact br_yes (by simpa using b) (rest (.inr b))
    · refine br_no (by simpa using b) ?_
      have : (decide (0 ≤ o) && decide (o ≤ 1)) = false := by
        rw [Bool.and_eq_false_iff]
        by_cases k : 0 ≤ o
        · exact .inr (no_of (by omega))
        · exact .inl (no_of k)
      rw [this, Bool.false_and]

theorem rtime10_fn (t : Int) : curfewref10_time_R t (mayT t) := by
  unfold curfewref10_time_R mayT
  by_cases h : (0 : Int) ≤ t <;> simp [br, h]

theorem rTime_fn (t : Int) : curfewref05_Time_R t (mayT t) := by
  unfold curfewref05_Time_R mayT
  by_cases h : (0 : Int) ≤ t <;> simp [br, h]

theorem everB_fit {c : Cron} (hc : c.in) (hok : c.ok = true) : decide (0 < (fitL c 0 2923).length) = everB c := by
  rw [Bool.eq_iff_iff]
  exact (ever_fitL hok).trans (ever_iff hc).symm

theorem zeroC_eq (c : Cron) : ((c.mi == 0) && ((c.ho == 0) && ((c.da == 0) && ((c.mo == 0) && ((c.we == 0) && true))))) = zeroC c := by
  unfold zeroC
  simp only [Bool.beq_comm, BEq.comm]

theorem rCheck_fn {j : Job} (h : j.in) : curfewref10_Check_R j.name j.once j.c.mi j.c.ho j.c.da j.c.mo j.c.we j.at_ j.ov j.ca j.re j.ck := by
  refine ⟨_, rplain_fn j.name j.ov j.ca j.re, ?_⟩
  have key : ∀ {v : Int}, ((j.name != 0) && (ltd j.ov 1 && (ltd j.ca 2 && ltd j.re 3))) = true → j.ck = (if (if j.once then mayT j.at_ && zeroC j.c else j.c.ok && (0 == j.at_)) then (if j.once || everB j.c then 0 else 201) else 200) := by
    intro v hp
    rw [Bool.and_eq_true] at hp
    unfold Job.ck Job.ok0
    rw [hp.1, hp.2, Bool.true_and, Bool.true_and]
    rfl
  cases hp : ((j.name != 0) && (ltd j.ov 1 && (ltd j.ca 2 && ltd j.re 3)))
  · refine br_yes rfl ?_
    unfold Job.ck Job.ok0
    rw [← Bool.and_assoc, hp, Bool.false_and]
    rfl
  refine br_no rfl ?_
  rw [key (v := 0) hp]
  cases ho : j.once
  · refine br_no rfl ?_
    simp only [Bool.false_eq_true, if_false, Bool.false_or]
    by_cases ha : j.at_ = 0
    · refine br_no (by simpa using ha) ⟨_, rCron_fn h.1, ?_⟩
      cases hc : j.c.ok
      · exact br_yes rfl (by simp)
      · refine br_no rfl ⟨_, rEver_fn h.1 hc, ?_⟩
        rw [everB_fit h.1 hc]
        cases hE : everB j.c
        · exact br_yes rfl (by simp [ha])
        · exact br_no rfl (by simp [ha])
    · exact br_yes (by simpa using ha) (by simp; intro _ e; exact absurd e.symm ha)
  · refine br_yes rfl ⟨_, rtime10_fn j.at_, ?_⟩
    cases hm : mayT j.at_
    · exact br_yes rfl (by simp)
    · refine br_no rfl ?_
      rw [zeroC_eq]
      cases hz : zeroC j.c
      · exact br_yes rfl (by simp)
      · exact br_no rfl (by simp)
section
variable {j : Job} (h : j.in) (hg : j.good = true)
include h hg

theorem rFirst_fn (t : Int) : curfewref10_First_R j.name j.once j.c.mi j.c.ho j.c.da j.c.mo j.c.we j.at_ j.ov j.ca j.re t (ansB (firstJ j t)) := by
  unfold firstJ
  rw [if_pos hg]
  cases ho : j.once
  · exact br_yes rfl ⟨_, rNext_fn h.1 ((ok0_parts (good_ok0 hg)).2.2.2.2 ho) t, by simp⟩
  · refine br_no rfl ?_
    by_cases ht : j.at_ > t
    · exact br_yes (yes_of ht) (by simp [ht, ansB])
    · exact br_no (no_of ht) (by simp [ht, ansB])

theorem rLatest_fn (t : Int) : curfewref10_Latest_R j.name j.once j.c.mi j.c.ho j.c.da j.c.mo j.c.we j.at_ j.ov j.ca j.re t (ansB (latestJ j t)) := by
  unfold latestJ
  rw [if_pos hg]
  cases ho : j.once
  · exact br_yes rfl ⟨_, rLast_fn h.1 ((ok0_parts (good_ok0 hg)).2.2.2.2 ho) t, by simp⟩
  · refine br_no rfl ?_
    by_cases ht : j.at_ ≤ t
    · exact br_yes (yes_of ht) (by simp [ht, ansB])
    · exact br_no (no_of ht) (by simp [ht, ansB])

theorem rTimes_loop (lo hi : Int) {most : Nat} (hm : most ≤ 64) : ∀ (d : Nat) (t0 : Int) (out : List Int), out.length + d = most →
    ∃ k, curfewref10_Times_l0 k (out, j.name, j.once, j.c.mi, j.c.ho, j.c.da, j.c.mo, j.c.we, j.at_, j.ov, j.ca, j.re, lo, hi, (most : Int), (ansB (firstJ j t0)).1, (ansB (firstJ j t0)).2) (timesL j hi d t0 out) := by
  intro d
  induction d with
  | zero =>
    intro t0 out hd
    refine ⟨1, ?_⟩
    cases hf : firstJ j t0 with
    | none => exact br_no rfl rfl
    | some t =>
      refine br_yes rfl ?_
      by_cases ht : t ≤ hi
      · exact br_yes (yes_of ht) (br_no (no_of (by omega)) rfl)
      · exact br_no (no_of ht) rfl
  | succ d ih =>
    intro t0 out hd
    cases hf : firstJ j t0 with
    | none =>
      refine ⟨1, br_no rfl ?_⟩
      show out = timesL j hi (d + 1) t0 out
      simp only [timesL, hf]
    | some t =>
      by_cases ht : t ≤ hi
      · obtain ⟨k, hk⟩ := ih t (out ++ [t]) (by simp; omega)
        refine ⟨k + 1, br_yes rfl (br_yes (yes_of ht) (br_yes (yes_of (by omega)) ⟨nl_ok (by simp; omega), _, rFirst_fn h hg t, ?_⟩))⟩
        have e : timesL j hi (d + 1) t0 out = timesL j hi d t (out ++ [t]) := by simp only [timesL, hf]; rw [if_neg (by omega)]
        rw [e]
        exact hk
      · refine ⟨1, br_yes rfl (br_no (no_of ht) ?_)⟩
        show out = timesL j hi (d + 1) t0 out
        simp only [timesL, hf]
        rw [if_pos (by omega)]

theorem rTimes_fn (lo hi : Int) {most : Nat} (hm : most ≤ 64) : curfewref10_Times_R j.name j.once j.c.mi j.c.ho j.c.da j.c.mo j.c.we j.at_ j.ov j.ca j.re lo hi most (timesL j hi most lo []) := by
  obtain ⟨k, hk⟩ := rTimes_loop h hg lo hi hm most lo [] (by simp)
  exact ⟨_, rFirst_fn h hg lo, _, ⟨k, hk⟩, rfl⟩

theorem rof_part {t : Int} (ht : mayT t = true) {X Z : Prop} (k : if ofJ j t then Z else X) : ∃ y : Int × Bool, curfewref10_First_R j.name j.once j.c.mi j.c.ho j.c.da j.c.mo j.c.we j.at_ j.ov j.ca j.re (IntKind.wrap .i64 (t - 1)) y ∧ br (!y.2) X (br (y.1 != t) X Z) := by
  obtain ⟨t0, t1⟩ := mayT_true ht
  rw [wi (x := t - 1) (by omega) (by omega)]
  refine ⟨_, rFirst_fn h hg (t - 1), ?_⟩
  unfold ofJ at k
  cases hf : firstJ j (t - 1) with
  | none => rw [hf] at k; exact br_yes rfl (by simpa using k)
  | some u =>
    rw [hf] at k
    refine br_no rfl ?_
    by_cases e : u = t
    · exact br_no (by simp [ansB, e]) (by simpa [e] using k)
    · exact br_yes (by simp [ansB, e]) (by simpa [e] using k)
end

/-- times that rise, each of the job -/
noncomputable def goodFrom (j : Job) : Option Int → List Int → Bool
  | _, [] => true
  | p, t :: l => mayT t && ((match p with | some p => decide (p < t) | none => true) && (ofJ j t && goodFrom j (some t) l))

theorem good_some (j : Job) : ∀ (l : List Int) (p : Int), goodFrom j (some p) l = (riseB (p :: l) && l.all fun t => mayT t && ofJ j t)
  | [], p => rfl
  | t :: l, p => by
    simp only [goodFrom, riseB, List.all_cons, good_some j l t]
    cases mayT t <;> cases decide (p < t) <;> cases ofJ j t <;> simp

theorem good_none (j : Job) (l : List Int) : goodFrom j none l = (riseB l && l.all fun t => mayT t && ofJ j t) := by
  cases l with
  | nil => rfl
  | cons t l =>
    simp only [goodFrom, List.all_cons, good_some j l t]
    cases mayT t <;> cases ofJ j t <;> simp
section
variable {r : Row} (h : r.in)
include h

theorem rline_l0 {out0 : List Int} : ∀ (d i : Nat) (out : List Int), i + d = r.q.length → out.length + d ≤ 100000 →
    ∃ k, curfewref11_line_l0 k (out, r.j.name, r.j.once, r.j.c.mi, r.j.c.ho, r.j.c.da, r.j.c.mo, r.j.c.we, r.j.at_, r.j.ov, r.j.ca, r.j.re, r.pa, r.nx, r.num, r.due, r.try_, r.q, ((r.q.length : Nat) : Int), (i : Int)) (out ++ r.q.drop i) := by
  intro d
  induction d with
  | zero => exact fun i out hi _ => ⟨1, br_no (no_of (by omega)) (by rw [List.drop_eq_nil_of_le (by omega), List.append_nil])⟩
  | succ d ih =>
    intro i out hi ho
    have hlt : i < r.q.length := by omega
    have hq := h.2.1
    obtain ⟨k, hk⟩ := ih (i + 1) (out ++ [r.q.getD i 0]) (by omega) (by simp; omega)
    refine ⟨k + 1, br_yes (yes_of (by omega)) ⟨ix_ok hlt, nl_ok (by simp; omega), ?_⟩⟩
    rw [drop_cons hlt]
    rw [wi_succ (n := i) (by omega)]
    rw [List.append_assoc] at hk
    exact hk

theorem rline_l1 {out0 : List Int} : ∀ (d i : Nat) (out : List Int), i + d = r.q.length → out.length + d ≤ 100000 →
    ∃ k, curfewref11_line_l1 k (out, r.j.name, r.j.once, r.j.c.mi, r.j.c.ho, r.j.c.da, r.j.c.mo, r.j.c.we, r.j.at_, r.j.ov, r.j.ca, r.j.re, r.pa, r.nx, r.num, r.due, r.try_, r.q, ((r.q.length : Nat) : Int), (i : Int)) (out ++ r.q.drop i) := by
  intro d
  induction d with
  | zero => exact fun i out hi _ => ⟨1, br_no (no_of (by omega)) (by rw [List.drop_eq_nil_of_le (by omega), List.append_nil])⟩
  | succ d ih =>
    intro i out hi ho
    have hlt : i < r.q.length := by omega
    have hq := h.2.1
    obtain ⟨k, hk⟩ := ih (i + 1) (out ++ [r.q.getD i 0]) (by omega) (by simp; omega)
    refine ⟨k + 1, br_yes (yes_of (by omega)) ⟨ix_ok hlt, nl_ok (by simp; omega), ?_⟩⟩
    rw [drop_cons hlt]
    rw [wi_succ (n := i) (by omega)]
    rw [List.append_assoc] at hk
    exact hk

theorem rline_fn : curfewref11_line_R r.j.name r.j.once r.j.c.mi r.j.c.ho r.j.c.da r.j.c.mo r.j.c.we r.j.at_ r.j.ov r.j.ca r.j.re r.pa r.nx r.num r.due r.try_ r.q r.line := by
  have hl := h.2.1
  have ne : (r.nx != -1) = !decide (r.nx = -1) := by
    by_cases e : r.nx = -1 <;> simp [e]
  unfold Row.line
  by_cases hn : r.num > 0
  · obtain ⟨k, hk⟩ := rline_l0 h (out0 := []) r.q.length 0 [r.due] (by omega) (by simp; omega)
    rw [List.drop_zero] at hk
    refine br_yes (yes_of hn) ⟨_, ⟨k, hk⟩, ?_⟩
    rw [if_pos hn]
    by_cases hx : r.nx = -1
    · rw [if_pos hx]
      exact br_no (by rw [ne, yes_of hx]; rfl) (by simp)
    · rw [if_neg hx]
      exact br_yes (by rw [ne, no_of hx]; rfl) ⟨nl_ok (by simp; omega), rfl⟩
  · obtain ⟨k, hk⟩ := rline_l1 h (out0 := []) r.q.length 0 [] (by omega) (by simp; omega)
    rw [List.drop_zero] at hk
    refine br_no (no_of hn) ⟨_, ⟨k, hk⟩, ?_⟩
    rw [if_neg hn]
    by_cases hx : r.nx = -1
    · rw [if_pos hx]
      exact br_no (by rw [ne, yes_of hx]; rfl) (by simp)
    · rw [if_neg hx]
      exact br_yes (by rw [ne, no_of hx]; rfl) ⟨nl_ok (by simp; omega), rfl⟩

theorem rrow_loop (hg : r.j.good = true) {l : List Int} (hl : l.length ≤ 100000) : ∀ (d i : Nat), i + d = l.length →
    ∃ k, curfewref11_RightRow_l0 k (l, r.j.name, r.j.once, r.j.c.mi, r.j.c.ho, r.j.c.da, r.j.c.mo, r.j.c.we, r.j.at_, r.j.ov, r.j.ca, r.j.re, r.pa, r.nx, r.num, r.due, r.try_, r.q, ((l.length : Nat) : Int), (i : Int)) (if goodFrom r.j (if i = 0 then none else some (l.getD (i - 1) 0)) (l.drop i) then .inr () else .inl ()) := by
  intro d
  induction d with
  | zero =>
    intro i hi
    refine ⟨1, br_no (no_of (by omega)) ?_⟩
    rw [show l.drop i = [] from List.drop_eq_nil_of_le (by omega)]
    cases (if i = 0 then none else some (l.getD (i - 1) 0)) <;> rfl
  | succ d ih =>
    intro i hi
    have hlt : i < l.length := by omega
    obtain ⟨k, hk⟩ := ih (i + 1) (by omega)
    have hk' : curfewref11_RightRow_l0 k (l, r.j.name, r.j.once, r.j.c.mi, r.j.c.ho, r.j.c.da, r.j.c.mo, r.j.c.we, r.j.at_, r.j.ov, r.j.ca, r.j.re, r.pa, r.nx, r.num, r.due, r.try_, r.q, ((l.length : Nat) : Int), IntKind.wrap .i64 ((i : Int) + 1)) (if goodFrom r.j (some (l.getD i 0)) (l.drop (i + 1)) then .inr () else .inl ()) := by
      rw [wi_succ (n := i) (by omega)]
      simpa using hk
    rw [drop_cons hlt]
    have q := rTime_fn (l.getD i 0)
    refine ⟨k + 1, br_yes (yes_of (by omega)) ⟨ix_ok hlt, blt_ok hlt, _, q, ?_⟩⟩
    cases hm : mayT (l.getD i 0) with
    | false => exact br_yes rfl (by simp only [goodFrom, hm, Bool.false_and, Bool.false_eq_true, if_false])
    | true =>
      refine br_no rfl ?_
      by_cases h0 : i = 0
      · subst h0
        refine br_no (no_of (by omega)) (rof_part h.1 hg hm ?_)
        cases ho : ofJ r.j (l.getD 0 0) with
        | false => simp only [goodFrom, hm, ho, Bool.true_and, Bool.false_and, Bool.false_eq_true, if_false, if_true]
        | true =>
          simp only [if_true, goodFrom, hm, ho, Bool.true_and]
          exact hk'
      · refine br_yes (yes_of (by omega)) ?_
        have e2 : IntKind.wrap .i64 ((i : Int) - 1) = ((i - 1 : Nat) : Int) := by rw [wi (by omega) (by omega)]; omega
        rw [e2]
        refine ⟨ix_ok (by omega), blt_ok (by omega), ?_⟩
        rw [if_neg h0]
        show br (decide (l.getD (i - 1) 0 ≥ l.getD i 0)) _ _
        by_cases hge : l.getD (i - 1) 0 ≥ l.getD i 0
        · refine br_yes (yes_of hge) ?_
          have hr : decide (l.getD (i - 1) 0 < l.getD i 0) = false := no_of (by omega)
          simp only [goodFrom, hr, Bool.false_and, Bool.and_false, Bool.false_eq_true, if_false]
        · refine br_no (no_of hge) (rof_part h.1 hg hm ?_)
          have hr : decide (l.getD (i - 1) 0 < l.getD i 0) = true := yes_of (by omega)
          cases ho : ofJ r.j (l.getD i 0) with
          | false => simp only [goodFrom, hm, hr, ho, Bool.true_and, Bool.false_and, Bool.and_false, Bool.false_eq_true, if_false]
          | true =>
            simp only [if_true, goodFrom, hm, ho, hr, Bool.true_and]
            exact hk'

theorem ok_iff : r.ok = true ↔ r.j.good = true ∧ (r.pa = true → r.nx = -1) ∧ 0 ≤ r.try_ ∧ r.try_ ≤ r.j.re ∧ r.q.length ≤ 3 ∧ (r.num = 0 → r.due = 0 ∧ r.try_ = 0 ∧ r.q.length = 0) ∧ (r.j.ov = 1 ∨ r.q.length = 0) ∧ goodFrom r.j none r.line = true := by
  rw [good_none]
  unfold Row.ok
  simp only [Bool.and_eq_true, Bool.or_eq_true, Bool.not_eq_true', decide_eq_true_eq, beq_iff_eq, beq_eq_false_iff_ne, Bool.and_true]
  constructor
  · rintro ⟨h1, h2, h3, h4, h5, h6, h7, h8⟩
    refine ⟨h1, fun hp => ?_, h3, h4, by omega, fun hn => ?_, ?_, h8⟩
    · rcases h2 with e | e
      · rw [hp] at e; cases e
      · exact e
    · rcases h6 with e | ⟨⟨_, e1, e2⟩, e3⟩
      · exact absurd hn e
      · exact ⟨e1, e2, by omega⟩
    · rcases h7 with e | e
      · exact .inl e
      · exact .inr (by omega)
  · rintro ⟨h1, h2, h3, h4, h5, h6, h7, h8⟩
    refine ⟨h1, ?_, h3, h4, by omega, ?_, ?_, h8⟩
    · cases hp : r.pa
      · exact .inl rfl
      · exact .inr (h2 hp)
    · by_cases hn : r.num = 0
      · obtain ⟨e1, e2, e3⟩ := h6 hn
        exact .inr ⟨⟨hn, e1, e2⟩, by omega⟩
      · exact .inl hn
    · rcases h7 with e | e
      · exact .inl e
      · exact .inr (by omega)

theorem rrow_line (hg : r.j.good = true) {v : Bool} (hv : goodFrom r.j none r.line = v) : ∃ y2 : List Int, curfewref11_line_R r.j.name r.j.once r.j.c.mi r.j.c.ho r.j.c.da r.j.c.mo r.j.c.we r.j.at_ r.j.ov r.j.ca r.j.re r.pa r.nx r.num r.due r.try_ r.q y2 ∧
    ∃ y : curfewref11_RightRow_l0_Y, curfewref11_RightRow_l0_L (y2, r.j.name, r.j.once, r.j.c.mi, r.j.c.ho, r.j.c.da, r.j.c.mo, r.j.c.we, r.j.at_, r.j.ov, r.j.ca, r.j.re, r.pa, r.nx, r.num, r.due, r.try_, r.q, ((y2.length : Nat) : Int), 0) y ∧ sume (fun _ => false = v) (fun _ => true = v) y := by
  have hl := line_len h
  obtain ⟨k, hk⟩ := rrow_loop h hg (l := r.line) (by omega) r.line.length 0 (by omega)
  rw [List.drop_zero, if_pos rfl, hv] at hk
  refine ⟨_, rline_fn h, _, ⟨k, hk⟩, ?_⟩
  cases v <;> exact rfl

theorem rRow_fn : curfewref11_RightRow_R r.j.name r.j.once r.j.c.mi r.j.c.ho r.j.c.da r.j.c.mo r.j.c.we r.j.at_ r.j.ov r.j.ca r.j.re r.pa r.nx r.num r.due r.try_ r.q r.ok := by
  have no : ¬ r.ok = true → false = r.ok := fun e => by cases hk : r.ok; rfl; exact absurd hk e
  refine ⟨_, rCheck_fn h.1, ?_⟩
  rw [ck_ne]
  cases hg : r.j.good
  · exact br_yes rfl (no fun hk => by have := ((ok_iff h).mp hk).1; rw [hg] at this; cases this)
  refine br_no rfl ?_
  have hov := (ok0_parts (good_ok0 hg)).1
  refine br_intro (fun hp => br_intro (fun hx => no fun hk => ?_) (fun hx => ?_)) (fun hp => ?_)
  · have := ((ok_iff h).mp hk).2.1 hp
    simp [this] at hx
  all_goals
    have hpx : r.pa = true → r.nx = -1 := by first | exact fun _ => by simpa using hx | (intro e; rw [e] at hp; cases hp)
    refine br_intro (fun t1 => no fun hk => ?_) (fun t1 => br_intro (fun t2 => no fun hk => ?_) (fun t2 => br_intro (fun t3 => no fun hk => ?_) (fun t3 => br_intro (fun n0 => br_intro (fun z => no fun hk => ?_) (fun z => br_intro (fun e0 => no fun hk => ?_) (fun e0 => br_intro (fun v0 => br_intro (fun e1 => no fun hk => ?_) (fun e1 => ?_)) (fun v0 => ?_)))) (fun n0 => br_intro (fun v0 => br_intro (fun e1 => no fun hk => ?_) (fun e1 => ?_)) (fun v0 => ?_)))))
    all_goals first
      | (have hk' := (ok_iff h).mp hk
         obtain ⟨_, _, k3, k4, k5, k6, k7, _⟩ := hk'
         simp only [decide_eq_true_eq, decide_eq_false_iff_not, beq_iff_eq, beq_eq_false_iff_ne, Bool.not_eq_true', Bool.and_true, Bool.and_eq_false_iff] at *
         omega)
      | (refine rrow_line h hg ?_
         rw [Bool.eq_iff_iff, ok_iff h]
         simp only [decide_eq_true_eq, decide_eq_false_iff_not, beq_iff_eq, beq_eq_false_iff_ne, Bool.not_eq_false', Bool.and_true, Bool.and_eq_true] at t1 t2 t3 n0 v0
         refine ⟨fun hh => ⟨hg, hpx, by omega, by omega, by omega, fun hn => ?_, ?_, hh⟩, fun hh => hh.2.2.2.2.2.2.2⟩
         · first
             | exact absurd hn n0
             | (simp only [decide_eq_false_iff_not, Bool.not_eq_false', Bool.and_true, Bool.and_eq_true, beq_iff_eq] at z e0; exact ⟨z.2.1, z.2.2, by omega⟩)
         · first
             | exact .inl (by omega)
             | (simp only [decide_eq_false_iff_not] at e1; exact .inr (by omega)))
end

theorem bne_same (n : Int) : (n != n) = false := by simp

theorem rSame_loop {r : Row} (hl : r.q.length ≤ 100000) : ∀ (d i : Nat), i + d = r.q.length →
    ∃ k, curfewref11_SameRow_l0 k (r.j.name, r.j.once, r.j.c.mi, r.j.c.ho, r.j.c.da, r.j.c.mo, r.j.c.we, r.j.at_, r.j.ov, r.j.ca, r.j.re, r.pa, r.nx, r.num, r.due, r.try_, r.q, r.j.name, r.j.once, r.j.c.mi, r.j.c.ho, r.j.c.da, r.j.c.mo, r.j.c.we, r.j.at_, r.j.ov, r.j.ca, r.j.re, r.pa, r.nx, r.num, r.due, r.try_, r.q, ((r.q.length : Nat) : Int), (i : Int)) (.inr ()) := by
  intro d
  induction d with
  | zero => exact fun i hi => ⟨1, br_no (no_of (by omega)) rfl⟩
  | succ d ih =>
    intro i hi
    have hlt : i < r.q.length := by omega
    obtain ⟨k, hk⟩ := ih (i + 1) (by omega)
    refine ⟨k + 1, br_yes (yes_of (by omega)) ⟨ix_ok hlt, ix_ok hlt, br_no (bne_same _) ?_⟩⟩
    rw [wi_succ (n := i) (by omega)]
    exact hk

theorem rSame_fn {r : Row} (hl : r.q.length ≤ 100000) : curfewref11_SameRow_R r.j.name r.j.once r.j.c.mi r.j.c.ho r.j.c.da r.j.c.mo r.j.c.we r.j.at_ r.j.ov r.j.ca r.j.re r.pa r.nx r.num r.due r.try_ r.q r.j.name r.j.once r.j.c.mi r.j.c.ho r.j.c.da r.j.c.mo r.j.c.we r.j.at_ r.j.ov r.j.ca r.j.re r.pa r.nx r.num r.due r.try_ r.q true := by
  obtain ⟨k, hk⟩ := rSame_loop hl r.q.length 0 (by omega)
  exact br_no (bne_same _) ⟨_, ⟨k, hk⟩, br_yes (by simp) (br_yes (by simp) (br_yes (by simp) (by simp)))⟩

theorem rOccur_fn {r : Row} (h : r.in) (hok : r.ok = true) {now : Int} (hm : mayT now = true) : curfewref13_Occur_R r.j.name r.j.once r.j.c.mi r.j.c.ho r.j.c.da r.j.c.mo r.j.c.we r.j.at_ r.j.ov r.j.ca r.j.re r.pa r.nx r.num r.due r.try_ r.q now (occL r now) := by
  unfold occL
  rw [if_pos ⟨hok, hm⟩]
  obtain ⟨m0, m1⟩ := mayT_true hm
  by_cases hx : r.nx = -1
  · refine br_yes (by simpa using hx) ?_
    rw [if_pos (.inl hx)]
  refine br_no (by simpa using hx) ?_
  by_cases hn : r.nx > now
  · refine br_yes (yes_of hn) ?_
    rw [if_pos (.inr hn)]
  refine br_no (no_of hn) ?_
  rw [if_neg (by simp [hx, hn])]
  have hg := row_good hok
  obtain ⟨_, ⟨c0, c2⟩, _⟩ := ok0_parts (good_ok0 hg)
  obtain ⟨x1, x2⟩ := line_next hok hx
  obtain ⟨x0, _⟩ := mayT_true x1
  obtain ⟨last, hl, hge⟩ := latestJ_of h.1 x2 (a := now) (by omega)
  obtain ⟨l0, l1, l2, _⟩ := latestJ_some hl
  have hL := rLatest_fn h.1 hg now
  have hF := rFirst_fn h.1 hg now
  have hT := rTimes_fn h.1 hg (r.nx - 1) now (most := 4) (by omega)
  rw [← wi (x := r.nx - 1) (by omega) (by omega)] at hT
  rw [hl] at hL
  have body : ∀ v : Int, ∃ y2 : Int × Bool, curfewref10_Latest_R r.j.name r.j.once r.j.c.mi r.j.c.ho r.j.c.da r.j.c.mo r.j.c.we r.j.at_ r.j.ov r.j.ca r.j.re now y2 ∧ br (r.j.ca == 2) (∃ y3 : List Int, curfewref10_Times_R r.j.name r.j.once r.j.c.mi r.j.c.ho r.j.c.da r.j.c.mo r.j.c.we r.j.at_ r.j.ov r.j.ca r.j.re (IntKind.wrap .i64 (r.nx - 1)) now 4 y3 ∧ ((y3, v) = (offL r now, v))) (br (r.j.ca == 1) (([y2.1], v) = (offL r now, v)) (br (decide (IntKind.wrap .i64 (now - y2.1) < 60)) (([y2.1], v) = (offL r now, v)) (([], v) = (offL r now, v)))) := by
    intro v
    refine ⟨_, hL, ?_⟩
    unfold offL
    by_cases e2 : r.j.ca = 2
    · refine br_yes (by simpa using e2) ⟨_, hT, ?_⟩
      rw [if_neg (by omega), if_neg (by omega), wi (by omega) (by omega)]
    · refine br_no (by simpa using e2) ?_
      by_cases e1 : r.j.ca = 1
      · refine br_yes (by simpa using e1) ?_
        rw [if_neg (by omega), if_pos e1, hl]; rfl
      · refine br_no (by simpa using e1) ?_
        rw [if_pos (by omega), hl]
        show br (decide (IntKind.wrap .i64 (now - last) < 60)) _ _
        rw [wi (x := now - last) (by omega) (by omega)]
        by_cases hd : now - last > 59
        · exact br_no (no_of (by omega)) (by simp [hd])
        · exact br_yes (yes_of (by omega)) (by simp [hd, ansB])
  refine ⟨_, hF, ?_⟩
  unfold nextT
  cases hf : firstJ r.j now with
  | none => exact br_no rfl (body (-1))
  | some t => exact br_yes rfl (body t)
end Go.Proofs.YtjmjfjhiggiglaaGreatDoor
