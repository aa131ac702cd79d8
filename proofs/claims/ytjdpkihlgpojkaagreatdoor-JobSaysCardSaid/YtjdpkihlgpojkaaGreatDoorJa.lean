import Derived.Test.YtjdpkihlgpojkaaGreatDoorMe
import Derived.Test.YtjdpkihlgpojkaaGreatDoorMn
import Derived.Test.YtjdpkihlgpojkaaGreatDoorUt
/- Rows of numbers that are the same. -/
namespace Go.Proofs.YtjdpkihlgpojkaaGreatDoor
open Go Go.B
set_option linter.unusedSimpArgs false
set_option linter.unusedVariables false
set_option linter.unusedSectionVars false
set_option maxRecDepth 20000

theorem Equal_loop {l l' : List Int} (he : l.length = l'.length) (hl : l.length ≤ 1000000000) : ∀ (d i : Nat), i + d = l.length → (l.drop i = l'.drop i → ∃ k, slices_Equal__int64_int64_l0 k (l, l', (l.length : Int), (i : Int)) (.inr ())) := by
  intro d
  induction d with
  | zero =>
    intro i hi _
    refine ⟨1, ?_⟩
    unfold slices_Equal__int64_int64_l0
    have e1 : decide ((i : Int) < (l.length : Int)) = false := by simp; omega
    simp only [e1, br]
  | succ d ih =>
    intro i hi hd
    have hlt : i < l.length := by omega
    have hlt' : i < l'.length := by omega
    rw [drop_cons hlt, drop_cons hlt'] at hd
    simp only [List.cons.injEq] at hd
    obtain ⟨k, hk⟩ := ih (i + 1) (by omega) hd.2
    refine ⟨k + 1, ?_⟩
    unfold slices_Equal__int64_int64_l0
    have e1 : decide ((i : Int) < (l.length : Int)) = true := by simpa using hlt
    have e2 : (l.getD i 0 != l'.getD i 0) = false := by rw [hd.1]; simp
    have ei : IntKind.wrap .i64 ((i : Int) + 1) = ((i + 1 : Nat) : Int) := by rw [wi (by omega) (by omega)]; rfl
    simp only [e1, br, Int.toNat_natCast, e2, ei]
    exact ⟨by simp <;> omega, ⟨by simp <;> omega, hk⟩⟩

theorem Equal_yes (l : List Int) (hl : l.length ≤ 1000000000) : slices_Equal__int64_int64_R l l true := by
  unfold slices_Equal__int64_int64_R
  have e : ((((List.length l) : Nat) : Int) != (((List.length l) : Nat) : Int)) = false := by simp
  simp only [e, br]
  obtain ⟨k, hk⟩ := Equal_loop (l := l) (l' := l) rfl hl l.length 0 (by omega) rfl
  exact ⟨_, ⟨k, hk⟩, trivial⟩
end Go.Proofs.YtjdpkihlgpojkaaGreatDoor
/- What jobs come to: which may be, and their times. -/
namespace Go.Proofs.YtjdpkihlgpojkaaGreatDoor
open Go Go.B
set_option linter.unusedSimpArgs false
set_option linter.unusedVariables false
set_option linter.unusedSectionVars false
set_option maxRecDepth 20000

/-- a job -/
structure Job where
  name : Int
  once : Bool
  c : Cron
  at_ : Int
  ov : Int
  ca : Int
  re : Int

def Job.in (j : Job) : Prop := j.c.in ∧ (-9223372036854775808 ≤ j.at_ ∧ j.at_ ≤ 9223372036854775807)

def ltd (x m : Int) : Bool := decide (0 ≤ x) && decide (x ≤ m)

def zeroC (c : Cron) : Bool := (0 == c.mi) && ((0 == c.ho) && ((0 == c.da) && ((0 == c.mo) && ((0 == c.we) && true))))

/-- but for whether it ever is due -/
def Job.ok0 (j : Job) : Bool := (j.name != 0) && ((ltd j.ov 1 && (ltd j.ca 2 && ltd j.re 3)) && (if j.once then (decide (j.at_ ≥ 0) && decide (j.at_ ≤ 253402300799)) && zeroC j.c else j.c.ok && (0 == j.at_)))

noncomputable def everB (c : Cron) : Bool := (nextF c (-1)).isSome

noncomputable def Job.good (j : Job) : Bool := j.ok0 && (j.once || everB j.c)

theorem within_fn (x y z : Int) : job_within_R [x, 1, y, 2, z, 3] (ltd x 1 && (ltd y 2 && ltd z 3)) := by
  have go : ∃ k, job_within_l0 k ([x, 1, y, 2, z, 3], 0) (if ltd x 1 && (ltd y 2 && ltd z 3) then .inr () else .inl ()) := by
    have one : ∀ (v m : Int), ltd v m = false → decide (v < 0) = true ∨ (decide (v < 0) = false ∧ decide (v > m) = true) := fun v m h => by
      unfold ltd at h
      by_cases h0 : v < 0
      · exact .inl (yes_of h0)
      · refine .inr ⟨no_of h0, yes_of ?_⟩
        rw [yes_of (p := 0 ≤ v) (by omega), Bool.true_and] at h
        have := of_decide_eq_false h
        omega
    have two : ∀ (v m : Int), ltd v m = true → decide (v < 0) = false ∧ decide (v > m) = false := fun v m h => by
      unfold ltd at h
      simp only [Bool.and_eq_true, decide_eq_true_eq] at h
      exact ⟨no_of (by omega), no_of (by omega)⟩
    refine ⟨4, br_yes rfl ⟨rfl, ?_⟩⟩
    cases h1 : ltd x 1
    · rcases one x 1 h1 with h | ⟨h, h'⟩
      · exact br_yes h rfl
      · exact br_no h ⟨rfl, rfl, br_yes h' rfl⟩
    refine br_no (two x 1 h1).1 ⟨rfl, rfl, br_no (two x 1 h1).2 (br_yes rfl ⟨rfl, ?_⟩)⟩
    cases h2 : ltd y 2
    · rcases one y 2 h2 with h | ⟨h, h'⟩
      · exact br_yes h rfl
      · exact br_no h ⟨rfl, rfl, br_yes h' rfl⟩
    refine br_no (two y 2 h2).1 ⟨rfl, rfl, br_no (two y 2 h2).2 (br_yes rfl ⟨rfl, ?_⟩)⟩
    cases h3 : ltd z 3
    · rcases one z 3 h3 with h | ⟨h, h'⟩
      · exact br_yes h rfl
      · exact br_no h ⟨rfl, rfl, br_yes h' rfl⟩
    exact br_no (two z 3 h3).1 ⟨rfl, rfl, br_no (two z 3 h3).2 (br_no rfl rfl)⟩
  refine ⟨_, go, ?_⟩
  cases ltd x 1 && (ltd y 2 && ltd z 3) <;> rfl

noncomputable def Job.ck (j : Job) : Int := if j.ok0 then (if j.once || everB j.c then 0 else 201) else 200

theorem Job.ck_good (j : Job) : (j.ck == 0) = j.good := by
  unfold Job.ck Job.good
  cases j.ok0
  · rfl
  · cases j.once || everB j.c <;> rfl

theorem ever_fn {c : Cron} (hc : c.in) : next_Ever_R c.mi c.ho c.da c.mo c.we (everB c) :=
  ⟨_, next_Next_fn hc (-1), by rw [ansB2]; rfl⟩

theorem job_Check_fn {j : Job} (h : j.in) : job_Check_R j.name j.once j.c.mi j.c.ho j.c.da j.c.mo j.c.we j.at_ j.ov j.ca j.re j.ck := by
  unfold Job.ck Job.ok0
  have sb : ∀ b : Bool, (b == b) = true := fun b => by cases b <;> rfl
  have si : ∀ x : Int, (x == x) = true := fun x => by simp
  cases hn : (j.name != 0)
  · refine br_no hn ?_
    cases j.once
    · exact br_no rfl rfl
    · exact br_yes rfl rfl
  refine br_yes hn ⟨_, within_fn j.ov j.ca j.re, ?_⟩
  cases ho : j.once
  · refine br_no rfl ?_
    cases hw : (ltd j.ov 1 && (ltd j.ca 2 && ltd j.re 3))
    · exact br_no rfl rfl
    refine br_yes rfl ⟨_, cron_Check_fn h.1, ?_⟩
    cases hc : j.c.ok
    · exact br_yes rfl rfl
    refine br_no rfl ?_
    cases h0 : ((0 : Int) == j.at_)
    · refine br_yes (not_t (by simp only [si, sb, Bool.true_and, Bool.and_true])) rfl
    · refine br_no (not_f (by simp only [si, sb, Bool.true_and, Bool.and_true])) (br_yes rfl ⟨_, ever_fn h.1, ?_⟩)
      cases everB j.c
      · exact br_yes rfl rfl
      · exact br_no rfl rfl
  · refine br_yes rfl ?_
    cases hw : (ltd j.ov 1 && (ltd j.ca 2 && ltd j.re 3))
    · exact br_no rfl rfl
    refine br_yes rfl ?_
    cases h1 : decide (j.at_ ≥ 0)
    · exact br_no rfl rfl
    refine br_yes rfl ?_
    cases h2 : decide (j.at_ ≤ 253402300799)
    · exact br_yes rfl rfl
    refine br_no rfl ?_
    have ez : zeroC j.c = (((0 : Int) == j.c.mi) && ((0 == j.c.ho) && ((0 == j.c.da) && ((0 == j.c.mo) && (0 == j.c.we))))) := by unfold zeroC; simp only [Bool.and_true]
    cases hz : zeroC j.c
    · rw [ez] at hz
      exact br_yes (not_t (by simp only [si, sb, Bool.true_and, Bool.and_true]; exact hz)) rfl
    · rw [ez] at hz
      exact br_no (not_f (by simp only [si, sb, Bool.true_and, Bool.and_true]; exact hz)) (br_no rfl rfl)

/-- a job's first time behind one, its last one up to one -/
noncomputable def firstJ (j : Job) (t : Int) : Option Int := if j.good then (if j.once then (if j.at_ > t then some j.at_ else none) else nextF j.c t) else none

theorem ck_ne {j : Job} : (j.ck != 0) = !j.good := by rw [← Job.ck_good]; rfl

theorem job_First_fn {j : Job} (h : j.in) (t : Int) : job_First_R j.name j.once j.c.mi j.c.ho j.c.da j.c.mo j.c.we j.at_ j.ov j.ca j.re t (ansB (firstJ j t)) := by
  refine ⟨_, job_Check_fn h, ?_⟩
  unfold firstJ
  cases hg : j.good
  · exact br_yes (by rw [ck_ne, hg]; rfl) rfl
  refine br_no (by rw [ck_ne, hg]; rfl) ?_
  cases ho : j.once
  · exact br_no rfl ⟨_, next_Next_fn h.1 t, rfl⟩
  · refine br_yes rfl ?_
    by_cases ht : j.at_ > t
    · exact br_no (not_f (yes_of ht)) (by simp [ht, ansB])
    · exact br_yes (not_t (no_of ht)) (by simp [ht, ansB])

/-- a job's times, one behind the other -/
noncomputable def timesL (j : Job) (hi : Int) : Nat → Int → List Int → List Int
  | 0, _, out => out
  | r + 1, t0, out => match firstJ j t0 with
    | none => out
    | some t => if t > hi then out else timesL j hi r t (out ++ [t])

theorem Times_once {j : Job} (hg : j.good = true) (ho : j.once = true) {lo hi : Int} {most : Nat} (hm : most ≤ 64) : ∀ (d : Nat) (t0 : Int) (out : List Int), out.length + d = most →
    ∃ k, job_Times_l1 k (out, lo, hi, j.at_, (most : Int), t0) (timesL j hi d t0 out) := by
  intro d
  induction d with
  | zero => exact fun t0 out hl => ⟨1, br_no (no_of (by omega)) rfl⟩
  | succ d ih =>
    intro t0 out hl
    unfold timesL firstJ
    rw [hg, ho]
    simp only [if_true]
    by_cases ht : j.at_ > t0
    · rw [if_pos ht]
      by_cases hh : j.at_ > hi
      · exact ⟨1, br_yes (yes_of (by omega)) (br_no (not_f (yes_of ht)) (br_yes (yes_of hh) (by simp [hh])))⟩
      · obtain ⟨k, hk⟩ := ih j.at_ (out ++ [j.at_]) (by simp; omega)
        exact ⟨k + 1, br_yes (yes_of (by omega)) (br_no (not_f (yes_of ht)) (br_no (no_of hh) ⟨nl_ok (by simp; omega), by simp only [hh, if_false]; exact hk⟩))⟩
    · rw [if_neg ht]
      exact ⟨1, br_yes (yes_of (by omega)) (br_yes (not_t (no_of ht)) rfl)⟩

theorem Times_cron {j : Job} (h : j.in) (hg : j.good = true) (ho : j.once = false) {lo hi : Int} {most : Nat} (hm : most ≤ 64) : ∀ (d : Nat) (t0 : Int) (out : List Int), out.length + d = most →
    ∃ k, job_Times_l2 k (out, lo, hi, j.c.mi, j.c.ho, j.c.da, j.c.mo, j.c.we, (most : Int), t0) (timesL j hi d t0 out) := by
  intro d
  induction d with
  | zero => exact fun t0 out hl => ⟨1, br_no (no_of (by omega)) rfl⟩
  | succ d ih =>
    intro t0 out hl
    have hn := next_Next_fn h.1 t0
    have ef : firstJ j t0 = nextF j.c t0 := by unfold firstJ; rw [hg, ho]; rfl
    unfold timesL
    rw [ef]
    cases hx : nextF j.c t0 with
    | none =>
      rw [hx] at hn
      exact ⟨1, br_yes (yes_of (by omega)) ⟨_, hn, br_yes rfl rfl⟩⟩
    | some t =>
      rw [hx] at hn
      by_cases hh : t > hi
      · exact ⟨1, br_yes (yes_of (by omega)) ⟨_, hn, br_no rfl (br_yes (yes_of hh) (by simp [hh]))⟩⟩
      · obtain ⟨k, hk⟩ := ih t (out ++ [t]) (by simp; omega)
        exact ⟨k + 1, br_yes (yes_of (by omega)) ⟨_, hn, br_no rfl (br_no (no_of hh) ⟨nl_ok (by simp; omega), by simp only [hh, if_false]; exact hk⟩)⟩⟩

theorem job_Times_fn {j : Job} (h : j.in) (hg : j.good = true) (lo hi : Int) {most : Nat} (hm : most ≤ 64) : job_Times_R j.name j.once j.c.mi j.c.ho j.c.da j.c.mo j.c.we j.at_ j.ov j.ca j.re lo hi most (timesL j hi most lo [], 0) := by
  have hz : (j.ck != 0) = false := by rw [ck_ne, hg]; rfl
  refine ⟨_, job_Check_fn h, br_no hz (br_no (no_of (by omega)) (br_no (no_of (by omega)) ⟨_, job_Check_fn h, br_no hz ?_⟩))⟩
  cases ho : j.once
  · exact br_no rfl ⟨_, Times_cron h hg ho hm most lo [] (by simp), rfl⟩
  · exact br_yes rfl ⟨_, Times_once hg ho hm most lo [] (by simp), rfl⟩
end Go.Proofs.YtjdpkihlgpojkaaGreatDoor
