import Derived.Test.YtjbpihalfaclkaaGreatDoorMn
import Derived.Test.YtjbpihalfaclkaaGreatDoorUt
import Derived.Test.YtjbpihalfaclkaaGreatDoorMl
/- What jobs come to: which may be, and their times. -/
namespace Go.Proofs.YtjbpihalfaclkaaGreatDoor
open Go Go.B
set_option linter.unusedSimpArgs false
set_option linter.unusedVariables false
set_option linter.unusedSectionVars false
set_option maxRecDepth 20000

/-- a job -/
structure Job where
  name : Int
  once : Bool
  c : Cron
  at_ : Int
  ov : Int
  ca : Int
  re : Int

def Job.in (j : Job) : Prop := j.c.in ∧ (-9223372036854775808 ≤ j.at_ ∧ j.at_ ≤ 9223372036854775807)

def ltd (x m : Int) : Bool := decide (0 ≤ x) && decide (x ≤ m)

def zeroC (c : Cron) : Bool := (0 == c.mi) && ((0 == c.ho) && ((0 == c.da) && ((0 == c.mo) && ((0 == c.we) && true))))

/-- but for whether it ever is due -/
def Job.ok0 (j : Job) : Bool := (j.name != 0) && ((ltd j.ov 1 && (ltd j.ca 2 && ltd j.re 3)) && (if j.once then (decide (j.at_ ≥ 0) && decide (j.at_ ≤ 253402300799)) && zeroC j.c else j.c.ok && (0 == j.at_)))

noncomputable def everB (c : Cron) : Bool := (nextF c (-1)).isSome

noncomputable def Job.good (j : Job) : Bool := j.ok0 && (j.once || everB j.c)

theorem within_fn (x y z : Int) : job_within_R [x, 1, y, 2, z, 3] (ltd x 1 && (ltd y 2 && ltd z 3)) := by
  have go : ∃ k, job_within_l0 k ([x, 1, y, 2, z, 3], 0) (if ltd x 1 && (ltd y 2 && ltd z 3) then .inr () else .inl ()) := by
    have one : ∀ (v m : Int), ltd v m = false → decide (v < 0) = true ∨ (decide (v < 0) = false ∧ decide (v > m) = true) := fun v m h => by
      unfold ltd at h
      by_cases h0 : v < 0
      · exact .inl (yes_of h0)
      · refine .inr ⟨no_of h0, yes_of ?_⟩
        rw [yes_of (p := 0 ≤ v) (by omega), Bool.true_and] at h
        have := of_decide_eq_false h
        omega
    have two : ∀ (v m : Int), ltd v m = true → decide (v < 0) = false ∧ decide (v > m) = false := fun v m h => by
      unfold ltd at h
      simp only [Bool.and_eq_true, decide_eq_true_eq] at h
      exact ⟨no_of (by omega), no_of (by omega)⟩
    refine ⟨4, br_yes rfl ⟨rfl, ?_⟩⟩
    cases h1 : ltd x 1
    · rcases one x 1 h1 with h | ⟨h, h'⟩
      · exact br_yes h rfl
      · exact br_no h ⟨rfl, rfl, br_yes h' rfl⟩
    refine br_no (two x 1 h1).1 ⟨rfl, rfl, br_no (two x 1 h1).2 (br_yes rfl ⟨rfl, ?_⟩)⟩
    cases h2 : ltd y 2
    · rcases one y 2 h2 with h | ⟨h, h'⟩
      · exact br_yes h rfl
      · exact br_no h ⟨rfl, rfl, br_yes h' rfl⟩
    refine br_no (two y 2 h2).1 ⟨rfl, rfl, br_no (two y 2 h2).2 (br_yes rfl ⟨rfl, ?_⟩)⟩
    cases h3 : ltd z 3
    · rcases one z 3 h3 with h | ⟨h, h'⟩
      · exact br_yes h rfl
      · exact br_no h ⟨rfl, rfl, br_yes h' rfl⟩
    exact br_no (two z 3 h3).1 ⟨rfl, rfl, br_no (two z 3 h3).2 (br_no rfl rfl)⟩
  refine ⟨_, go, ?_⟩
  cases ltd x 1 && (ltd y 2 && ltd z 3) <;> rfl

noncomputable def Job.ck (j : Job) : Int := if j.ok0 then (if j.once || everB j.c then 0 else 201) else 200

theorem Job.ck_good (j : Job) : (j.ck == 0) = j.good := by
  unfold Job.ck Job.good
  cases j.ok0
  · rfl
  · cases j.once || everB j.c <;> rfl

theorem ever_fn {c : Cron} (hc : c.in) : next_Ever_R c.mi c.ho c.da c.mo c.we (everB c) :=
  ⟨_, next_Next_fn hc (-1), by rw [ansB2]; rfl⟩

theorem job_Check_fn {j : Job} (h : j.in) : job_Check_R j.name j.once j.c.mi j.c.ho j.c.da j.c.mo j.c.we j.at_ j.ov j.ca j.re j.ck := by
  unfold Job.ck Job.ok0
  have sb : ∀ b : Bool, (b == b) = true := fun b => by cases b <;> rfl
  have si : ∀ x : Int, (x == x) = true := fun x => by simp
  cases hn : (j.name != 0)
  · refine br_no hn ?_
    cases j.once
    · exact br_no rfl rfl
    · exact br_yes rfl rfl
  refine br_yes hn ⟨_, within_fn j.ov j.ca j.re, ?_⟩
  cases ho : j.once
  · refine br_no rfl ?_
    cases hw : (ltd j.ov 1 && (ltd j.ca 2 && ltd j.re 3))
    · exact br_no rfl rfl
    refine br_yes rfl ⟨_, cron_Check_fn h.1, ?_⟩
    cases hc : j.c.ok
    · exact br_yes rfl rfl
    refine br_no rfl ?_
    cases h0 : ((0 : Int) == j.at_)
    · refine br_yes (not_t (by simp only [si, sb, Bool.true_and, Bool.and_true])) rfl
    · refine br_no (not_f (by simp only [si, sb, Bool.true_and, Bool.and_true])) (br_yes rfl ⟨_, ever_fn h.1, ?_⟩)
      cases everB j.c
      · exact br_yes rfl rfl
      · exact br_no rfl rfl
  · refine br_yes rfl ?_
    cases hw : (ltd j.ov 1 && (ltd j.ca 2 && ltd j.re 3))
    · exact br_no rfl rfl
    refine br_yes rfl ?_
    cases h1 : decide (j.at_ ≥ 0)
    · exact br_no rfl rfl
    refine br_yes rfl ?_
    cases h2 : decide (j.at_ ≤ 253402300799)
    · exact br_yes rfl rfl
    refine br_no rfl ?_
    have ez : zeroC j.c = (((0 : Int) == j.c.mi) && ((0 == j.c.ho) && ((0 == j.c.da) && ((0 == j.c.mo) && (0 == j.c.we))))) := by unfold zeroC; simp only [Bool.and_true]
    cases hz : zeroC j.c
    · rw [ez] at hz
      exact br_yes (not_t (by simp only [si, sb, Bool.true_and, Bool.and_true]; exact hz)) rfl
    · rw [ez] at hz
      exact br_no (not_f (by simp only [si, sb, Bool.true_and, Bool.and_true]; exact hz)) (br_no rfl rfl)

/-- a job's first time behind one, its last one up to one -/
noncomputable def firstJ (j : Job) (t : Int) : Option Int := if j.good then (if j.once then (if j.at_ > t then some j.at_ else none) else nextF j.c t) else none

theorem ck_ne {j : Job} : (j.ck != 0) = !j.good := by rw [← Job.ck_good]; rfl

theorem job_First_fn {j : Job} (h : j.in) (t : Int) : job_First_R j.name j.once j.c.mi j.c.ho j.c.da j.c.mo j.c.we j.at_ j.ov j.ca j.re t (ansB (firstJ j t)) := by
  refine ⟨_, job_Check_fn h, ?_⟩
  unfold firstJ
  cases hg : j.good
  · exact br_yes (by rw [ck_ne, hg]; rfl) rfl
  refine br_no (by rw [ck_ne, hg]; rfl) ?_
  cases ho : j.once
  · exact br_no rfl ⟨_, next_Next_fn h.1 t, rfl⟩
  · refine br_yes rfl ?_
    by_cases ht : j.at_ > t
    · exact br_no (not_f (yes_of ht)) (by simp [ht, ansB])
    · exact br_yes (not_t (no_of ht)) (by simp [ht, ansB])

noncomputable def latestJ (j : Job) (t : Int) : Option Int := if j.good then (if j.once then (if j.at_ ≤ t then some j.at_ else none) else lastF j.c t) else none

/-- a job's times, one behind the other -/
noncomputable def timesL (j : Job) (hi : Int) : Nat → Int → List Int → List Int
  | 0, _, out => out
  | r + 1, t0, out => match firstJ j t0 with
    | none => out
    | some t => if t > hi then out else timesL j hi r t (out ++ [t])

theorem firstJ_gt {j : Job} {t u : Int} (h : firstJ j t = some u) : t < u := by
  unfold firstJ at h
  split at h
  · split at h
    · split at h
      · rename_i q; cases h; omega
      · cases h
    · obtain ⟨_, _, _, _, q⟩ := nextF_some h; omega
  · cases h
end Go.Proofs.YtjbpihalfaclkaaGreatDoor
/- The times of a job: none is missed. -/
namespace Go.Proofs.YtjbpihalfaclkaaGreatDoor
open Go Go.B
set_option linter.unusedSimpArgs false
set_option linter.unusedVariables false
set_option linter.unusedSectionVars false
set_option maxRecDepth 20000

noncomputable def ofJ (j : Job) (t : Int) : Bool := match firstJ j (t - 1) with | some u => u == t | none => false

theorem good_ok0 {j : Job} (h : j.good = true) : j.ok0 = true := by unfold Job.good at h; simp only [Bool.and_eq_true] at h; exact h.1

theorem ok0_parts {j : Job} (h : j.ok0 = true) : (0 ≤ j.ov ∧ j.ov ≤ 1) ∧ (0 ≤ j.ca ∧ j.ca ≤ 2) ∧ (0 ≤ j.re ∧ j.re ≤ 3) ∧ (j.once = true → 0 ≤ j.at_ ∧ j.at_ ≤ 253402300799) ∧ (j.once = false → j.c.ok = true) := by
  unfold Job.ok0 ltd at h
  simp only [Bool.and_eq_true, decide_eq_true_eq] at h
  obtain ⟨_, ⟨h1, h2, h3⟩, h4⟩ := h
  refine ⟨h1, h2, h3, fun ho => ?_, fun ho => ?_⟩
  · rw [ho] at h4
    simp only [if_true, Bool.and_eq_true, decide_eq_true_eq] at h4
    exact ⟨h4.1.1, h4.1.2⟩
  · rw [ho] at h4
    simp only [Bool.false_eq_true, if_false, Bool.and_eq_true] at h4
    exact h4.1

theorem latestJ_some {j : Job} {t u : Int} (h : latestJ j t = some u) : 0 ≤ u ∧ u ≤ 253402300799 ∧ u ≤ t ∧ j.good = true := by
  unfold latestJ at h
  split at h
  · rename_i hg
    split at h
    · rename_i ho
      have := (ok0_parts (good_ok0 hg)).2.2.2.1 ho
      split at h
      · rename_i q; cases h; exact ⟨this.1, this.2, q, hg⟩
      · cases h
    · obtain ⟨hok, n, h1, h2, h3⟩ := lastF_some h
      obtain ⟨n0, n1⟩ := fitD_day h1
      obtain ⟨t0, t1⟩ := onL_day hok h2
      exact ⟨by omega, by omega, h3, hg⟩
  · cases h

theorem firstJ_some {j : Job} {t u : Int} (h : firstJ j t = some u) : 0 ≤ u ∧ u ≤ 253402300799 ∧ t < u ∧ j.good = true := by
  have hgt := firstJ_gt h
  unfold firstJ at h
  split at h
  · rename_i hg
    split at h
    · rename_i ho
      have := (ok0_parts (good_ok0 hg)).2.2.2.1 ho
      split at h
      · cases h; exact ⟨this.1, this.2, hgt, hg⟩
      · cases h
    · obtain ⟨hok, n, h1, h2, h3⟩ := nextF_some h
      obtain ⟨n0, n1⟩ := fitD_day h1
      obtain ⟨t0, t1⟩ := onL_day hok h2
      exact ⟨by omega, by omega, hgt, hg⟩
  · cases h

theorem fits_of {c : Cron} (hok : c.ok = true) {t : Int} (h0 : 0 ≤ t) (h : isT c t = true) : fitsC c ∧ fitD c (t / 86400) = true ∧ t ∈ onL c (t / 86400) ∧ t ≤ 253402300799 := by
  obtain ⟨h1, h2⟩ := (isT_iff hok h0).mp h
  have := fitD_day h1
  exact ⟨⟨hok, _, h1⟩, h1, h2, by omega⟩

/-- behind what is asked there is a time no later than any other one -/
theorem next_of_time {c : Cron} (hc : c.in) (hok : c.ok = true) {a u : Int} (h0 : 0 ≤ u) (hu : isT c u = true) (hlt : a < u) : ∃ v, nextF c a = some v ∧ v ≤ u := by
  obtain ⟨hf, k1, k2, k3⟩ := fits_of hok h0 hu
  cases hn : nextF c a with
  | some v =>
    refine ⟨v, rfl, ?_⟩
    rcases Int.lt_or_le u v with q | q
    · have := nextF_tight hn h0 hlt q
      rw [hu] at this; cases this
    · exact q
  | none =>
    exfalso
    rcases Int.lt_or_le (2932896 - 2922) (ofD a) with q | q
    · rw [nextF_yes hok] at hn
      have du : ofD a ≤ u / 86400 := by unfold ofD; omega
      have g := firstI_none hn (u / 86400 - ofD a).toNat (by omega) (by omega)
      rw [nextG_eq, show ofD a + (((u / 86400 - ofD a).toNat : Nat) : Int) = u / 86400 from by omega, k1, if_pos rfl] at g
      have := find_none_of g k2
      simp at this; omega
    · refine next_ever hc hf (a := a) (n0 := ofD a) rfl (by omega) ?_ hn
      unfold ofD at q ⊢; omega

theorem last_of_time {c : Cron} (hc : c.in) (hok : c.ok = true) {a u : Int} (h0 : 0 ≤ u) (hu : isT c u = true) (hle : u ≤ a) : ∃ v, lastF c a = some v ∧ u ≤ v := by
  obtain ⟨hf, k1, k2, k3⟩ := fits_of hok h0 hu
  cases hn : lastF c a with
  | some v =>
    refine ⟨v, rfl, ?_⟩
    rcases Int.lt_or_le v u with q | q
    · have := lastF_tight hn q hle
      rw [hu] at this; cases this
    · exact q
  | none =>
    exfalso
    rcases Int.lt_or_le (ofD a) 2922 with q | q
    · rw [lastF_yes hok] at hn
      have du : u / 86400 ≤ ofD a := by unfold ofD; omega
      have g := firstI_none hn (ofD a - u / 86400).toNat (by omega) (by omega)
      rw [lastG_eq, show ofD a - (((ofD a - u / 86400).toNat : Nat) : Int) = u / 86400 from by omega, k1, if_pos rfl] at g
      have := find_none_of g (List.mem_reverse.mpr k2)
      simp at this; omega
    · have hd := dayB_true (ofD_day a)
      refine last_ever hc hf (a := a) (n0 := ofD a - 2922) (by omega) (by omega) (by omega) ?_ hn
      unfold ofD at q ⊢; omega

theorem ofJ_iff {j : Job} {t : Int} : ofJ j t = true ↔ firstJ j (t - 1) = some t := by
  unfold ofJ
  cases firstJ j (t - 1) with
  | none => simp
  | some u => simp

theorem ofJ_parts {j : Job} {t : Int} (h : ofJ j t = true) : j.good = true ∧ 0 ≤ t ∧ t ≤ 253402300799 ∧ (j.once = true → t = j.at_) ∧ (j.once = false → j.c.ok = true ∧ isT j.c t = true) := by
  have h := ofJ_iff.mp h
  obtain ⟨t0, t1, _, hg⟩ := firstJ_some h
  refine ⟨hg, t0, t1, fun ho => ?_, fun ho => ?_⟩
  · unfold firstJ at h
    rw [hg, ho] at h
    simp only [if_true] at h
    split at h
    · cases h; rfl
    · cases h
  · unfold firstJ at h
    rw [hg, ho] at h
    simp only [if_true, Bool.false_eq_true, if_false] at h
    obtain ⟨hok, n, h1, h2, _⟩ := nextF_some h
    exact ⟨hok, (time_isT hok h1 h2).1⟩

theorem firstJ_of {j : Job} (hj : j.in) {a u : Int} (hu : ofJ j u = true) (hlt : a < u) : ∃ v, firstJ j a = some v ∧ v ≤ u := by
  obtain ⟨hg, u0, u1, h1, h2⟩ := ofJ_parts hu
  unfold firstJ
  rw [hg]
  cases ho : j.once
  · obtain ⟨hok, ht⟩ := h2 ho
    exact next_of_time hj.1 hok u0 ht hlt
  · have e := h1 ho
    refine ⟨j.at_, ?_, by omega⟩
    simp only [if_true]
    rw [if_pos (by omega)]

theorem latestJ_of {j : Job} (hj : j.in) {a u : Int} (hu : ofJ j u = true) (hle : u ≤ a) : ∃ v, latestJ j a = some v ∧ u ≤ v := by
  obtain ⟨hg, u0, u1, h1, h2⟩ := ofJ_parts hu
  unfold latestJ
  rw [hg]
  cases ho : j.once
  · obtain ⟨hok, ht⟩ := h2 ho
    exact last_of_time hj.1 hok u0 ht hle
  · have e := h1 ho
    refine ⟨j.at_, ?_, by omega⟩
    simp only [if_true]
    rw [if_pos (by omega)]

theorem firstJ_is {j : Job} {p t : Int} (h : firstJ j p = some t) : ofJ j t = true := by
  obtain ⟨t0, t1, hlt, hg⟩ := firstJ_some h
  rw [ofJ_iff]
  unfold firstJ at h ⊢
  rw [hg] at h ⊢
  cases ho : j.once
  · rw [ho] at h
    simp only [if_true, Bool.false_eq_true, if_false] at h ⊢
    obtain ⟨hok, n, h1, h2, _⟩ := nextF_some h
    exact time_next hok h1 h2
  · rw [ho] at h
    simp only [if_true] at h ⊢
    split at h
    · cases h
      rw [if_pos (by omega)]
    · cases h

theorem latestJ_is {j : Job} {p t : Int} (h : latestJ j p = some t) : ofJ j t = true := by
  obtain ⟨t0, t1, hle, hg⟩ := latestJ_some h
  rw [ofJ_iff]
  unfold latestJ at h
  unfold firstJ
  rw [hg] at h ⊢
  cases ho : j.once
  · rw [ho] at h
    simp only [if_true, Bool.false_eq_true, if_false] at h ⊢
    obtain ⟨hok, n, h1, h2, _⟩ := lastF_some h
    exact time_next hok h1 h2
  · rw [ho] at h
    simp only [if_true] at h ⊢
    split at h
    · cases h
      rw [if_pos (by omega)]
    · cases h

/-- times, each the first one behind the one before -/
def chain (j : Job) (hi : Int) : Int → List Int → Prop
  | _, [] => True
  | p, t :: l => firstJ j p = some t ∧ t ≤ hi ∧ chain j hi t l

theorem timesL_acc {j : Job} {hi : Int} : ∀ {d : Nat} {p : Int} {out : List Int}, timesL j hi d p out = out ++ timesL j hi d p []
  | 0, p, out => by simp [timesL]
  | d + 1, p, out => by
    unfold timesL
    cases firstJ j p with
    | none => simp
    | some t =>
      simp only
      split
      · simp
      · rw [timesL_acc (out := out ++ [t]), timesL_acc (out := [] ++ [t])]; simp

theorem timesL_cons {j : Job} {hi : Int} {d : Nat} {p t : Int} (h : firstJ j p = some t) (ht : t ≤ hi) : timesL j hi (d + 1) p [] = t :: timesL j hi d t [] := by
  show (match firstJ j p with | none => [] | some t => if t > hi then [] else timesL j hi d t ([] ++ [t])) = _
  rw [h]
  simp only
  rw [if_neg (by omega), timesL_acc]; rfl

theorem timesL_chain {j : Job} {hi : Int} : ∀ {d : Nat} {p : Int}, chain j hi p (timesL j hi d p [])
  | 0, p => trivial
  | d + 1, p => by
    cases h : firstJ j p with
    | none => unfold timesL; rw [h]; trivial
    | some t =>
      by_cases ht : t ≤ hi
      · rw [timesL_cons h ht]
        exact ⟨h, ht, timesL_chain⟩
      · unfold timesL
        rw [h]
        simp only
        rw [if_pos (by omega)]; trivial

theorem chain_mem {j : Job} {hi : Int} : ∀ {l : List Int} {p : Int}, chain j hi p l → (∀ t ∈ l, ofJ j t = true ∧ p < t ∧ t ≤ hi) ∧ l.Pairwise (· < ·)
  | [], p, _ => ⟨fun t h => (by cases h), List.Pairwise.nil⟩
  | t :: l, p, ⟨h1, h2, h3⟩ => by
    obtain ⟨a, b⟩ := chain_mem h3
    have hlt := firstJ_gt h1
    refine ⟨fun u hu => ?_, List.pairwise_cons.mpr ⟨fun u hu => (a u hu).2.1, b⟩⟩
    rcases List.mem_cons.mp hu with rfl | hu
    · exact ⟨firstJ_is h1, hlt, h2⟩
    · obtain ⟨x, y, z⟩ := a u hu
      exact ⟨x, by omega, z⟩

/-- so many times, or all of them -/
theorem timesL_all {j : Job} (hj : j.in) {hi : Int} : ∀ {d : Nat} {p : Int}, (timesL j hi d p []).length < d → ∀ u, ofJ j u = true → p < u → u ≤ hi → u ∈ timesL j hi d p []
  | 0, p, h, _, _, _, _ => absurd h (Nat.not_lt_zero _)
  | d + 1, p, h, u, hu, hlt, hle => by
    obtain ⟨v, hv, hvu⟩ := firstJ_of hj hu hlt
    have hvh : v ≤ hi := by omega
    rw [timesL_cons hv hvh] at h ⊢
    by_cases e : u = v
    · subst e; exact List.mem_cons_self
    · exact List.mem_cons_of_mem _ (timesL_all hj (by simpa using h) u hu (by omega) hle)

theorem rising_last {l : List Int} (h : l.Pairwise (· < ·)) {x : Int} (hx : x ∈ l) : x ≤ l.getD (l.length - 1) 0 := by
  obtain ⟨i, hi, rfl⟩ := List.getElem_of_mem hx
  have hp : 0 < l.length := by omega
  rw [List.getD_eq_getElem?_getD, List.getElem?_eq_getElem (by omega)]
  simp only [Option.getD_some]
  rcases Nat.lt_or_ge i (l.length - 1) with k | k
  · exact Int.le_of_lt (List.pairwise_iff_getElem.mp h i (l.length - 1) hi (by omega) k)
  · have : i = l.length - 1 := by omega
    subst this; exact Int.le_refl _
end Go.Proofs.YtjbpihalfaclkaaGreatDoor
