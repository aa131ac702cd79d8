import Derived.Test.YtjbpihalfaclkaaGreatDoorJa
import Derived.Test.YtjbpihalfaclkaaGreatDoorMl
import Derived.Test.YtjbpihalfaclkaaGreatDoorMn
/- The times of a job: none is missed. -/
namespace Go.Proofs.YtjbpihalfaclkaaGreatDoor
open Go Go.B
set_option linter.unusedSimpArgs false
set_option linter.unusedVariables false
set_option linter.unusedSectionVars false
set_option maxRecDepth 20000

noncomputable def ofJ (j : Job) (t : Int) : Bool := match firstJ j (t - 1) with | some u => u == t | none => false

theorem good_ok0 {j : Job} (h : j.good = true) : j.ok0 = true := by unfold Job.good at h; simp only [Bool.and_eq_true] at h; exact h.1

theorem ok0_parts {j : Job} (h : j.ok0 = true) : (0 ≤ j.ov ∧ j.ov ≤ 1) ∧ (0 ≤ j.ca ∧ j.ca ≤ 2) ∧ (0 ≤ j.re ∧ j.re ≤ 3) ∧ (j.once = true → 0 ≤ j.at_ ∧ j.at_ ≤ 253402300799) ∧ (j.once = false → j.c.ok = true) := by
  unfold Job.ok0 ltd at h
  simp only [Bool.and_eq_true, decide_eq_true_eq] at h
  obtain ⟨_, ⟨h1, h2, h3⟩, h4⟩ := h
  refine ⟨h1, h2, h3, fun ho => ?_, fun ho => ?_⟩
  · rw [ho] at h4
    simp only [if_true, Bool.and_eq_true, decide_eq_true_eq] at h4
    exact ⟨h4.1.1, h4.1.2⟩
  · rw [ho] at h4
    simp only [Bool.false_eq_true, if_false, Bool.and_eq_true] at h4
    exact h4.1

theorem latestJ_some {j : Job} {t u : Int} (h : latestJ j t = some u) : 0 ≤ u ∧ u ≤ 253402300799 ∧ u ≤ t ∧ j.good = true := by
  unfold latestJ at h
  split at h
  · rename_i hg
    split at h
    · rename_i ho
      have := (ok0_parts (good_ok0 hg)).2.2.2.1 ho
      split at h
      · rename_i q; cases h; exact ⟨this.1, this.2, q, hg⟩
      · cases h
    · obtain ⟨hok, n, h1, h2, h3⟩ := lastF_some h
      obtain ⟨n0, n1⟩ := fitD_day h1
      obtain ⟨t0, t1⟩ := onL_day hok h2
      exact ⟨by omega, by omega, h3, hg⟩
  · cases h

theorem firstJ_some {j : Job} {t u : Int} (h : firstJ j t = some u) : 0 ≤ u ∧ u ≤ 253402300799 ∧ t < u ∧ j.good = true := by
  have hgt := firstJ_gt h
  unfold firstJ at h
  split at h
  · rename_i hg
    split at h
    · rename_i ho
      have := (ok0_parts (good_ok0 hg)).2.2.2.1 ho
      split at h
      · cases h; exact ⟨this.1, this.2, hgt, hg⟩
      · cases h
    · obtain ⟨hok, n, h1, h2, h3⟩ := nextF_some h
      obtain ⟨n0, n1⟩ := fitD_day h1
      obtain ⟨t0, t1⟩ := onL_day hok h2
      exact ⟨by omega, by omega, hgt, hg⟩
  · cases h

theorem fits_of {c : Cron} (hok : c.ok = true) {t : Int} (h0 : 0 ≤ t) (h : isT c t = true) : fitsC c ∧ fitD c (t / 86400) = true ∧ t ∈ onL c (t / 86400) ∧ t ≤ 253402300799 := by
  obtain ⟨h1, h2⟩ := (isT_iff hok h0).mp h
  have := fitD_day h1
  exact ⟨⟨hok, _, h1⟩, h1, h2, by omega⟩

/-- behind what is asked there is a time no later than any other one -/
theorem next_of_time {c : Cron} (hc : c.in) (hok : c.ok = true) {a u : Int} (h0 : 0 ≤ u) (hu : isT c u = true) (hlt : a < u) : ∃ v, nextF c a = some v ∧ v ≤ u := by
  obtain ⟨hf, k1, k2, k3⟩ := fits_of hok h0 hu
  cases hn : nextF c a with
  | some v =>
    refine ⟨v, rfl, ?_⟩
    rcases Int.lt_or_le u v with q | q
    · have := nextF_tight hn h0 hlt q
      rw [hu] at this; cases this
    · exact q
  | none =>
    exfalso
    rcases Int.lt_or_le (2932896 - 2922) (ofD a) with q | q
    · rw [nextF_yes hok] at hn
      have du : ofD a ≤ u / 86400 := by unfold ofD; omega
      have g := firstI_none hn (u / 86400 - ofD a).toNat (by omega) (by omega)
      rw [nextG_eq, show ofD a + (((u / 86400 - ofD a).toNat : Nat) : Int) = u / 86400 from by omega, k1, if_pos rfl] at g
      have := find_none_of g k2
      simp at this; omega
    · refine next_ever hc hf (a := a) (n0 := ofD a) rfl (by omega) ?_ hn
      unfold ofD at q ⊢; omega

theorem last_of_time {c : Cron} (hc : c.in) (hok : c.ok = true) {a u : Int} (h0 : 0 ≤ u) (hu : isT c u = true) (hle : u ≤ a) : ∃ v, lastF c a = some v ∧ u ≤ v := by
  obtain ⟨hf, k1, k2, k3⟩ := fits_of hok h0 hu
  cases hn : lastF c a with
  | some v =>
    refine ⟨v, rfl, ?_⟩
    rcases Int.lt_or_le v u with q | q
    · have := lastF_tight hn q hle
      rw [hu] at this; cases this
    · exact q
  | none =>
    exfalso
    rcases Int.lt_or_le (ofD a) 2922 with q | q
    · rw [lastF_yes hok] at hn
      have du : u / 86400 ≤ ofD a := by unfold ofD; omega
      have g := firstI_none hn (ofD a - u / 86400).toNat (by omega) (by omega)
      rw [lastG_eq, show ofD a - (((ofD a - u / 86400).toNat : Nat) : Int) = u / 86400 from by omega, k1, if_pos rfl] at g
      have := find_none_of g (List.mem_reverse.mpr k2)
      simp at this; omega
    · have hd := dayB_true (ofD_day a)
      refine last_ever hc hf (a := a) (n0 := ofD a - 2922) (by omega) (by omega) (by omega) ?_ hn
      unfold ofD at q ⊢; omega

theorem ofJ_iff {j : Job} {t : Int} : ofJ j t = true ↔ firstJ j (t - 1) = some t := by
  unfold ofJ
  cases firstJ j (t - 1) with
  | none => simp
  | some u => simp

theorem ofJ_parts {j : Job} {t : Int} (h : ofJ j t = true) : j.good = true ∧ 0 ≤ t ∧ t ≤ 253402300799 ∧ (j.once = true → t = j.at_) ∧ (j.once = false → j.c.ok = true ∧ isT j.c t = true) := by
  have h := ofJ_iff.mp h
  obtain ⟨t0, t1, _, hg⟩ := firstJ_some h
  refine ⟨hg, t0, t1, fun ho => ?_, fun ho => ?_⟩
  · unfold firstJ at h
    rw [hg, ho] at h
    simp only [if_true] at h
    split at h
    · cases h; rfl
    · cases h
  · unfold firstJ at h
    rw [hg, ho] at h
    simp only [if_true, Bool.false_eq_true, if_false] at h
    obtain ⟨hok, n, h1, h2, _⟩ := nextF_some h
    exact ⟨hok, (time_isT hok h1 h2).1⟩

theorem firstJ_of {j : Job} (hj : j.in) {a u : Int} (hu : ofJ j u = true) (hlt : a < u) : ∃ v, firstJ j a = some v ∧ v ≤ u := by
  obtain ⟨hg, u0, u1, h1, h2⟩ := ofJ_parts hu
  unfold firstJ
  rw [hg]
  cases ho : j.once
  · obtain ⟨hok, ht⟩ := h2 ho
    exact next_of_time hj.1 hok u0 ht hlt
  · have e := h1 ho
    refine ⟨j.at_, ?_, by omega⟩
    simp only [if_true]
    rw [if_pos (by omega)]

theorem latestJ_of {j : Job} (hj : j.in) {a u : Int} (hu : ofJ j u = true) (hle : u ≤ a) : ∃ v, latestJ j a = some v ∧ u ≤ v := by
  obtain ⟨hg, u0, u1, h1, h2⟩ := ofJ_parts hu
  unfold latestJ
  rw [hg]
  cases ho : j.once
  · obtain ⟨hok, ht⟩ := h2 ho
    exact last_of_time hj.1 hok u0 ht hle
  · have e := h1 ho
    refine ⟨j.at_, ?_, by omega⟩
    simp only [if_true]
    rw [if_pos (by omega)]

theorem firstJ_is {j : Job} {p t : Int} (h : firstJ j p = some t) : ofJ j t = true := by
  obtain ⟨t0, t1, hlt, hg⟩ := firstJ_some h
  rw [ofJ_iff]
  unfold firstJ at h ⊢
  rw [hg] at h ⊢
  cases ho : j.once
  · rw [ho] at h
    simp only [if_true, Bool.false_eq_true, if_false] at h ⊢
    obtain ⟨hok, n, h1, h2, _⟩ := nextF_some h
    exact time_next hok h1 h2
  · rw [ho] at h
    simp only [if_true] at h ⊢
    split at h
    · cases h
      rw [if_pos (by omega)]
    · cases h

theorem latestJ_is {j : Job} {p t : Int} (h : latestJ j p = some t) : ofJ j t = true := by
  obtain ⟨t0, t1, hle, hg⟩ := latestJ_some h
  rw [ofJ_iff]
  unfold latestJ at h
  unfold firstJ
  rw [hg] at h ⊢
  cases ho : j.once
  · rw [ho] at h
    simp only [if_true, Bool.false_eq_true, if_false] at h ⊢
    obtain ⟨hok, n, h1, h2, _⟩ := lastF_some h
    exact time_next hok h1 h2
  · rw [ho] at h
    simp only [if_true] at h ⊢
    split at h
    · cases h
      rw [if_pos (by omega)]
    · cases h

/-- times, each the first one behind the one before -/
def chain (j : Job) (hi : Int) : Int → List Int → Prop
  | _, [] => True
  | p, t :: l => firstJ j p = some t ∧ t ≤ hi ∧ chain j hi t l

theorem timesL_acc {j : Job} {hi : Int} : ∀ {d : Nat} {p : Int} {out : List Int}, timesL j hi d p out = out ++ timesL j hi d p []
  | 0, p, out => by simp [timesL]
  | d + 1, p, out => by
    unfold timesL
    cases firstJ j p with
    | none => simp
    | some t =>
      simp only
      split
      · simp
      · rw [timesL_acc (out := out ++ [t]), timesL_acc (out := [] ++ [t])]; simp

theorem timesL_cons {j : Job} {hi : Int} {d : Nat} {p t : Int} (h : firstJ j p = some t) (ht : t ≤ hi) : timesL j hi (d + 1) p [] = t :: timesL j hi d t [] := by
  show (match firstJ j p with | none => [] | some t => if t > hi then [] else timesL j hi d t ([] ++ [t])) = _
  rw [h]
  simp only
  rw [if_neg (by omega), timesL_acc]; rfl

theorem timesL_chain {j : Job} {hi : Int} : ∀ {d : Nat} {p : Int}, chain j hi p (timesL j hi d p [])
  | 0, p => trivial
  | d + 1, p => by
    cases h : firstJ j p with
    | none => unfold timesL; rw [h]; trivial
    | some t =>
      by_cases ht : t ≤ hi
      · rw [timesL_cons h ht]
        exact ⟨h, ht, timesL_chain⟩
      · unfold timesL
        rw [h]
        simp only
        rw [if_pos (by omega)]; trivial

theorem chain_mem {j : Job} {hi : Int} : ∀ {l : List Int} {p : Int}, chain j hi p l → (∀ t ∈ l, ofJ j t = true ∧ p < t ∧ t ≤ hi) ∧ l.Pairwise (· < ·)
  | [], p, _ => ⟨fun t h => (by cases h), List.Pairwise.nil⟩
  | t :: l, p, ⟨h1, h2, h3⟩ => by
    obtain ⟨a, b⟩ := chain_mem h3
    have hlt := firstJ_gt h1
    refine ⟨fun u hu => ?_, List.pairwise_cons.mpr ⟨fun u hu => (a u hu).2.1, b⟩⟩
    rcases List.mem_cons.mp hu with rfl | hu
    · exact ⟨firstJ_is h1, hlt, h2⟩
    · obtain ⟨x, y, z⟩ := a u hu
      exact ⟨x, by omega, z⟩

/-- so many times, or all of them -/
theorem timesL_all {j : Job} (hj : j.in) {hi : Int} : ∀ {d : Nat} {p : Int}, (timesL j hi d p []).length < d → ∀ u, ofJ j u = true → p < u → u ≤ hi → u ∈ timesL j hi d p []
  | 0, p, h, _, _, _, _ => absurd h (Nat.not_lt_zero _)
  | d + 1, p, h, u, hu, hlt, hle => by
    obtain ⟨v, hv, hvu⟩ := firstJ_of hj hu hlt
    have hvh : v ≤ hi := by omega
    rw [timesL_cons hv hvh] at h ⊢
    by_cases e : u = v
    · subst e; exact List.mem_cons_self
    · exact List.mem_cons_of_mem _ (timesL_all hj (by simpa using h) u hu (by omega) hle)

theorem rising_last {l : List Int} (h : l.Pairwise (· < ·)) {x : Int} (hx : x ∈ l) : x ≤ l.getD (l.length - 1) 0 := by
  obtain ⟨i, hi, rfl⟩ := List.getElem_of_mem hx
  have hp : 0 < l.length := by omega
  rw [List.getD_eq_getElem?_getD, List.getElem?_eq_getElem (by omega)]
  simp only [Option.getD_some]
  rcases Nat.lt_or_ge i (l.length - 1) with k | k
  · exact Int.le_of_lt (List.pairwise_iff_getElem.mp h i (l.length - 1) hi (by omega) k)
  · have : i = l.length - 1 := by omega
    subst this; exact Int.le_refl _
end Go.Proofs.YtjbpihalfaclkaaGreatDoor
/- A job's first and last times, and all of them, against one another. -/
namespace Go.Proofs.YtjbpihalfaclkaaGreatDoor
open Go Go.B
set_option linter.unusedSimpArgs false
set_option linter.unusedVariables false
set_option linter.unusedSectionVars false
set_option maxRecDepth 20000

theorem ends_cases (j : Job) (lo hi : Int) : ((∀ u, firstJ j lo = some u → hi < u) ∧ ∀ d, timesL j hi d lo [] = []) ∨ ∃ u, firstJ j lo = some u ∧ u ≤ hi ∧ ∀ d, timesL j hi (d + 1) lo [] = u :: timesL j hi d u [] := by
  cases h : firstJ j lo with
  | none =>
    refine .inl ⟨fun u hu => (by cases hu), fun d => ?_⟩
    cases d with
    | zero => rfl
    | succ d => unfold timesL; rw [h]
  | some u =>
    by_cases hu : u ≤ hi
    · exact .inr ⟨u, rfl, hu, fun d => timesL_cons h hu⟩
    · refine .inl ⟨fun v hv => (by cases hv; omega), fun d => ?_⟩
      cases d with
      | zero => rfl
      | succ d => unfold timesL; rw [h]; simp only; rw [if_pos (by omega)]

theorem ends_none {j : Job} (hj : j.in) {lo hi : Int} (h : ∀ u, firstJ j lo = some u → hi < u) {v : Int} (hv : latestJ j hi = some v) : v ≤ lo := by
  rcases Int.lt_or_le lo v with q | q
  · obtain ⟨w, h1, h2⟩ := firstJ_of hj (latestJ_is hv) q
    have := (latestJ_some hv).2.2.1
    have := h w h1
    omega
  · exact q

theorem ends_some {j : Job} (hj : j.in) {lo hi u : Int} (h : firstJ j lo = some u) (hu : u ≤ hi) : ∃ v, latestJ j hi = some v ∧ u ≤ v ∧ lo < v := by
  obtain ⟨v, h1, h2⟩ := latestJ_of hj (firstJ_is h) hu
  have := firstJ_gt h
  exact ⟨v, h1, h2, by omega⟩

theorem getD_last_mem {l : List Int} (h : l ≠ []) : l.getD (l.length - 1) 0 ∈ l := by
  have hp : 0 < l.length := List.length_pos_iff.mpr h
  rw [List.getD_eq_getElem?_getD, List.getElem?_eq_getElem (by omega)]
  exact List.getElem_mem _

theorem timesL_ne {j : Job} {lo hi u : Int} {d : Nat} (h : firstJ j lo = some u) (hu : u ≤ hi) : timesL j hi (d + 1) lo [] ≠ [] := by
  rw [timesL_cons h hu]; exact List.cons_ne_nil _ _

theorem ends_last {j : Job} (hj : j.in) {lo hi u v : Int} {d : Nat} (h : firstJ j lo = some u) (hu : u ≤ hi) (hv : latestJ j hi = some v) :
    (timesL j hi (d + 1) lo []).getD ((timesL j hi (d + 1) lo []).length - 1) 0 ≤ v ∧ ((timesL j hi (d + 1) lo []).length < d + 1 → (timesL j hi (d + 1) lo []).getD ((timesL j hi (d + 1) lo []).length - 1) 0 = v) := by
  obtain ⟨c1, c2⟩ := chain_mem (timesL_chain (j := j) (hi := hi) (d := d + 1) (p := lo))
  have hm := getD_last_mem (timesL_ne (d := d) h hu)
  obtain ⟨m1, m2, m3⟩ := c1 _ hm
  obtain ⟨v', e, hle⟩ := latestJ_of hj m1 m3
  rw [hv] at e; cases e
  refine ⟨hle, fun hl => ?_⟩
  obtain ⟨w, e, _, hlo⟩ := ends_some hj h hu
  rw [hv] at e; cases e
  have := rising_last c2 (timesL_all hj hl v (latestJ_is hv) hlo (latestJ_some hv).2.2.1)
  omega

theorem ends_once {j : Job} (ho : j.once = true) {lo hi u : Int} (h : firstJ j lo = some u) (d : Nat) : timesL j hi d u [] = [] := by
  have e : u = j.at_ := by
    unfold firstJ at h
    rw [ho] at h
    simp only [if_true] at h
    split at h
    · split at h
      · cases h; rfl
      · cases h
    · cases h
  cases d with
  | zero => rfl
  | succ d =>
    unfold timesL firstJ
    rw [ho]
    simp only [if_true]
    subst e
    split
    · rfl
    · rename_i t ht
      split at ht
      · split at ht
        · omega
        · cases ht
      · cases ht

theorem job_Times_no {j : Job} (h : j.in) (hg : j.good = false) (lo hi : Int) (most : Int) : job_Times_R j.name j.once j.c.mi j.c.ho j.c.da j.c.mo j.c.we j.at_ j.ov j.ca j.re lo hi most ([], j.ck) :=
  ⟨_, job_Check_fn h, br_yes (by rw [ck_ne, hg]; rfl) rfl⟩

theorem job_Idle_no {j : Job} (h : j.in) (hg : j.good = false) (lo hi : Int) : job_Idle_R j.name j.once j.c.mi j.c.ho j.c.da j.c.mo j.c.we j.at_ j.ov j.ca j.re lo hi false :=
  ⟨_, job_Times_no h hg lo hi 1, br_no (by show (j.ck == 0) = false; rw [Job.ck_good, hg]) rfl⟩

theorem job_Idle_fn {j : Job} (h : j.in) (hg : j.good = true) (lo hi : Int) : job_Idle_R j.name j.once j.c.mi j.c.ho j.c.da j.c.mo j.c.we j.at_ j.ov j.ca j.re lo hi (((timesL j hi 1 lo []).length : Int) == 0) :=
  ⟨_, job_Times_fn h hg lo hi (most := 1) (by decide), br_yes rfl rfl⟩
end Go.Proofs.YtjbpihalfaclkaaGreatDoor
