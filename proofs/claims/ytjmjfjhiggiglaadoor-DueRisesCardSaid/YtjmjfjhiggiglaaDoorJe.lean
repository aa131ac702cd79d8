/- The times of a job: none is missed. -/
import Derived.Test.YtjmjfjhiggiglaaDoorJd
namespace Go.Proofs.YtjmjfjhiggiglaaDoor
open Go Go.B
set_option linter.unusedSimpArgs false
set_option linter.unusedVariables false
set_option linter.unusedSectionVars false
set_option maxRecDepth 20000

theorem fits_of {c : Cron} (hok : c.ok = true) {t : Int} (h0 : 0 ≤ t) (h : isT c t = true) : fitsC c ∧ fitD c (t / 86400) = true ∧ t ∈ onL c (t / 86400) ∧ t ≤ 253402300799 := by
  obtain ⟨h1, h2⟩ := (isT_iff hok h0).mp h
  have := fitD_day h1
  exact ⟨⟨hok, _, h1⟩, h1, h2, by omega⟩

/-- behind what is asked there is a time no later than any other one -/
theorem next_of_time {c : Cron} (hc : c.in) (hok : c.ok = true) {a u : Int} (h0 : 0 ≤ u) (hu : isT c u = true) (hlt : a < u) : ∃ v, nextF c a = some v ∧ v ≤ u := by
  obtain ⟨hf, k1, k2, k3⟩ := fits_of hok h0 hu
  cases hn : nextF c a with
  | some v =>
    refine ⟨v, rfl, ?_⟩
    rcases Int.lt_or_le u v with q | q
    · have := nextF_tight hn h0 hlt q
      rw [hu] at this; cases this
    · exact q
  | none =>
    exfalso
    rcases Int.lt_or_le (2932896 - 2922) (ofD a) with q | q
    · rw [nextF_yes hok] at hn
      have du : ofD a ≤ u / 86400 := by unfold ofD; omega
      have g := firstI_none hn (u / 86400 - ofD a).toNat (by omega) (by omega)
      rw [nextG_eq, show ofD a + (((u / 86400 - ofD a).toNat : Nat) : Int) = u / 86400 from by omega, k1, if_pos rfl] at g
      have := find_none_of g k2
      simp at this; omega
    · refine next_ever hc hf (a := a) (n0 := ofD a) rfl (by omega) ?_ hn
      unfold ofD at q ⊢; omega

theorem last_of_time {c : Cron} (hc : c.in) (hok : c.ok = true) {a u : Int} (h0 : 0 ≤ u) (hu : isT c u = true) (hle : u ≤ a) : ∃ v, lastF c a = some v ∧ u ≤ v := by
  obtain ⟨hf, k1, k2, k3⟩ := fits_of hok h0 hu
  cases hn : lastF c a with
  | some v =>
    refine ⟨v, rfl, ?_⟩
    rcases Int.lt_or_le v u with q | q
    · have := lastF_tight hn q hle
      rw [hu] at this; cases this
    · exact q
  | none =>
    exfalso
    rcases Int.lt_or_le (ofD a) 2922 with q | q
    · rw [lastF_yes hok] at hn
      have du : u / 86400 ≤ ofD a := by unfold ofD; omega
      have g := firstI_none hn (ofD a - u / 86400).toNat (by omega) (by omega)
      rw [lastG_eq, show ofD a - (((ofD a - u / 86400).toNat : Nat) : Int) = u / 86400 from by omega, k1, if_pos rfl] at g
      have := find_none_of g (List.mem_reverse.mpr k2)
      simp at this; omega
    · have hd := dayB_true (ofD_day a)
      refine last_ever hc hf (a := a) (n0 := ofD a - 2922) (by omega) (by omega) (by omega) ?_ hn
      unfold ofD at q ⊢; omega

theorem ofJ_iff {j : Job} {t : Int} : ofJ j t = true ↔ firstJ j (t - 1) = some t := by
  unfold ofJ
  cases firstJ j (t - 1) with
  | none => simp
  | some u => simp

theorem ofJ_parts {j : Job} {t : Int} (h : ofJ j t = true) : j.good = true ∧ 0 ≤ t ∧ t ≤ 253402300799 ∧ (j.once = true → t = j.at_) ∧ (j.once = false → j.c.ok = true ∧ isT j.c t = true) := by
  have h := ofJ_iff.mp h
  obtain ⟨t0, t1, _, hg⟩ := firstJ_some h
  refine ⟨hg, t0, t1, fun ho => ?_, fun ho => ?_⟩
  · unfold firstJ at h
    rw [hg, ho] at h
    simp only [if_true] at h
    split at h
    · cases h; rfl
    · cases h
  · unfold firstJ at h
    rw [hg, ho] at h
    simp only [if_true, Bool.false_eq_true, if_false] at h
    obtain ⟨hok, n, h1, h2, _⟩ := nextF_some h
    exact ⟨hok, (time_isT hok h1 h2).1⟩

theorem firstJ_of {j : Job} (hj : j.in) {a u : Int} (hu : ofJ j u = true) (hlt : a < u) : ∃ v, firstJ j a = some v ∧ v ≤ u := by
  obtain ⟨hg, u0, u1, h1, h2⟩ := ofJ_parts hu
  unfold firstJ
  rw [hg]
  cases ho : j.once
  · obtain ⟨hok, ht⟩ := h2 ho
    exact next_of_time hj.1 hok u0 ht hlt
  · have e := h1 ho
    refine ⟨j.at_, ?_, by omega⟩
    simp only [if_true]
    rw [if_pos (by omega)]

theorem latestJ_of {j : Job} (hj : j.in) {a u : Int} (hu : ofJ j u = true) (hle : u ≤ a) : ∃ v, latestJ j a = some v ∧ u ≤ v := by
  obtain ⟨hg, u0, u1, h1, h2⟩ := ofJ_parts hu
  unfold latestJ
  rw [hg]
  cases ho : j.once
  · obtain ⟨hok, ht⟩ := h2 ho
    exact last_of_time hj.1 hok u0 ht hle
  · have e := h1 ho
    refine ⟨j.at_, ?_, by omega⟩
    simp only [if_true]
    rw [if_pos (by omega)]

theorem firstJ_is {j : Job} {p t : Int} (h : firstJ j p = some t) : ofJ j t = true := by
  obtain ⟨t0, t1, hlt, hg⟩ := firstJ_some h
  rw [ofJ_iff]
  unfold firstJ at h ⊢
  rw [hg] at h ⊢
  cases ho : j.once
  · rw [ho] at h
    simp only [if_true, Bool.false_eq_true, if_false] at h ⊢
    obtain ⟨hok, n, h1, h2, _⟩ := nextF_some h
    exact time_next hok h1 h2
  · rw [ho] at h
    simp only [if_true] at h ⊢
    split at h
    · cases h
      rw [if_pos (by omega)]
    · cases h

theorem latestJ_is {j : Job} {p t : Int} (h : latestJ j p = some t) : ofJ j t = true := by
  obtain ⟨t0, t1, hle, hg⟩ := latestJ_some h
  rw [ofJ_iff]
  unfold latestJ at h
  unfold firstJ
  rw [hg] at h ⊢
  cases ho : j.once
  · rw [ho] at h
    simp only [if_true, Bool.false_eq_true, if_false] at h ⊢
    obtain ⟨hok, n, h1, h2, _⟩ := lastF_some h
    exact time_next hok h1 h2
  · rw [ho] at h
    simp only [if_true] at h ⊢
    split at h
    · cases h
      rw [if_pos (by omega)]
    · cases h

/-- times, each the first one behind the one before -/
def chain (j : Job) (hi : Int) : Int → List Int → Prop
  | _, [] => True
  | p, t :: l => firstJ j p = some t ∧ t ≤ hi ∧ chain j hi t l

theorem timesL_acc {j : Job} {hi : Int} : ∀ {d : Nat} {p : Int} {out : List Int}, timesL j hi d p out = out ++ timesL j hi d p []
  | 0, p, out => by simp [timesL]
  | d + 1, p, out => by
    unfold timesL
    cases firstJ j p with
    | none => simp
    | some t =>
      simp only
      split
      · simp
      · rw [timesL_acc (out := out ++ [t]), timesL_acc (out := [] ++ [t])]; simp

theorem timesL_cons {j : Job} {hi : Int} {d : Nat} {p t : Int} (h : firstJ j p = some t) (ht : t ≤ hi) : timesL j hi (d + 1) p [] = t :: timesL j hi d t [] := by
  show (match firstJ j p with | none => [] | some t => if t > hi then [] else timesL j hi d t ([] ++ [t])) = _
  rw [h]
  simp only
  rw [if_neg (by omega), timesL_acc]; rfl

theorem timesL_chain {j : Job} {hi : Int} : ∀ {d : Nat} {p : Int}, chain j hi p (timesL j hi d p [])
  | 0, p => trivial
  | d + 1, p => by
    cases h : firstJ j p with
    | none => unfold timesL; rw [h]; trivial
    | some t =>
      by_cases ht : t ≤ hi
      · rw [timesL_cons h ht]
        exact ⟨h, ht, timesL_chain⟩
      · unfold timesL
        rw [h]
        simp only
        rw [if_pos (by omega)]; trivial

theorem chain_mem {j : Job} {hi : Int} : ∀ {l : List Int} {p : Int}, chain j hi p l → (∀ t ∈ l, ofJ j t = true ∧ p < t ∧ t ≤ hi) ∧ l.Pairwise (· < ·)
  | [], p, _ => ⟨fun t h => (by cases h), List.Pairwise.nil⟩
  | t :: l, p, ⟨h1, h2, h3⟩ => by
    obtain ⟨a, b⟩ := chain_mem h3
    have hlt := firstJ_gt h1
    refine ⟨fun u hu => ?_, List.pairwise_cons.mpr ⟨fun u hu => (a u hu).2.1, b⟩⟩
    rcases List.mem_cons.mp hu with rfl | hu
    · exact ⟨firstJ_is h1, hlt, h2⟩
    · obtain ⟨x, y, z⟩ := a u hu
      exact ⟨x, by omega, z⟩

/-- so many times, or all of them -/
theorem timesL_all {j : Job} (hj : j.in) {hi : Int} : ∀ {d : Nat} {p : Int}, (timesL j hi d p []).length < d → ∀ u, ofJ j u = true → p < u → u ≤ hi → u ∈ timesL j hi d p []
  | 0, p, h, _, _, _, _ => absurd h (Nat.not_lt_zero _)
  | d + 1, p, h, u, hu, hlt, hle => by
    obtain ⟨v, hv, hvu⟩ := firstJ_of hj hu hlt
    have hvh : v ≤ hi := by omega
    rw [timesL_cons hv hvh] at h ⊢
    by_cases e : u = v
    · subst e; exact List.mem_cons_self
    · exact List.mem_cons_of_mem _ (timesL_all hj (by simpa using h) u hu (by omega) hle)

theorem rising_last {l : List Int} (h : l.Pairwise (· < ·)) {x : Int} (hx : x ∈ l) : x ≤ l.getD (l.length - 1) 0 := by
  obtain ⟨i, hi, rfl⟩ := List.getElem_of_mem hx
  have hp : 0 < l.length := by omega
  rw [List.getD_eq_getElem?_getD, List.getElem?_eq_getElem (by omega)]
  simp only [Option.getD_some]
  rcases Nat.lt_or_ge i (l.length - 1) with k | k
  · exact Int.le_of_lt (List.pairwise_iff_getElem.mp h i (l.length - 1) hi (by omega) k)
  · have : i = l.length - 1 := by omega
    subst this; exact Int.le_refl _
end Go.Proofs.YtjmjfjhiggiglaaDoor
