/- Times of two spans, one behind the other. -/
import Derived.Test.YtjmjfjhiggiglaaDoorMn
import Derived.Test.YtjmjfjhiggiglaaDoorMs
import Derived.Test.YtjmjfjhiggiglaaDoorUt
namespace Go.Proofs.YtjmjfjhiggiglaaDoor
open Go Go.B
set_option linter.unusedSimpArgs false
set_option linter.unusedVariables false
set_option linter.unusedSectionVars false
set_option maxRecDepth 20000

theorem fits_of {c : Cron} (hok : c.ok = true) {t : Int} (h0 : 0 ≤ t) (h : isT c t = true) : fitsC c ∧ fitD c (t / 86400) = true ∧ t ∈ onL c (t / 86400) ∧ t ≤ 253402300799 := by
  obtain ⟨h1, h2⟩ := (isT_iff hok h0).mp h
  have := fitD_day h1
  exact ⟨⟨hok, _, h1⟩, h1, h2, by omega⟩

/-- behind what is asked there is a time no later than any other one -/
theorem next_of_time {c : Cron} (hc : c.in) (hok : c.ok = true) {a u : Int} (h0 : 0 ≤ u) (hu : isT c u = true) (hlt : a < u) : ∃ v, nextF c a = some v ∧ v ≤ u := by
  obtain ⟨hf, k1, k2, k3⟩ := fits_of hok h0 hu
  cases hn : nextF c a with
  | some v =>
    refine ⟨v, rfl, ?_⟩
    rcases Int.lt_or_le u v with q | q
    · have := nextF_tight hn h0 hlt q
      rw [hu] at this; cases this
    · exact q
  | none =>
    exfalso
    rcases Int.lt_or_le (2932896 - 2922) (ofD a) with q | q
    · rw [nextF_yes hok] at hn
      have du : ofD a ≤ u / 86400 := by unfold ofD; omega
      have g := firstI_none hn (u / 86400 - ofD a).toNat (by omega) (by omega)
      rw [nextG_eq, show ofD a + (((u / 86400 - ofD a).toNat : Nat) : Int) = u / 86400 from by omega, k1, if_pos rfl] at g
      have := find_none_of g k2
      simp at this; omega
    · refine next_ever hc hf (a := a) (n0 := ofD a) rfl (by omega) ?_ hn
      unfold ofD at q ⊢; omega

theorem nextF_time {c : Cron} {a t : Int} (h : nextF c a = some t) : c.ok = true ∧ a < t ∧ 0 ≤ t ∧ isT c t = true := by
  obtain ⟨hok, n, h1, h2, h3⟩ := nextF_some h
  obtain ⟨k1, k2, k3⟩ := time_isT hok h1 h2
  exact ⟨hok, h3, (mayT_true k2).1, k1⟩

/-- from a later moment that is not behind the next time on, the next one is the same -/
theorem nextF_later {c : Cron} (hc : c.in) {a b t : Int} (h : nextF c a = some t) (h1 : a ≤ b) (h2 : b < t) : nextF c b = some t := by
  obtain ⟨hok, k1, k2, k3⟩ := nextF_time h
  obtain ⟨v, hv, hle⟩ := next_of_time hc hok k2 k3 h2
  obtain ⟨_, q1, q2, q3⟩ := nextF_time hv
  rcases Int.lt_or_eq_of_le hle with q | q
  · have := nextF_tight h q2 (by omega) q
    rw [q3] at this; cases this
  · rw [hv, q]

theorem nextF_none {c : Cron} (hc : c.in) {a b : Int} (h : nextF c a = none) (h1 : a ≤ b) : nextF c b = none := by
  cases hv : nextF c b with
  | none => rfl
  | some v =>
    obtain ⟨hok, q1, q2, q3⟩ := nextF_time hv
    obtain ⟨u, hu, _⟩ := next_of_time hc hok q2 q3 (show a < v by omega)
    rw [h] at hu; cases hu

theorem someL_acc {c : Cron} {hi : Int} : ∀ {d : Nat} {t : Int} {out : List Int}, someL c hi d t out = out ++ someL c hi d t []
  | 0, t, out => by simp [someL]
  | d + 1, t, out => by
    unfold someL
    cases nextF c t with
    | none => simp
    | some u =>
      simp only
      split
      · simp
      · rw [someL_acc (out := out ++ [u]), someL_acc (out := [] ++ [u])]
        simp

theorem someL_le {c : Cron} {hi : Int} : ∀ {d : Nat} {t : Int}, (someL c hi d t []).length ≤ d
  | 0, t => Nat.le_refl _
  | d + 1, t => by
    unfold someL
    cases nextF c t with
    | none => simp
    | some u =>
      simp only
      split
      · simp
      · rw [someL_acc]
        have := someL_le (c := c) (hi := hi) (d := d) (t := u)
        simp; omega

theorem someL_parts {c : Cron} (hc : c.in) {mid hi : Int} (hm : mid ≤ hi) : ∀ (n : Nat) (lo : Int), lo ≤ mid → someL c mid n lo [] ++ someL c hi (n - (someL c mid n lo []).length) mid [] = someL c hi n lo []
  | 0, lo, h => by simp [someL]
  | n + 1, lo, h => by
    cases hn : nextF c lo with
    | none =>
      have e1 : ∀ x, someL c x (n + 1) lo [] = [] := fun x => by simp only [someL, hn]
      rw [e1, e1]
      have e2 : someL c hi (n + 1) mid [] = [] := by simp only [someL, nextF_none hc hn h]
      simpa using e2
    | some t =>
      have hgt := (nextF_time hn).2.1
      by_cases ht : t > mid
      · have e1 : someL c mid (n + 1) lo [] = [] := by simp only [someL, hn]; rw [if_pos ht]
        rw [e1]
        simp only [List.nil_append, List.length_nil, Nat.sub_zero]
        simp only [someL, hn, nextF_later hc hn h ht]
      · have e1 : someL c mid (n + 1) lo [] = t :: someL c mid n t [] := by
          simp only [someL, hn]; rw [if_neg ht, someL_acc]; rfl
        have e2 : someL c hi (n + 1) lo [] = t :: someL c hi n t [] := by
          simp only [someL, hn]; rw [if_neg (by omega), someL_acc]; rfl
        rw [e1, e2, ← someL_parts hc hm n t (by omega)]
        simp
end Go.Proofs.YtjmjfjhiggiglaaDoor
