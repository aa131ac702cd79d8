/- What the reference makes of masks: the one text of a field. -/
import Derived.Test.YtjbpihalfaclkaaGreatDoorKk
namespace Go.Proofs.YtjbpihalfaclkaaGreatDoor
open Go Go.B
set_option linter.unusedSimpArgs false
set_option linter.unusedVariables false
set_option linter.unusedSectionVars false
set_option maxRecDepth 20000

theorem last_start (p : Nat → Bool) : ∀ i, 0 < i → p (i - 1) = true → ∃ (l : List Int) (a : Nat), lstB (stB p) i = l ++ [(a : Int)] ∧ a < i ∧ (∀ j : Nat, a ≤ j → j < i → p j = true) ∧ ∀ x ∈ l, x.toNat < a
  | 0, h, _ => absurd h (by omega)
  | i + 1, _, hp => by
    rw [Nat.add_sub_cancel] at hp
    by_cases hs : stB p i = true
    · exact ⟨_, i, lstB_yes hs, by omega, fun j h1 h2 => by rw [show j = i by omega]; exact hp, fun x hx => by have := lstB_mem hx; omega⟩
    · have hs' : stB p i = false := by simpa using hs
      have h0 : 0 < i := by
        rcases Nat.eq_zero_or_pos i with e | e
        · subst e; unfold stB at hs'; rw [hp] at hs'; cases hs'
        · exact e
      have hp1 : p (i - 1) = true := by
        unfold stB at hs'
        rw [hp, decide_eq_true h0] at hs'
        simpa using hs'
      obtain ⟨l, a, h1, h2, h3, h4⟩ := last_start p i h0 hp1
      refine ⟨l, a, by rw [lstB_no hs', h1], by omega, fun j g1 g2 => ?_, h4⟩
      by_cases e : j = i
      · rw [e]; exact hp
      · exact h3 j g1 (by omega)

theorem runLen_ge (p : Nat → Bool) : ∀ (f a i : Nat), a ≤ i → i - a ≤ f → (∀ j, a ≤ j → j < i → p j = true) → i ≤ a + runLen p f a
  | 0, a, i, h1, h2, _ => by omega
  | f + 1, a, i, h1, h2, h => by
    by_cases e : a = i
    · omega
    · unfold runLen
      rw [h a (Nat.le_refl _) (by omega), cond_true]
      have := runLen_ge p f (a + 1) i (by omega) (by omega) (fun j g1 g2 => h j (by omega) g2)
      omega

end Go.Proofs.YtjbpihalfaclkaaGreatDoor
