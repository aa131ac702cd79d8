/- Some times of a cron. -/
import Derived.Test.YtjmjfjhiggiglaaDoorMh
namespace Go.Proofs.YtjmjfjhiggiglaaDoor
open Go Go.B
set_option linter.unusedSimpArgs false
set_option linter.unusedVariables false
set_option linter.unusedSectionVars false
set_option maxRecDepth 20000

/-- times, one behind the other -/
noncomputable def someL (c : Cron) (hi : Int) : Nat → Int → List Int → List Int
  | 0, _, out => out
  | r + 1, t0, out => match nextF c t0 with
    | none => out
    | some t => if t > hi then out else someL c hi r t (out ++ [t])

theorem Some_loop {c : Cron} (hc : c.in) {lo hi : Int} {most : Nat} (hm : most ≤ 64) : ∀ (d i : Nat) (t0 : Int) (out : List Int), i + d = most → out.length ≤ i →
    ∃ k y, next_Some_l0 k (out, c.mi, c.ho, c.da, c.mo, c.we, lo, hi, t0, (most : Int), (i : Int)) y ∧ (y = .inl (someL c hi d t0 out) ∨ y = .inr (someL c hi d t0 out)) := by
  intro d
  induction d with
  | zero =>
    intro i t0 out he hl
    refine ⟨1, .inr out, ?_, .inr rfl⟩
    unfold next_Some_l0
    have e1 : decide ((i : Int) < (most : Int)) = false := by simp; omega
    simp only [e1, br]
  | succ d ih =>
    intro i t0 out he hl
    have e1 : decide ((i : Int) < (most : Int)) = true := by simp; omega
    have ei : IntKind.wrap .i64 ((i : Int) + 1) = ((i + 1 : Nat) : Int) := by rw [wi (by omega) (by omega)]; rfl
    unfold someL
    cases hn : nextF c t0 with
    | none =>
      refine ⟨1, .inl out, ?_, .inl rfl⟩
      unfold next_Some_l0
      simp only [e1, br]
      refine ⟨_, next_Next_fn hc t0, ?_⟩
      rw [hn]; exact trivial
    | some t =>
      by_cases ht : t > hi
      · refine ⟨1, .inl out, ?_, .inl (by simp [ht])⟩
        unfold next_Some_l0
        simp only [e1, br]
        refine ⟨_, next_Next_fn hc t0, ?_⟩
        rw [hn]
        simp only [ansB, Bool.not_true]
        split
        · trivial
        · rename_i h; simp at h; omega
      · obtain ⟨k, y, hk, hy⟩ := ih (i + 1) t (out ++ [t]) (by omega) (by simp; omega)
        refine ⟨k + 1, y, ?_, by simpa [ht] using hy⟩
        unfold next_Some_l0
        simp only [e1, br]
        refine ⟨_, next_Next_fn hc t0, ?_⟩
        rw [hn]
        simp only [ansB, Bool.not_true, ei]
        split
        · rename_i h; simp at h; omega
        · exact ⟨by simp [Nat.ble_eq]; omega, hk⟩

theorem next_Some_yes {c : Cron} (hc : c.in) (hok : c.ok = true) (lo hi : Int) (most : Nat) (hm : most ≤ 64) : next_Some_R c.mi c.ho c.da c.mo c.we lo hi most (someL c hi most lo [], 0) := by
  refine ⟨_, cron_Check_yes hc hok, ?_⟩
  have e0 : ((0 : Int) != 0) = false := rfl
  have e1 : decide ((most : Int) < 0) = false := by simp
  have e2 : decide ((most : Int) > 64) = false := by simp; omega
  simp only [e0, e1, e2, br]
  obtain ⟨k, y, hk, hy⟩ := Some_loop hc (lo := lo) (hi := hi) hm most 0 lo [] (by omega) (Nat.le_refl _)
  refine ⟨y, ⟨k, hk⟩, ?_⟩
  rcases hy with rfl | rfl <;> rfl
end Go.Proofs.YtjmjfjhiggiglaaDoor
