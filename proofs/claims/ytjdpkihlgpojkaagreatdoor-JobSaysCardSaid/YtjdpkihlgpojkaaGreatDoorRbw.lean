import Derived.Test.YtjdpkihlgpojkaaGreatDoorKbw
import Derived.Test.YtjdpkihlgpojkaaGreatDoorMb
/- The reference: which crons may be. -/
namespace Go.Proofs.YtjdpkihlgpojkaaGreatDoor
open Go Go.B
set_option linter.unusedSimpArgs false
set_option linter.unusedVariables false
set_option linter.unusedSectionVars false
set_option maxRecDepth 20000

theorem rCron_fn {c : Cron} (hc : c.in) : curfewref07_Right_R c.mi c.ho c.da c.mo c.we c.ok := by
  obtain ⟨h0, h1, h2, h3, h4⟩ := hc
  have goal : ∃ k, curfewref07_Right_l0 k (c.mi, c.ho, c.da, c.mo, c.we, 0) (if c.ok then .inr () else .inl ()) := by
    unfold Cron.ok
    refine ⟨6, br_yes (by decide) ⟨by decide, _, rRight_fn (k := 0) (by decide) h0, ?_⟩⟩
    cases e0 : okF 0 c.mi
    · exact br_yes (not_t e0) rfl
    refine br_no (not_f e0) (br_yes (by decide) ⟨by decide, _, rRight_fn (k := 1) (by decide) h1, ?_⟩)
    cases e1 : okF 1 c.ho
    · exact br_yes (not_t e1) rfl
    refine br_no (not_f e1) (br_yes (by decide) ⟨by decide, _, rRight_fn (k := 2) (by decide) h2, ?_⟩)
    cases e2 : okF 2 c.da
    · exact br_yes (not_t e2) rfl
    refine br_no (not_f e2) (br_yes (by decide) ⟨by decide, _, rRight_fn (k := 3) (by decide) h3, ?_⟩)
    cases e3 : okF 3 c.mo
    · exact br_yes (not_t e3) rfl
    refine br_no (not_f e3) (br_yes (by decide) ⟨by decide, _, rRight_fn (k := 4) (by decide) h4, ?_⟩)
    cases e4 : okF 4 c.we
    · exact br_yes (not_t e4) rfl
    exact br_no (not_f e4) (br_no (by decide) rfl)
  refine ⟨_, rfl, _, goal, ?_⟩
  cases c.ok <;> rfl
end Go.Proofs.YtjdpkihlgpojkaaGreatDoor
/- The reference: when a field is whole. -/
namespace Go.Proofs.YtjdpkihlgpojkaaGreatDoor
open Go Go.B
set_option linter.unusedSimpArgs false
set_option linter.unusedVariables false
set_option linter.unusedSectionVars false
set_option maxRecDepth 20000

theorem lstB_part {p q : Nat → Bool} : ∀ {n : Nat}, (∀ j, j < n → p j = true → q j = true) → (lstB p n).length ≤ (lstB q n).length ∧ ((lstB p n).length = (lstB q n).length → ∀ j, j < n → p j = q j)
  | 0, _ => ⟨Nat.le_refl _, fun _ j h => absurd h (Nat.not_lt_zero _)⟩
  | n + 1, h => by
    obtain ⟨a, b⟩ := lstB_part (p := p) (q := q) (n := n) fun j hj => h j (by omega)
    have hn := h n (by omega)
    have split : ∀ j, j < n + 1 → j < n ∨ j = n := fun j hj => by omega
    cases hp : p n <;> cases hq : q n
    · rw [lstB_no hp, lstB_no hq]
      refine ⟨a, fun e j hj => ?_⟩
      rcases split j hj with k | rfl
      · exact b e j k
      · rw [hp, hq]
    · rw [lstB_no hp, lstB_yes hq, List.length_append]
      exact ⟨by simp; omega, fun e => by simp at e; omega⟩
    · rw [hp, hq] at hn; exact absurd (hn rfl) (by decide)
    · rw [lstB_yes hp, lstB_yes hq, List.length_append, List.length_append]
      refine ⟨by simp; omega, fun e j hj => ?_⟩
      rcases split j hj with k | rfl
      · exact b (by simpa using e) j k
      · rw [hp, hq]

theorem whole_len {k : Nat} {m : Int} (hm : U64 m) (h : okF k m = true) (hk : k < 5) {n : Nat} (hn : (bitsL (wholeL.getD k 0)).length = n) : (((bitsL m).length : Int) == (n : Int)) = (m == wholeL.getD k 0) := by
  unfold okF subB at h
  simp only [Bool.and_eq_true, beq_iff_eq] at h
  obtain ⟨_, h⟩ := h
  obtain ⟨w0, w1⟩ := whole_U64 k
  obtain ⟨m0, m1⟩ := hm
  have e64 : (2 : Nat) ^ 64 = 18446744073709551616 := by decide
  have sub : ∀ j, j < 64 → Nat.testBit m.toNat j = true → Nat.testBit (wholeL.getD k 0).toNat j = true := fun j _ hj => by
    rw [← h, Nat.testBit_and] at hj
    simp only [Bool.and_eq_true] at hj
    exact hj.2
  obtain ⟨a, b⟩ := lstB_part sub
  rw [Bool.eq_iff_iff, beq_iff_eq, beq_iff_eq]
  constructor
  · intro e
    have e2 : (lstB (Nat.testBit m.toNat) 64).length = (lstB (Nat.testBit (wholeL.getD k 0).toNat) 64).length := by
      have : (lstB (Nat.testBit (wholeL.getD k 0).toNat) 64).length = n := hn
      have e' : (lstB (Nat.testBit m.toNat) 64).length = n := by
        have : ((lstB (Nat.testBit m.toNat) 64).length : Int) = (n : Int) := e
        omega
      omega
    have same := b e2
    have : m.toNat = (wholeL.getD k 0).toNat := by
      apply Nat.eq_of_testBit_eq
      intro j
      rcases Nat.lt_or_ge j 64 with q | q
      · exact same j q
      · have hp : 2 ^ 64 ≤ 2 ^ j := Nat.pow_le_pow_right (by omega) q
        rw [Nat.testBit_lt_two_pow (by omega), Nat.testBit_lt_two_pow (by omega)]
    omega
  · intro e; rw [e, hn]
end Go.Proofs.YtjdpkihlgpojkaaGreatDoor
