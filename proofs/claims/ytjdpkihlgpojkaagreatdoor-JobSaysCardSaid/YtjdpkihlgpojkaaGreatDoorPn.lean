/- What is read of a text is a cron, or says where the text is wrong. -/
import Derived.Test.YtjdpkihlgpojkaaGreatDoorPb
import Derived.Test.YtjdpkihlgpojkaaGreatDoorKop
import Derived.Test.YtjdpkihlgpojkaaGreatDoorMb
namespace Go.Proofs.YtjdpkihlgpojkaaGreatDoor
open Go Go.B
set_option linter.unusedSimpArgs false
set_option linter.unusedVariables false
set_option linter.unusedSectionVars false
set_option maxRecDepth 20000

theorem read_okF {k : Nat} (hk : k < 5) {l : List UInt8} (h : (readO k l).2.2 = 0) : ∃ m : Nat, m < 18446744073709551616 ∧ okF k (m : Int) = true ∧ (readO k l).1 = (m : Int) := by
  by_cases hl : l.length ≤ 256
  · rw [readO_rd k hl] at h ⊢
    cases e : rdL k (splitC 44 l) 0 [] with
    | inl p => rw [e] at h; simp at h
    | inr l' => exact ⟨orL l', orL_lt (rdL_ok hk _ _ _ _ (by simp) e).1, read_ok hk e, rfl⟩
  · unfold readO at h; rw [if_pos (by omega)] at h; simp at h

def getF (c : F5) (i : Nat) : Int := match i with
  | 0 => c.1 | 1 => c.2.1 | 2 => c.2.2.1 | 3 => c.2.2.2.1 | _ => c.2.2.2.2

theorem get_set {c : F5} {n i : Nat} {m : Int} (hn : n < 5) (hi : i < 5) : getF (setF c n m) i = if i = n then m else getF c i := by
  match n, hn with
  | 0, _ | 1, _ | 2, _ | 3, _ | 4, _ =>
    match i, hi with
    | 0, _ | 1, _ | 2, _ | 3, _ | 4, _ => rfl

def goodAt (c : F5) (i : Nat) : Prop := ∃ m : Nat, m < 18446744073709551616 ∧ okF i (m : Int) = true ∧ getF c i = (m : Int)

theorem goC_ok : ∀ (ws : List (Nat × List UInt8)) (n : Nat) (c : F5) (r : Nat × F5), n ≤ 5 → (∀ i, i < n → goodAt c i) → goC ws n c = .inr r → ∀ i, i < r.1 → goodAt r.2 i
  | [], n, c, r, hn, h, e => by cases e; exact h
  | x :: ws, n, c, r, hn, h, e => by
    unfold goC at e
    split at e
    · cases e
    · rename_i h5
      split at e
      · rename_i he
        refine goC_ok ws (n + 1) _ r (by omega) (fun i hi => ?_) e
        obtain ⟨m, m1, m2, m3⟩ := read_okF (k := n) (by omega) he
        by_cases hin : i = n
        · subst hin
          exact ⟨m, m1, m2, by rw [get_set (by omega) (by omega), if_pos rfl]; exact m3⟩
        · obtain ⟨q, q1, q2, q3⟩ := h i (by omega)
          exact ⟨q, q1, q2, by rw [get_set (by omega) (by omega), if_neg hin]; exact q3⟩
      · cases e

theorem crn_good {c : F5} (h : ∀ i, i < 5 → goodAt c i) : (crn c).in ∧ (crn c).ok = true := by
  have get : ∀ i, i < 5 → U64 (getF c i) ∧ okF i (getF c i) = true := fun i hi => by
    obtain ⟨m, m1, m2, m3⟩ := h i hi
    rw [m3]
    exact ⟨⟨by omega, by omega⟩, m2⟩
  obtain ⟨a0, b0⟩ := get 0 (by decide)
  obtain ⟨a1, b1⟩ := get 1 (by decide)
  obtain ⟨a2, b2⟩ := get 2 (by decide)
  obtain ⟨a3, b3⟩ := get 3 (by decide)
  obtain ⟨a4, b4⟩ := get 4 (by decide)
  refine ⟨⟨a0, a1, a2, a3, a4⟩, ?_⟩
  unfold Cron.ok
  simp only [Bool.and_eq_true]
  exact ⟨⟨⟨⟨b0, b1⟩, b2⟩, b3⟩, b4⟩

theorem cronP_good {n : Nat} {ws : List (Nat × List UInt8)} {c : F5} {p : Int} (h : cronP n ws = (c, p, true)) : (crn c).in ∧ (crn c).ok = true ∧ p = 0 := by
  unfold cronP at h
  cases hg : goC ws 0 f0 with
  | inl q => rw [hg] at h; simp at h
  | inr r =>
    rw [hg] at h
    obtain ⟨k, d⟩ := r
    simp only at h
    split at h
    · simp at h
    · rename_i hk
      simp at h
      have hn := goC_n _ _ _ _ _ (by omega) hg
      have := goC_ok ws 0 f0 (k, d) (by omega) (fun i hi => by omega) hg
      obtain ⟨h1, h2⟩ := h
      subst h1
      obtain ⟨a, b⟩ := crn_good (c := d) (fun i hi => this i (by simp only; omega))
      exact ⟨a, b, h2.symm⟩

theorem means_good : ∀ t ∈ ([[64, 121, 101, 97, 114, 108, 121], [64, 97, 110, 110, 117, 97, 108, 108, 121], [64, 109, 111, 110, 116, 104, 108, 121], [64, 119, 101, 101, 107, 108, 121], [64, 100, 97, 105, 108, 121], [64, 109, 105, 100, 110, 105, 103, 104, 116], [64, 104, 111, 117, 114, 108, 121]] : List (List UInt8)), (cronP (macroO t).length (wordsO (macroO t))).2 = (0, true) := by decide +kernel

theorem macro_is {l : List UInt8} (h : macroO l ≠ []) : l ∈ ([[64, 121, 101, 97, 114, 108, 121], [64, 97, 110, 110, 117, 97, 108, 108, 121], [64, 109, 111, 110, 116, 104, 108, 121], [64, 119, 101, 101, 107, 108, 121], [64, 100, 97, 105, 108, 121], [64, 109, 105, 100, 110, 105, 103, 104, 116], [64, 104, 111, 117, 114, 108, 121]] : List (List UInt8)) := by
  revert h
  unfold macroO
  repeat' split
  all_goals first
    | (intro _; subst_vars; decide)
    | (intro h; exact absurd rfl h)

theorem cronO_good {l : List UInt8} {c : F5} {p : Int} (h : cronO l = (c, p, true)) : (crn c).in ∧ (crn c).ok = true ∧ p = 0 := by
  unfold cronO at h
  cases hx : wordsO l with
  | nil => rw [hx] at h; exact cronP_good h
  | cons x r =>
    rw [hx] at h
    simp only at h
    by_cases h64 : x.2.headD 0 = 64
    · rw [if_pos h64] at h
      cases hm : macroO x.2 with
      | nil => rw [hm] at h; simp at h
      | cons b t =>
        rw [hm] at h
        cases r with
        | nil =>
          simp at h
          have hne : macroO x.2 ≠ [] := by rw [hm]; simp
          have hg := means_good _ (macro_is hne)
          have e : meansO x.2 = ((cronP (macroO x.2).length (wordsO (macroO x.2))).1, true) := by unfold meansO; rw [if_neg hne]
          rw [e] at h
          have hc : cronP (macroO x.2).length (wordsO (macroO x.2)) = (c, 0, true) := Prod.ext h.1 hg
          obtain ⟨a, b, _⟩ := cronP_good hc
          exact ⟨a, b, h.2.symm⟩
        | cons z r => simp at h
    · rw [if_neg h64] at h
      exact cronP_good h

end Go.Proofs.YtjdpkihlgpojkaaGreatDoor
