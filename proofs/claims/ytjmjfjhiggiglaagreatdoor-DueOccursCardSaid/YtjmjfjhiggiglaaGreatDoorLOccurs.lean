/- DueOccurs: the plain law. -/
import Derived.Test.YtjmjfjhiggiglaaGreatDoorRd
import Derived.Test.YtjmjfjhiggiglaaGreatDoorJn
import Derived.Test.YtjmjfjhiggiglaaGreatDoorJd
import Derived.Test.YtjmjfjhiggiglaaGreatDoorJo
import Derived.Test.YtjmjfjhiggiglaaGreatDoorGDueOccurs
namespace Go.Proofs.YtjmjfjhiggiglaaGreatDoor
open Go Go.B Go.RowKit
set_option linter.unusedSimpArgs false
set_option linter.unusedVariables false
set_option linter.unusedSectionVars false
set_option maxRecDepth 20000

theorem occL_no {r : Row} {now : Int} (h : ¬ (r.ok = true ∧ mayT now = true)) : occL r now = ([], -1) := by
  unfold occL; rw [if_neg h]

theorem occurs_loop {r0 : Row} (h : ({ r0 with q := r0.q.take 5 } : Row).in) {l : List Int} (hl : l.length ≤ 9223372036854775807) : ∀ (d i : Nat), i + d = 6 → i ≤ l.length →
    ∃ k, curfewlaw13_DueOccurs_l0 k (r0.j.name, r0.j.once, r0.j.c.mi, r0.j.c.ho, r0.j.c.da, r0.j.c.mo, r0.j.c.we, r0.j.at_, r0.j.ov, r0.j.ca, r0.j.re, r0.pa, r0.nx, r0.num, r0.due, r0.try_, r0.q,
      r0.j.name, r0.j.once, r0.j.c.mi, r0.j.c.ho, r0.j.c.da, r0.j.c.mo, r0.j.c.we, r0.j.at_, r0.j.ov, r0.j.ca, r0.j.re, r0.pa, r0.nx, r0.num, r0.due, r0.try_, r0.q.take 5, ({ r0 with q := r0.q.take 5 } : Row).ok, l, ((l.length : Nat) : Int), (i : Int)) (.inl ()) := by
  intro d
  induction d with
  | zero =>
    intro i hi hle
    by_cases hlt : i < l.length
    · have e6 : i = 6 := by omega
      exact ⟨1, br_yes (yes_of (by omega)) ⟨ix_ok hlt, br_yes (by subst e6; rfl) rfl⟩⟩
    · exact ⟨1, br_no (no_of (by omega)) rfl⟩
  | succ d ih =>
    intro i hi hle
    by_cases hlt : i < l.length
    · obtain ⟨k, hk⟩ := ih (i + 1) (by omega) (by omega)
      rw [← wi_succ (n := i) (by omega)] at hk
      have n6 : ((i : Int) == 6) = false := by simp; omega
      have own := own_fn (r := r0)
      have same := rSame_fn (r := ({ r0 with q := r0.q.take 5 } : Row)) (by simp; omega)
      have occ := due_Occur_fn h (l.getD i 0)
      have tm := rTime_fn (l.getD i 0)
      cases hok : ({ r0 with q := r0.q.take 5 } : Row).ok with
      | false =>
        rw [hok] at hk
        rw [occL_no (by rw [hok]; simp)] at occ
        exact ⟨k + 1, br_yes (yes_of (by omega)) ⟨ix_ok hlt, br_no n6 ⟨_, occ, br_no rfl ⟨_, Equal_yes [] (by simp), br_no rfl (br_no rfl ⟨_, own, _, same, br_no rfl hk⟩)⟩⟩⟩⟩
      | true =>
        rw [hok] at hk
        cases hm : mayT (l.getD i 0) with
        | false =>
          rw [hm] at tm
          rw [occL_no (by rw [hm]; simp)] at occ
          exact ⟨k + 1, br_yes (yes_of (by omega)) ⟨ix_ok hlt, br_no n6 ⟨_, occ, br_yes rfl ⟨_, tm, br_no rfl ⟨_, Equal_yes [] (by simp), br_no rfl (br_no rfl ⟨_, own, _, same, br_no rfl hk⟩)⟩⟩⟩⟩⟩
        | true =>
          rw [hm] at tm
          have ref := rOccur_fn h hok hm
          have len := occL_len ({ r0 with q := r0.q.take 5 } : Row) (l.getD i 0)
          exact ⟨k + 1, br_yes (yes_of (by omega)) ⟨ix_ok hlt, br_no n6 ⟨_, occ, br_yes rfl ⟨_, tm, br_yes rfl ⟨_, own, _, ref, _, Equal_yes _ (by omega), br_no rfl (br_no (bne_same _) ⟨_, own, _, same, br_no rfl hk⟩)⟩⟩⟩⟩⟩
    · exact ⟨1, br_no (no_of (by omega)) rfl⟩

theorem occurs_law {r0 : Row} (hj : r0.j.in) (hn : 0 ≤ r0.num) {l : List Int} (hl : l.length ≤ 9223372036854775807) :
    curfewlaw13_DueOccurs_R r0.j.name r0.j.once r0.j.c.mi r0.j.c.ho r0.j.c.da r0.j.c.mo r0.j.c.we r0.j.at_ r0.j.ov r0.j.ca r0.j.re r0.pa r0.nx r0.num r0.due r0.try_ r0.q l true := by
  have h : ({ r0 with q := r0.q.take 5 } : Row).in := ⟨hj, by simp; omega, hn⟩
  obtain ⟨k, hk⟩ := occurs_loop h hl 6 0 (by omega) (by omega)
  exact ⟨_, wakes13, br_no rfl ⟨_, own_fn, _, rRow_fn h, _, ⟨k, hk⟩, rfl⟩⟩

theorem law_DueOccurs (x : rowTy.den) (h : inT rowTy x) (l : List Int) (hl : inT (.sl (.int .i64)) l) :
    curfewlaw13_DueOccurs_R x.1.1 x.1.2.1 x.1.2.2.1.1 x.1.2.2.1.2.1 x.1.2.2.1.2.2.1 x.1.2.2.1.2.2.2.1 x.1.2.2.1.2.2.2.2 x.1.2.2.2.1 x.1.2.2.2.2.1 x.1.2.2.2.2.2.1 x.1.2.2.2.2.2.2 x.2.1 x.2.2.1 x.2.2.2.1.1 x.2.2.2.1.2.1 x.2.2.2.1.2.2 x.2.2.2.2 l true :=
  occurs_law (r0 := rowOf x) (rowOf_in h).1 (rowOf_in h).2 (len_le hl.1)
end Go.Proofs.YtjmjfjhiggiglaaGreatDoor
