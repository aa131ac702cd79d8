/- NextTurns: a time that is found is found again. -/
import Derived.Test.YtiffoefhadgdnaaDoorMh
namespace Go.Proofs.YtiffoefhadgdnaaDoor
open Go Go.B
set_option linter.unusedSimpArgs false
set_option linter.unusedVariables false
set_option linter.unusedSectionVars false
set_option maxRecDepth 20000

theorem Equal_loop {l l' : List Int} (he : l.length = l'.length) (hl : l.length ≤ 1000000000) : ∀ (d i : Nat), i + d = l.length → (l.drop i = l'.drop i → ∃ k, slices_Equal__int64_int64_l0 k (l, l', (l.length : Int), (i : Int)) (.inr ())) := by
  intro d
  induction d with
  | zero =>
    intro i hi _
    refine ⟨1, ?_⟩
    unfold slices_Equal__int64_int64_l0
    have e1 : decide ((i : Int) < (l.length : Int)) = false := by simp; omega
    simp only [e1, br]
  | succ d ih =>
    intro i hi hd
    have hlt : i < l.length := by omega
    have hlt' : i < l'.length := by omega
    rw [drop_cons hlt, drop_cons hlt'] at hd
    simp only [List.cons.injEq] at hd
    obtain ⟨k, hk⟩ := ih (i + 1) (by omega) hd.2
    refine ⟨k + 1, ?_⟩
    unfold slices_Equal__int64_int64_l0
    have e1 : decide ((i : Int) < (l.length : Int)) = true := by simpa using hlt
    have e2 : (l.getD i 0 != l'.getD i 0) = false := by rw [hd.1]; simp
    have ei : IntKind.wrap .i64 ((i : Int) + 1) = ((i + 1 : Nat) : Int) := by rw [wi (by omega) (by omega)]; rfl
    simp only [e1, br, Int.toNat_natCast, e2, ei]
    exact ⟨by simp <;> omega, ⟨by simp <;> omega, hk⟩⟩

theorem Equal_yes (l : List Int) (hl : l.length ≤ 1000000000) : slices_Equal__int64_int64_R l l true := by
  unfold slices_Equal__int64_int64_R
  have e : ((((List.length l) : Nat) : Int) != (((List.length l) : Nat) : Int)) = false := by simp
  simp only [e, br]
  obtain ⟨k, hk⟩ := Equal_loop (l := l) (l' := l) rfl hl l.length 0 (by omega) rfl
  exact ⟨_, ⟨k, hk⟩, trivial⟩

def leapC : Cron := ⟨1, 1, 536870912, 4, 127⟩

def quarC : Cron := ⟨32769, 16777215, 4294967294, 8190, 127⟩

theorem leap_in : leapC.in := ⟨⟨by decide, by decide⟩, ⟨by decide, by decide⟩, ⟨by decide, by decide⟩, ⟨by decide, by decide⟩, ⟨by decide, by decide⟩⟩

theorem quar_in : quarC.in := ⟨⟨by decide, by decide⟩, ⟨by decide, by decide⟩, ⟨by decide, by decide⟩, ⟨by decide, by decide⟩, ⟨by decide, by decide⟩⟩

theorem wake1 : nextFC leapC 3981312000 = some 4233686400 := by decide +kernel

theorem wake2 : lastFC leapC 4233686399 = some 3981312000 := by decide +kernel

theorem wake3 : nextFC quarC 0 = some 900 ∧ nextFC quarC 900 = some 3600 ∧ nextFC quarC 3600 = some 4500 := by decide +kernel

theorem wake4 : someL quarC 3600 9 0 [] = [900, 3600] := by
  obtain ⟨h1, h2, h3⟩ := wake3
  rw [← nextF_C] at h1 h2 h3
  unfold someL; rw [h1]
  simp only [show ¬ ((900 : Int) > 3600) from by decide, if_false]
  unfold someL; rw [h2]
  simp only [show ¬ ((3600 : Int) > 3600) from by decide, if_false]
  unfold someL; rw [h3]
  simp

theorem wakes08 : curfewlaw08_wakes_R true := by
  have n1 := next_Next_fn leap_in 3981312000
  rw [nextF_C, wake1] at n1
  have n2 := next_Last_fn leap_in 4233686399
  rw [lastF_C, wake2] at n2
  have n3 := next_Some_yes quar_in (by decide +kernel) 0 3600 9 (by decide)
  rw [wake4] at n3
  exact ⟨_, rfl, _, n1, _, rfl, (3981312000, true), n2, _, n3, _, Equal_yes _ (by decide), rfl⟩

theorem turns_last {c : Cron} (hc : c.in) (a : Int) : ∃ y5 : Int × Bool, (next_Last_R c.mi c.ho c.da c.mo c.we a y5) ∧ (br (y5.2) (∃ y6 : Int × Bool, (next_Next_R c.mi c.ho c.da c.mo c.we (IntKind.wrap .i64 ((y5.1) - 1)) y6) ∧ (∃ y7 : Int × Bool, (next_Last_R c.mi c.ho c.da c.mo c.we (y5.1) y7) ∧ (br (!(y6.2)) (false = true) (br ((y6.1) != (y5.1)) (false = true) (br (!(y7.2)) (false = true) (br ((y7.1) != (y5.1)) (false = true) (true = true))))))) (true = true)) := by
  refine ⟨_, next_Last_fn hc a, ?_⟩
  cases h : lastF c a with
  | none => rfl
  | some t =>
    obtain ⟨hok, n, hf, ht, _⟩ := lastF_some h
    obtain ⟨n0, n1⟩ := fitD_day hf
    obtain ⟨t0, t1⟩ := onL_day hok ht
    have e : IntKind.wrap .i64 (t - 1) = t - 1 := wi (by omega) (by omega)
    have x1 := next_Next_fn hc (t - 1)
    rw [time_next hok hf ht] at x1
    have x2 := next_Last_fn hc t
    rw [time_last hok hf ht] at x2
    show ∃ y6 : Int × Bool, (next_Next_R c.mi c.ho c.da c.mo c.we (IntKind.wrap .i64 (t - 1)) y6) ∧ _
    rw [e]
    refine ⟨_, x1, _, x2, ?_⟩
    simp [ansB, br]

theorem law_NextTurns {c : Cron} (hc : c.in) (a : Int) : curfewlaw08_NextTurns_R c.mi c.ho c.da c.mo c.we a true := by
  refine ⟨_, wakes08, _, next_Next_fn hc a, ?_⟩
  cases h : nextF c a with
  | none => exact turns_last hc a
  | some t =>
    obtain ⟨hok, n, hf, ht, _⟩ := nextF_some h
    obtain ⟨n0, n1⟩ := fitD_day hf
    obtain ⟨t0, t1⟩ := onL_day hok ht
    have e : IntKind.wrap .i64 (t - 1) = t - 1 := wi (by omega) (by omega)
    have x1 := next_Next_fn hc (t - 1)
    rw [time_next hok hf ht] at x1
    have x2 := next_Last_fn hc t
    rw [time_last hok hf ht] at x2
    refine ⟨_, x2, (t, true), ?_, ?_⟩
    · show next_Next_R c.mi c.ho c.da c.mo c.we (IntKind.wrap .i64 (t - 1)) (t, true)
      rw [e]; exact x1
    · have b1 : ((ansB (some t)).1 != t) = false := by simp [ansB]
      have key := turns_last hc a
      show br (t != t) (false = true) (br (t != t) (false = true) (∃ y5 : Int × Bool, (next_Last_R c.mi c.ho c.da c.mo c.we a y5) ∧ _))
      rw [show (t != t) = false from by simp]
      exact key
end Go.Proofs.YtiffoefhadgdnaaDoor
