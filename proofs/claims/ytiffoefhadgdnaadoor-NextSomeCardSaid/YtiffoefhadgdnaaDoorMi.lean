/- NextTurns: a time that is found is found again. -/
import Derived.Test.YtiffoefhadgdnaaDoorMh
namespace Go.Proofs.YtiffoefhadgdnaaDoor
open Go Go.B
set_option linter.unusedSimpArgs false
set_option linter.unusedVariables false
set_option linter.unusedSectionVars false
set_option maxRecDepth 20000

theorem Equal_loop {l l' : List Int} (he : l.length = l'.length) (hl : l.length ≤ 1000000000) : ∀ (d i : Nat), i + d = l.length → (l.drop i = l'.drop i → ∃ k, slices_Equal__int64_int64_l0 k (l, l', (l.length : Int), (i : Int)) (.inr ())) := by
  intro d
  induction d with
  | zero =>
    intro i hi _
    refine ⟨1, ?_⟩
    unfold slices_Equal__int64_int64_l0
    have e1 : decide ((i : Int) < (l.length : Int)) = false := by simp; omega
    simp only [e1, br]
  | succ d ih =>
    intro i hi hd
    have hlt : i < l.length := by omega
    have hlt' : i < l'.length := by omega
    rw [drop_cons hlt, drop_cons hlt'] at hd
    simp only [List.cons.injEq] at hd
    obtain ⟨k, hk⟩ := ih (i + 1) (by omega) hd.2
    refine ⟨k + 1, ?_⟩
    unfold slices_Equal__int64_int64_l0
    have e1 : decide ((i : Int) < (l.length : Int)) = true := by simpa using hlt
    have e2 : (l.getD i 0 != l'.getD i 0) = false := by rw [hd.1]; simp
    have ei : IntKind.wrap .i64 ((i : Int) + 1) = ((i + 1 : Nat) : Int) := by rw [wi (by omega) (by omega)]; rfl
    simp only [e1, br, Int.toNat_natCast, e2, ei]
    exact ⟨by simp <;> omega, ⟨by simp <;> omega, hk⟩⟩

theorem Equal_yes (l : List Int) (hl : l.length ≤ 1000000000) : slices_Equal__int64_int64_R l l true := by
  unfold slices_Equal__int64_int64_R
  have e : ((((List.length l) : Nat) : Int) != (((List.length l) : Nat) : Int)) = false := by simp
  simp only [e, br]
  obtain ⟨k, hk⟩ := Equal_loop (l := l) (l' := l) rfl hl l.length 0 (by omega) rfl
  exact ⟨_, ⟨k, hk⟩, trivial⟩

def leapC : Cron := ⟨1, 1, 536870912, 4, 127⟩

def quarC : Cron := ⟨32769, 16777215, 4294967294, 8190, 127⟩

theorem leap_in : leapC.in := ⟨⟨by decide, by decide⟩, ⟨by decide, by decide⟩, ⟨by decide, by decide⟩, ⟨by decide, by decide⟩, ⟨by decide, by decide⟩⟩

theorem quar_in : quarC.in := ⟨⟨by decide, by decide⟩, ⟨by decide, by decide⟩, ⟨by decide, by decide⟩, ⟨by decide, by decide⟩, ⟨by decide, by decide⟩⟩

theorem wake1 : nextFC leapC 3981312000 = some 4233686400 := by decide +kernel

theorem wake2 : lastFC leapC 4233686399 = some 3981312000 := by decide +kernel

theorem wake3 : nextFC quarC 0 = some 900 ∧ nextFC quarC 900 = some 3600 ∧ nextFC quarC 3600 = some 4500 := by decide +kernel

theorem wake4 : someL quarC 3600 9 0 [] = [900, 3600] := by
  obtain ⟨h1, h2, h3⟩ := wake3
  rw [← nextF_C] at h1 h2 h3
  unfold someL; rw [h1]
  simp only [show ¬ ((900 : Int) > 3600) from by decide, if_false]
  unfold someL; rw [h2]
  simp only [show ¬ ((3600 : Int) > 3600) from by decide, if_false]
  unfold someL; rw [h3]
  simp

theorem wakes08 : curfewlaw08_wakes_R true := by
  have n1 := next_Next_fn leap_in 3981312000
  rw [nextF_C, wake1] at n1
  have n2 := next_Last_fn leap_in 4233686399
  rw [lastF_C, wake2] at n2
  have n3 := next_Some_yes quar_in (by decide +kernel) 0 3600 9 (by decide)
  rw [wake4] at n3
  exact ⟨_, rfl, _, n1, _, rfl, (3981312000, true), n2, _, n3, _, Equal_yes _ (by decide), rfl⟩
end Go.Proofs.YtiffoefhadgdnaaDoor
