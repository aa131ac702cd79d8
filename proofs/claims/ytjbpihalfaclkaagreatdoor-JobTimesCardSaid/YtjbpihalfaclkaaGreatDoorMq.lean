/- Rows of numbers that are the same. -/
import Derived.Test.YtjbpihalfaclkaaGreatDoorMe
namespace Go.Proofs.YtjbpihalfaclkaaGreatDoor
open Go Go.B
set_option linter.unusedSimpArgs false
set_option linter.unusedVariables false
set_option linter.unusedSectionVars false
set_option maxRecDepth 20000

theorem Equal_loop {l l' : List Int} (he : l.length = l'.length) (hl : l.length ≤ 1000000000) : ∀ (d i : Nat), i + d = l.length → (l.drop i = l'.drop i → ∃ k, slices_Equal__int64_int64_l0 k (l, l', (l.length : Int), (i : Int)) (.inr ())) := by
  intro d
  induction d with
  | zero =>
    intro i hi _
    refine ⟨1, ?_⟩
    unfold slices_Equal__int64_int64_l0
    have e1 : decide ((i : Int) < (l.length : Int)) = false := by simp; omega
    simp only [e1, br]
  | succ d ih =>
    intro i hi hd
    have hlt : i < l.length := by omega
    have hlt' : i < l'.length := by omega
    rw [drop_cons hlt, drop_cons hlt'] at hd
    simp only [List.cons.injEq] at hd
    obtain ⟨k, hk⟩ := ih (i + 1) (by omega) hd.2
    refine ⟨k + 1, ?_⟩
    unfold slices_Equal__int64_int64_l0
    have e1 : decide ((i : Int) < (l.length : Int)) = true := by simpa using hlt
    have e2 : (l.getD i 0 != l'.getD i 0) = false := by rw [hd.1]; simp
    have ei : IntKind.wrap .i64 ((i : Int) + 1) = ((i + 1 : Nat) : Int) := by rw [wi (by omega) (by omega)]; rfl
    simp only [e1, br, Int.toNat_natCast, e2, ei]
    exact ⟨by simp <;> omega, ⟨by simp <;> omega, hk⟩⟩

theorem Equal_yes (l : List Int) (hl : l.length ≤ 1000000000) : slices_Equal__int64_int64_R l l true := by
  unfold slices_Equal__int64_int64_R
  have e : ((((List.length l) : Nat) : Int) != (((List.length l) : Nat) : Int)) = false := by simp
  simp only [e, br]
  obtain ⟨k, hk⟩ := Equal_loop (l := l) (l' := l) rfl hl l.length 0 (by omega) rfl
  exact ⟨_, ⟨k, hk⟩, trivial⟩
end Go.Proofs.YtjbpihalfaclkaaGreatDoor
