/- The law CronFits, as plain law. -/
import Derived.Test.YtjbpihalfaclkaaGreatDoorPf
import Derived.Test.YtjbpihalfaclkaaGreatDoorGCronFits
namespace Go.Proofs.YtjbpihalfaclkaaGreatDoor
open Go Go.B
set_option linter.unusedSimpArgs false
set_option linter.unusedVariables false
set_option linter.unusedSectionVars false
set_option maxRecDepth 20000

theorem crn_of {x : F5} (h : inT (.pr (.int .u64) (.pr (.int .u64) (.pr (.int .u64) (.pr (.int .u64) (.int .u64))))) x) : (crn x).in := ⟨u64_range h.1, u64_range h.2.1, u64_range h.2.2.1, u64_range h.2.2.2.1, u64_range h.2.2.2.2⟩

theorem bsame (b : Bool) : (!(b == b)) = false := by cases b <;> rfl

theorem law_CronFits (x0 : F5) (i0 : inT (.pr (.int .u64) (.pr (.int .u64) (.pr (.int .u64) (.pr (.int .u64) (.int .u64))))) x0) (x1 : List (Int × Int × Int)) (i1 : inT (.sl (.pr (.int .i64) (.pr (.int .i64) (.int .i64)))) x1) (x2 : List Int) (i2 : inT (.sl (.int .i64)) x2) : curfewlaw07_CronFits_R x0.1 x0.2.1 x0.2.2.1 x0.2.2.2.1 x0.2.2.2.2 x1 x2 true := by
  have h1 : x1.length ≤ 9223372036854775807 := i1.1
  have h2 : x2.length ≤ 9223372036854775807 := i2.1
  have hc := crn_of i0
  have key1 : ∀ d i, i + d = x1.length → ∃ q, curfewlaw07_CronFits_l0 q (x0.1, x0.2.1, x0.2.2.1, x0.2.2.2.1, x0.2.2.2.2, x2, x1, (x1.length : Int), (i : Int)) (.inr ()) := by
    intro d
    induction d with
    | zero => intro i h; exact ⟨1, br_no (no_of (by omega)) rfl⟩
    | succ d ih =>
      intro i h
      have hi : i < x1.length := by omega
      obtain ⟨q, hq⟩ := ih (i + 1) (by omega)
      have ew : IntKind.wrap .i64 ((i : Int) + 1) = ((i + 1 : Nat) : Int) := wi_succ (by omega)
      refine ⟨q + 1, br_yes (yes_of (by omega)) ⟨ix_ok hi, ?_⟩⟩
      rw [ew]
      by_cases h12 : (i : Int) < 12
      · exact br_yes (yes_of h12) ⟨_, cron_Day_all hc _ _ _, _, rDay07_fn hc _ _ _, br_no (bsame _) hq⟩
      · exact br_no (no_of h12) hq
  have key2 : ∀ d i, i + d = x2.length → ∃ q, curfewlaw07_CronFits_l1 q (x0.1, x0.2.1, x0.2.2.1, x0.2.2.2.1, x0.2.2.2.2, x2, (x2.length : Int), (i : Int)) (.inr ()) := by
    intro d
    induction d with
    | zero => intro i h; exact ⟨1, br_no (no_of (by omega)) rfl⟩
    | succ d ih =>
      intro i h
      have hi : i < x2.length := by omega
      obtain ⟨q, hq⟩ := ih (i + 1) (by omega)
      have ew : IntKind.wrap .i64 ((i : Int) + 1) = ((i + 1 : Nat) : Int) := wi_succ (by omega)
      refine ⟨q + 1, br_yes (yes_of (by omega)) ⟨ix_ok hi, ?_⟩⟩
      rw [ew]
      by_cases h12 : (i : Int) < 12
      · exact br_yes (yes_of h12) ⟨_, cron_At_all hc _, _, rAt07_fn hc _, br_no (bsame _) hq⟩
      · exact br_no (no_of h12) hq
  obtain ⟨q1, hq1⟩ := key1 x1.length 0 (by omega)
  obtain ⟨q2, hq2⟩ := key2 x2.length 0 (by omega)
  exact ⟨_, wakes07, br_no rfl ⟨_, ⟨q1, hq1⟩, _, ⟨q2, hq2⟩, rfl⟩⟩
end Go.Proofs.YtjbpihalfaclkaaGreatDoor
