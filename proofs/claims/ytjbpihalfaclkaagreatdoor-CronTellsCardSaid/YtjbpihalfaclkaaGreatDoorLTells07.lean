/- The law CronTells, as plain law. -/
import Derived.Test.YtjbpihalfaclkaaGreatDoorPcr
import Derived.Test.YtjbpihalfaclkaaGreatDoorGCronTells
namespace Go.Proofs.YtjbpihalfaclkaaGreatDoor
open Go Go.B
set_option linter.unusedSimpArgs false
set_option linter.unusedVariables false
set_option linter.unusedSectionVars false
set_option maxRecDepth 20000

abbrev f5Ty : Ty := .pr (.int .u64) (.pr (.int .u64) (.pr (.int .u64) (.pr (.int .u64) (.int .u64))))

theorem crn_in {x : F5} (h : inT f5Ty x) : (crn x).in := ⟨u64_range h.1, u64_range h.2.1, u64_range h.2.2.1, u64_range h.2.2.2.1, u64_range h.2.2.2.2⟩

theorem tl_self7 (a : ByteArray) : (!(ByteArray.toList a == ByteArray.toList a)) = false := by simp

theorem law_CronTells (x0 : List F5) (i0 : inT (.sl f5Ty) x0) : curfewlaw07_CronTells_R x0 true := by
  have hl : x0.length ≤ 9223372036854775807 := i0.1
  refine ⟨_, wakes07, br_no rfl ?_⟩
  have key : ∀ d i, i + d = x0.length → ∃ q, curfewlaw07_CronTells_l0 q (x0, (x0.length : Int), (i : Int)) (.inl ()) := by
    intro d
    induction d with
    | zero => intro i h; exact ⟨1, br_no (no_of (by omega)) rfl⟩
    | succ d ih =>
      intro i h
      have hi : i < x0.length := by omega
      obtain ⟨q, hq⟩ := ih (i + 1) (by omega)
      by_cases h12 : (i : Int) = 12
      · exact ⟨1, br_yes (yes_of (by omega)) ⟨ix_ok hi, br_yes (by simp [h12]) rfl⟩⟩
      · have ew : IntKind.wrap .i64 ((i : Int) + 1) = ((i + 1 : Nat) : Int) := wi_succ (by omega)
        refine ⟨q + 1, br_yes (yes_of (by omega)) ⟨ix_ok hi, br_no (by simpa using h12) ?_⟩⟩
        rw [ew]
        have hin : (crn (x0.getD (Int.toNat (i : Int)) (0, 0, 0, 0, 0))).in := by
          rw [Int.toNat_natCast, List.getD_eq_getElem?_getD, List.getElem?_eq_getElem hi]
          exact crn_in (i0.2 i hi)
        generalize x0.getD (Int.toNat (i : Int)) (0, 0, 0, 0, 0) = x at *
        have t := cron_Text_fn hin
        have k := cron_Check_fn hin
        have r := rCron_fn hin
        cases hok : (crn x).ok
        · rw [hok] at t k r
          exact ⟨_, t, _, k, _, r, br_yes rfl (br_no rfl (br_no rfl (br_no (tl_self7 _) hq)))⟩
        · have rt := rCronText_fn hin hok
          rw [hok] at t k r
          exact ⟨_, t, _, k, _, r, br_no rfl (br_no rfl (br_no rfl ⟨_, rt, br_no (tl_self7 _) hq⟩))⟩
  obtain ⟨q, hq⟩ := key x0.length 0 (by omega)
  exact ⟨_, ⟨q, hq⟩, rfl⟩
end Go.Proofs.YtjbpihalfaclkaaGreatDoor
