/- The reference: the calendar. -/
import Derived.Test.YtjdpkihlgpojkaaGreatDoorKer
import Derived.Test.YtjdpkihlgpojkaaGreatDoorMy
namespace Go.Proofs.YtjdpkihlgpojkaaGreatDoor
open Go Go.B
set_option linter.unusedSimpArgs false
set_option linter.unusedVariables false
set_option linter.unusedSectionVars false
set_option maxRecDepth 20000

theorem rLeap_fn {y : Int} (h : 0 ≤ y) : curfewref04_Leap_R y (Cal.leapB y) := by
  unfold curfewref04_Leap_R
  rw [Int.tmod_eq_emod_of_nonneg h, Int.tmod_eq_emod_of_nonneg h, Int.tmod_eq_emod_of_nonneg h]
  unfold Cal.leapB Cal.lp
  by_cases h1 : y % 4 = 0
  · refine br_yes (by simpa using h1) ?_
    by_cases h2 : y % 100 = 0
    · refine br_no (by simpa using h2) ?_
      by_cases h3 : y % 400 = 0 <;> simp [h1, h2, h3]
    · refine br_yes (by simpa using h2) ?_
      simp [h1, h2]
  · refine br_no (by simpa using h1) ?_
    have h3 : y % 400 ≠ 0 := by omega
    simp [h1, h3]

theorem leapB_lp (y : Int) : Cal.lp y = if Cal.leapB y then 1 else 0 := by
  cases h : Cal.leapB y
  · exact Cal.leapB_false h
  · exact Cal.leapB_true h

theorem ryear_fn {y : Int} (h : 0 ≤ y) : curfewref04_year_R y (365 + Cal.lp y) := by
  refine ⟨_, rLeap_fn h, ?_⟩
  rw [leapB_lp]
  cases Cal.leapB y
  · exact br_no rfl rfl
  · exact br_yes rfl rfl

theorem long_tab12 (y : Int) (k : Nat) (h : k < 12) (hl : ¬ ((k : Int) + 1 = 2 ∧ Cal.leapB y = true)) : List.getD ([31, 28, 31, 30, 31, 30, 31, 31, 30, 31, 30, 31] : List Int) (k * 1) 0 = Cal.long y ((k : Int) + 1) := by
  have l0 : Cal.leapB y = false → Cal.lp y = 0 := fun h => Cal.leapB_false h
  match k, h with
  | 1, _ =>
    have : Cal.leapB y = false := by cases hb : Cal.leapB y; rfl; exact absurd ⟨rfl, hb⟩ hl
    simp [Cal.long, l0 this]
  | 0, _ | 2, _ | 3, _ | 4, _ | 5, _ | 6, _ | 7, _ | 8, _ | 9, _ | 10, _ | 11, _ => simp [Cal.long]

theorem rLong_fn {y m : Int} (h : 0 ≤ y) : curfewref04_Long_R y m (Cal.long y m) := by
  by_cases h1 : m < 1
  · exact br_yes (yes_of h1) (by rw [long_out (by omega)])
  · refine br_no (no_of h1) ?_
    by_cases h2 : m > 12
    · exact br_yes (yes_of h2) (by rw [long_out (by omega)])
    · refine br_no (no_of h2) ?_
      obtain ⟨k, rfl⟩ : ∃ k : Nat, m = (k : Int) + 1 := ⟨(m - 1).toNat, by omega⟩
      have ew : IntKind.wrap .i64 ((k : Int) + 1 - 1) = k := by rw [wi (by omega) (by omega)]; omega
      have rest : ¬ ((k : Int) + 1 = 2 ∧ Cal.leapB y = true) → req (((decide (0 ≤ (IntKind.wrap .i64 ((k : Int) + 1 - 1)))) && (decide ((IntKind.wrap .i64 ((k : Int) + 1 - 1)) < 12))) && (Nat.blt ((Int.toNat (IntKind.wrap .i64 ((k : Int) + 1 - 1))) * 1) 12)) ((List.getD ([31, 28, 31, 30, 31, 30, 31, 31, 30, 31, 30, 31] : List Int) ((Int.toNat (IntKind.wrap .i64 ((k : Int) + 1 - 1))) * 1) 0) = Cal.long y ((k : Int) + 1)) := by
        intro hl
        rw [ew]
        refine ⟨?_, long_tab12 y k (by omega) hl⟩
        simp only [Int.toNat_natCast, Bool.and_eq_true, Nat.blt_eq, decide_eq_true_eq]; omega
      by_cases h3 : (k : Int) + 1 = 2
      · refine br_yes (by simpa using h3) ⟨_, rLeap_fn h, ?_⟩
        cases hb : Cal.leapB y
        · exact br_no rfl (rest (by rw [hb]; simp))
        · refine br_yes rfl ?_
          rw [h3]; simp [Cal.long, Cal.leapB_true hb]
      · exact br_no (by simpa using h3) (rest (fun h => h3 h.1))

theorem rAt_years {Y M D : Int} (h : Cal.okd Y M D = true) : ∀ (j : Nat) (y : Int), 1970 ≤ y → y + j = Y → ∃ k, curfewref04_At_l0 k (y, Cal.num Y M D + 719528 - Cal.dby y) (Y, Cal.num Y M D + 719528 - Cal.dby Y) := by
  obtain ⟨q1, q2⟩ := Cal.num_year h
  obtain ⟨Y1, Y2, _⟩ := Cal.okd_iff.mp h
  have nb := Cal.num_bd h
  have l0 := Cal.lp_01 Y
  intro j
  induction j with
  | zero =>
    intro y h0 e
    have e : y = Y := by omega
    subst e
    exact ⟨1, _, ryear_fn (by omega), br_no (no_of (by omega)) rfl⟩
  | succ j ih =>
    intro y h0 e
    obtain ⟨k, hk⟩ := ih (y + 1) (by omega) (by omega)
    have s := Cal.dby_succ y
    have lt := Cal.dby_lt y Y (by omega)
    have l := Cal.lp_01 y
    have b0 := Cal.dby_mono 0 y (by omega)
    have b00 : Cal.dby 0 = 0 := by decide
    refine ⟨k + 1, _, ryear_fn (by omega), br_yes (yes_of (by omega)) ⟨_, ryear_fn (by omega), ?_⟩⟩
    rw [wi (x := y + 1) (by omega) (by omega), wi (by omega) (by omega)]
    rw [s] at hk
    rw [show Cal.num Y M D + 719528 - Cal.dby y - (365 + Cal.lp y) = Cal.num Y M D + 719528 - (Cal.dby y + 365 + Cal.lp y) from by omega]
    exact hk

theorem rAt_months {Y M D : Int} (h : Cal.okd Y M D = true) : ∀ (j : Nat) (m : Int), 1 ≤ m → m + j = M → ∃ k, curfewref04_At_l1 k (Y, m, Cal.cum Y M + D - 1 - Cal.cum Y m) (M, D - 1) := by
  obtain ⟨Y1, Y2, d1, d2⟩ := Cal.okd_iff.mp h
  obtain ⟨M1, M2⟩ := Cal.okd_month h
  have cM := Cal.cum_bd Y M
  have lM := Cal.long_bd Y M
  intro j
  induction j with
  | zero =>
    intro m h0 e
    have e : m = M := by omega
    subst e
    refine ⟨1, _, rLong_fn (by omega), br_no (no_of (by omega)) ?_⟩
    rw [show Cal.cum Y m + D - 1 - Cal.cum Y m = D - 1 from by omega]
  | succ j ih =>
    intro m h0 e
    obtain ⟨k, hk⟩ := ih (m + 1) (by omega) (by omega)
    have s := Cal.cum_succ Y m h0 (by omega)
    have lt := Cal.cum_lt Y m M h0 (by omega) (by omega)
    have cm := Cal.cum_bd Y m
    have lm := Cal.long_bd Y m
    refine ⟨k + 1, _, rLong_fn (by omega), br_yes (yes_of (by omega)) ⟨_, rLong_fn (by omega), ?_⟩⟩
    rw [wi (x := m + 1) (by omega) (by omega), wi (by omega) (by omega)]
    rw [s] at hk
    rw [show Cal.cum Y M + D - 1 - Cal.cum Y m - Cal.long Y m = Cal.cum Y M + D - 1 - (Cal.cum Y m + Cal.long Y m) from by omega]
    exact hk

theorem rAt_fn {n : Int} (h0 : 0 ≤ n) (h1 : n ≤ 2932896) : curfewref04_At_R n (Cal.dat n) := by
  obtain ⟨o1, o2⟩ := Cal.dat_ok n h0 h1
  generalize hY : (Cal.dat n).1 = Y at *
  generalize hM : (Cal.dat n).2.1 = M at *
  generalize hD : (Cal.dat n).2.2 = D at *
  have e : Cal.dat n = (Y, M, D) := by rw [← hY, ← hM, ← hD]
  obtain ⟨Y1, Y2, d1, d2⟩ := Cal.okd_iff.mp o1
  obtain ⟨M1, M2⟩ := Cal.okd_month o1
  have lM := Cal.long_bd Y M
  have k0 := rAt_years o1 (Y - 1970).toNat 1970 (by omega) (by omega)
  have k1 := rAt_months o1 (M - 1).toNat 1 (by omega) (by omega)
  have b : Cal.dby 1970 = 719528 := by decide
  rw [b, o2, show n + 719528 - 719528 = n from by omega] at k0
  rw [Cal.cum_1] at k1
  have er : n + 719528 - Cal.dby Y = Cal.cum Y M + D - 1 - 0 := by rw [← o2]; unfold Cal.num; omega
  rw [er] at k0
  refine ⟨_, k0, _, k1, ?_⟩
  rw [e, wi (by omega) (by omega), show D - 1 + 1 = D from by omega]

theorem rWeekday_fn {n : Int} (h0 : 0 ≤ n) : curfewref04_Weekday_R n ((n + 4) % 7) := by
  unfold curfewref04_Weekday_R
  rw [Int.tmod_eq_emod_of_nonneg h0, wi (by omega) (by omega), Int.tmod_eq_emod_of_nonneg (by omega)]
  omega
end Go.Proofs.YtjdpkihlgpojkaaGreatDoor
