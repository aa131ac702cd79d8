/- Dates and their numbers. -/
import Derived.Test.YtjbpihalfaclkaaGreatDoorMc
namespace Go.Proofs.YtjbpihalfaclkaaGreatDoor
open Go Go.B
set_option linter.unusedSimpArgs false
set_option linter.unusedVariables false
set_option linter.unusedSectionVars false

theorem days_Leap_fn {y : Int} (h : 0 ≤ y) : days_Leap_R y (Cal.leapB y) := by
  unfold days_Leap_R
  rw [Int.tmod_eq_emod_of_nonneg h, Int.tmod_eq_emod_of_nonneg h, Int.tmod_eq_emod_of_nonneg h]
  unfold Cal.leapB Cal.lp
  by_cases h1 : y % 4 = 0
  · have e1 : (y % 4 == 0) = true := by simpa using h1
    by_cases h2 : y % 100 = 0
    · have e2 : (y % 100 == 0) = true := by simpa using h2
      simp only [e1, e2, br, Bool.not_true]
      by_cases h3 : y % 400 = 0 <;> simp [h1, h2, h3]
    · have e2 : (y % 100 == 0) = false := by simpa using h2
      simp only [e1, e2, br, Bool.not_false]
      simp [h1, h2]
  · have e1 : (y % 4 == 0) = false := by simpa using h1
    simp only [e1, br]
    simp [h1]

theorem long_tab {m : Int} (h1 : 1 ≤ m) (h2 : m ≤ 12) (y : Int) : List.getD longL m.toNat 0 + (if m = 2 ∧ Cal.leapB y = true then 1 else 0) = Cal.long y m := by
  have hl : Cal.leapB y = true ∧ Cal.lp y = 1 ∨ Cal.leapB y = false ∧ Cal.lp y = 0 := by
    cases h : Cal.leapB y
    · exact .inr ⟨rfl, Cal.leapB_false h⟩
    · exact .inl ⟨rfl, Cal.leapB_true h⟩
  rcases hl with ⟨e1, e2⟩ | ⟨e1, e2⟩ <;> rw [e1] <;> unfold Cal.long <;> rw [e2] <;>
    rcases Cal.m12 h1 h2 with rfl | rfl | rfl | rfl | rfl | rfl | rfl | rfl | rfl | rfl | rfl | rfl <;> simp [longL]

theorem long_out {m : Int} (h : ¬ (1 ≤ m ∧ m ≤ 12)) (y : Int) : Cal.long y m = 0 := by
  unfold Cal.long
  repeat (first | omega | split)

theorem days_Long_fn {y m : Int} (hy : 0 ≤ y) : days_Long_R y m (Cal.long y m) := by
  unfold days_Long_R
  by_cases h1 : m < 1
  · rw [long_out (by omega)]; simp [br, h1]
  · by_cases h2 : 13 ≤ m
    · rw [long_out (by omega)]
      have e1 : decide (m < 1) = false := by simpa using h1
      have e2 : decide (m ≥ 13) = true := by simpa using h2
      simp only [e1, e2, br]
    · have e1 : decide (m < 1) = false := by simpa using h1
      have e2 : decide (m ≥ 13) = false := by simpa using h2
      have e3 : offN 0 m 1 = m.toNat := by simp [offN]
      simp only [e1, e2, e3, br]
      have t := long_tab (m := m) (by omega) (by omega) y
      refine ⟨by simp; omega, ⟨?_, ?_⟩⟩
      · have : List.length longL = 13 := rfl
        rw [this]; simp [Nat.blt_eq]; omega
      · by_cases hm : m = 2
        · have e4 : (m == 2) = true := by simpa using hm
          simp only [e4]
          refine ⟨_, days_Leap_fn hy, ?_⟩
          cases hl : Cal.leapB y
          · simp only
            rw [hl] at t; simpa using t
          · simp only
            rw [hl, if_pos ⟨hm, rfl⟩] at t
            rw [t]
            have := Cal.long_bd y m
            exact wi (by omega) (by omega)
        · have e4 : (m == 2) = false := by simpa using hm
          simp only [e4]
          rw [if_neg (fun h => hm h.1)] at t
          simpa using t

theorem days_Check_fn (y m d : Int) : days_Check_R y m d (if Cal.okd y m d then 0 else 140) := by
  unfold days_Check_R Cal.okd
  by_cases h1 : y < 1970
  · simp [br, h1]; omega
  · by_cases h2 : y > 9999
    · simp [br, h1, h2]; omega
    · by_cases h3 : d < 1
      · simp [br, h1, h2, h3]; omega
      · have e1 : decide (y < 1970) = false := by simpa using h1
        have e2 : decide (y > 9999) = false := by simpa using h2
        have e3 : decide (d < 1) = false := by simpa using h3
        simp only [e1, e2, e3, br]
        refine ⟨_, days_Long_fn (by omega), ?_⟩
        by_cases h4 : d > Cal.long y m
        · have e4 : decide (d > Cal.long y m) = true := by simpa using h4
          simp only [e4]
          rw [if_neg (by simp; omega)]
        · have e4 : decide (d > Cal.long y m) = false := by simpa using h4
          simp only [e4]
          rw [if_pos (by simp; omega)]

theorem days_Of_fn {y m d : Int} (h : Cal.okd y m d = true) : days_Of_R y m d (Cal.num y m d, 0) := by
  obtain ⟨m1, m2⟩ := Cal.okd_month h
  obtain ⟨y1, y2, d1, d2⟩ := Cal.okd_iff.mp h
  have lb := Cal.long_bd y m
  have nb := Cal.num_bd h
  refine ⟨_, days_Check_fn y m d, ?_⟩
  rw [h]
  have e0 : ((if (true : Bool) = true then (0 : Int) else 140) != 0) = false := rfl
  simp only [e0, br]
  have em : IntKind.wrap .i64 (m - 3) = m - 3 := wi (by omega) (by omega)
  rw [em]
  by_cases hm : m - 3 < 0
  · have e1 : decide (m - 3 < 0) = true := by simpa using hm
    simp only [e1]
    have em2 : IntKind.wrap .i64 (m - 3 + 12) = m - 3 + 12 := wi (by omega) (by omega)
    rw [em2]
    refine ⟨_, days_months_fn (by omega) (by omega), ?_⟩
    have nj := Cal.num_jan y m d m1 (by omega)
    have e9 : m - 3 + 12 = m + 9 := by omega
    rw [e9]
    have mb := Cal.mon_bd (m + 9) (by omega) (by omega)
    unfold Cal.mby at nj
    rw [wi (x := y - 1) (by omega) (by omega)]
    rw [Int.tdiv_eq_ediv_of_nonneg (a := y - 1) (by omega), Int.tdiv_eq_ediv_of_nonneg (a := y - 1) (by omega), Int.tdiv_eq_ediv_of_nonneg (a := y - 1) (by omega)]
    rw [wi (x := (y - 1) * 365) (by omega) (by omega), wi (x := (y - 1) / 4) (by omega) (by omega), wi (x := (y - 1) / 100) (by omega) (by omega), wi (x := (y - 1) / 400) (by omega) (by omega)]
    rw [wi (x := (y - 1) * 365 + (y - 1) / 4) (by omega) (by omega)]
    rw [wi (x := (y - 1) * 365 + (y - 1) / 4 - (y - 1) / 100) (by omega) (by omega)]
    rw [wi (x := (y - 1) * 365 + (y - 1) / 4 - (y - 1) / 100 + (y - 1) / 400) (by omega) (by omega)]
    rw [wi (x := (y - 1) * 365 + (y - 1) / 4 - (y - 1) / 100 + (y - 1) / 400 + Cal.mon (m + 9)) (by omega) (by omega)]
    rw [wi (x := (y - 1) * 365 + (y - 1) / 4 - (y - 1) / 100 + (y - 1) / 400 + Cal.mon (m + 9) + d) (by omega) (by omega)]
    rw [wi (x := (y - 1) * 365 + (y - 1) / 4 - (y - 1) / 100 + (y - 1) / 400 + Cal.mon (m + 9) + d - 1) (by omega) (by omega)]
    rw [wi (by omega) (by omega), nj]
    congr 1; omega
  · have e1 : decide (m - 3 < 0) = false := by simpa using hm
    simp only [e1]
    refine ⟨_, days_months_fn (by omega) (by omega), ?_⟩
    have nj := Cal.num_march y m d (by omega) m2
    have mb := Cal.mon_bd (m - 3) (by omega) (by omega)
    unfold Cal.mby at nj
    rw [Int.tdiv_eq_ediv_of_nonneg (a := y) (by omega), Int.tdiv_eq_ediv_of_nonneg (a := y) (by omega), Int.tdiv_eq_ediv_of_nonneg (a := y) (by omega)]
    rw [wi (x := y * 365) (by omega) (by omega), wi (x := y / 4) (by omega) (by omega), wi (x := y / 100) (by omega) (by omega), wi (x := y / 400) (by omega) (by omega)]
    rw [wi (x := y * 365 + y / 4) (by omega) (by omega)]
    rw [wi (x := y * 365 + y / 4 - y / 100) (by omega) (by omega)]
    rw [wi (x := y * 365 + y / 4 - y / 100 + y / 400) (by omega) (by omega)]
    rw [wi (x := y * 365 + y / 4 - y / 100 + y / 400 + Cal.mon (m - 3)) (by omega) (by omega)]
    rw [wi (x := y * 365 + y / 4 - y / 100 + y / 400 + Cal.mon (m - 3) + d) (by omega) (by omega)]
    rw [wi (x := y * 365 + y / 4 - y / 100 + y / 400 + Cal.mon (m - 3) + d - 1) (by omega) (by omega)]
    rw [wi (by omega) (by omega), nj]
    congr 1; omega
end Go.Proofs.YtjbpihalfaclkaaGreatDoor
