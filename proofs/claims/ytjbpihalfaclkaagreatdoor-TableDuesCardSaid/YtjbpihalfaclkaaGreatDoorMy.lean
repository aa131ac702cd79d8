import Derived.Test.YtjbpihalfaclkaaGreatDoorMz
import Derived.Test.YtjbpihalfaclkaaGreatDoorGx
import Derived.Test.YtjbpihalfaclkaaGreatDoorCal
/- What the calendar comes to. -/
namespace Go.Proofs.YtjbpihalfaclkaaGreatDoor
open Go Go.B
set_option linter.unusedSimpArgs false
set_option linter.unusedVariables false
set_option linter.unusedSectionVars false

def dayB (n : Int) : Bool := decide (0 ≤ n) && decide (n ≤ 2932896)

theorem dayB_true {n : Int} (h : dayB n = true) : 0 ≤ n ∧ n ≤ 2932896 := by simpa [dayB] using h

theorem days_day_fn (n : Int) : days_day_R n (dayB n) := by
  unfold days_day_R dayB
  by_cases h : (0 : Int) ≤ n <;> simp [br, h]

theorem days_months_fn {m : Int} (h0 : 0 ≤ m) (h1 : m ≤ 12) : days_months_R m (Cal.mon m) := by
  unfold days_months_R Cal.mon
  rw [wi (x := 153 * m) (by omega) (by omega), wi (x := 153 * m + 2) (by omega) (by omega), Int.tdiv_eq_ediv_of_nonneg (by omega)]
  exact wi (by omega) (by omega)

theorem min_if (x M : Int) : (if M < x then M else x) = min x M := by split <;> omega

theorem At_step {i : Nat} {D Y M n y : Int} {res : days_At_l0_Y} {k : Nat} (hn : 0 ≤ n) (hn2 : n ≤ 100000000) (hy : 0 ≤ y) (hy2 : y ≤ 100000000) (hD : 0 < D) (hD2 : D ≤ 1000000) (hY : 0 ≤ Y) (hY2 : Y ≤ 1000) (hM : 0 ≤ M) (hM2 : M ≤ 1000)
    (h : days_At_l0 k (n - min (n / D) M * D, y + min (n / D) M * Y, ((i + 1 : Nat) : Int)) res)
    (hi : days_At_l0 (k + 1) (n, y, (i : Int)) res = req true (req (!(D == 0)) (days_At_l0 k ((IntKind.wrap .i64 (n - (IntKind.wrap .i64 ((if M < (IntKind.wrap .i64 (Int.tdiv n D)) then M else (IntKind.wrap .i64 (Int.tdiv n D))) * D)))), (IntKind.wrap .i64 (y + (IntKind.wrap .i64 ((if M < (IntKind.wrap .i64 (Int.tdiv n D)) then M else (IntKind.wrap .i64 (Int.tdiv n D))) * Y)))), (IntKind.wrap .i64 ((i : Int) + 1))) res)))
    (hi4 : i < 4) : days_At_l0 (k + 1) (n, y, (i : Int)) res := by
  rw [hi]
  have q0 : 0 ≤ n / D := Int.ediv_nonneg hn (by omega)
  have q1 : n / D ≤ n := Int.ediv_le_self _ hn
  have t1 : IntKind.wrap .i64 (Int.tdiv n D) = n / D := by
    rw [Int.tdiv_eq_ediv_of_nonneg hn]; exact wi (by omega) (by omega)
  rw [t1, min_if]
  have m0 : 0 ≤ min (n / D) M := by omega
  have m1 : min (n / D) M ≤ 1000 := by omega
  generalize min (n / D) M = q at *
  have p1 : 0 ≤ q * D := Int.mul_nonneg m0 (by omega)
  have p2 : q * D ≤ 1000 * 1000000 := Int.mul_le_mul m1 hD2 (by omega) (by omega)
  have p3 : 0 ≤ q * Y := Int.mul_nonneg m0 hY
  have p4 : q * Y ≤ 1000 * 1000 := Int.mul_le_mul m1 hY2 hY (by omega)
  refine ⟨rfl, ⟨by simp; omega, ?_⟩⟩
  rw [wi (x := q * D) (by omega) (by omega), wi (x := q * Y) (by omega) (by omega), wi (x := n - q * D) (by omega) (by omega), wi (x := y + q * Y) (by omega) (by omega), wi (x := (i : Int) + 1) (by omega) (by omega)]
  exact h

theorem days_At_parts {N : Int} (h0 : 0 ≤ N) (h1 : N < 14609700) : ∃ a b c d : Int, a = min (N / 146097) 100 ∧ b = min ((N - a * 146097) / 36524) 3 ∧ c = min ((N - a * 146097 - b * 36524) / 1461) 24 ∧ d = min ((N - a * 146097 - b * 36524 - c * 1461) / 365) 3 ∧
    days_At_l0_L (N, 0, 0) (N - a * 146097 - b * 36524 - c * 1461 - d * 365, 0 + a * 400 + b * 100 + c * 4 + d * 1) := by
  obtain ⟨a, ha⟩ : ∃ a, a = min (N / 146097) 100 := ⟨_, rfl⟩
  obtain ⟨b, hb⟩ : ∃ b, b = min ((N - a * 146097) / 36524) 3 := ⟨_, rfl⟩
  obtain ⟨c, hc⟩ : ∃ c, c = min ((N - a * 146097 - b * 36524) / 1461) 24 := ⟨_, rfl⟩
  obtain ⟨d, hd⟩ : ∃ d, d = min ((N - a * 146097 - b * 36524 - c * 1461) / 365) 3 := ⟨_, rfl⟩
  have a1 : 0 ≤ a ∧ a ≤ 100 ∧ a * 146097 ≤ N := by omega
  have b1 : 0 ≤ b ∧ b ≤ 3 ∧ b * 36524 ≤ N - a * 146097 := by omega
  have c1 : 0 ≤ c ∧ c ≤ 24 ∧ c * 1461 ≤ N - a * 146097 - b * 36524 := by omega
  have d1 : 0 ≤ d ∧ d ≤ 3 ∧ d * 365 ≤ N - a * 146097 - b * 36524 - c * 1461 := by omega
  refine ⟨a, b, c, d, ha, hb, hc, hd, 5, ?_⟩
  refine At_step (i := 0) (D := 146097) (Y := 400) (M := 100) h0 (by omega) (by omega) (by omega) (by omega) (by omega) (by omega) (by omega) (by omega) (by omega) ?_ rfl (by omega)
  rw [← ha]
  refine At_step (i := 1) (D := 36524) (Y := 100) (M := 3) (by omega) (by omega) (by omega) (by omega) (by omega) (by omega) (by omega) (by omega) (by omega) (by omega) ?_ rfl (by omega)
  rw [← hb]
  refine At_step (i := 2) (D := 1461) (Y := 4) (M := 24) (by omega) (by omega) (by omega) (by omega) (by omega) (by omega) (by omega) (by omega) (by omega) (by omega) ?_ rfl (by omega)
  rw [← hc]
  refine At_step (i := 3) (D := 365) (Y := 1) (M := 3) (by omega) (by omega) (by omega) (by omega) (by omega) (by omega) (by omega) (by omega) (by omega) (by omega) ?_ rfl (by omega)
  rw [← hd]
  rfl

theorem days_At_look {r y m : Int} (h0 : 0 ≤ m) (h1 : m ≤ 11) (h2 : Cal.mon m ≤ r) (h3 : r < Cal.mon (m + 1)) : ∀ (j : Nat) (i : Int), 0 ≤ i → i + j = m → ∃ k, days_At_l1 k (r, y, i) m := by
  intro j
  induction j with
  | zero =>
    intro i hi e
    have e : i = m := by omega
    subst e
    refine ⟨1, ?_⟩
    unfold days_At_l1
    have e1 : IntKind.wrap .i64 (i + 1) = i + 1 := wi (by omega) (by omega)
    simp only [e1]
    refine ⟨_, days_months_fn (by omega) (by omega), ?_⟩
    have e2 : decide (Cal.mon (i + 1) > r) = true := by simp; omega
    simp only [e2, br]
  | succ j ih =>
    intro i hi e
    obtain ⟨k, hk⟩ := ih (i + 1) (by omega) (by omega)
    refine ⟨k + 1, ?_⟩
    unfold days_At_l1
    have e1 : IntKind.wrap .i64 (i + 1) = i + 1 := wi (by omega) (by omega)
    simp only [e1]
    refine ⟨_, days_months_fn (by omega) (by omega), ?_⟩
    have e2 : decide (Cal.mon (i + 1) > r) = false := by unfold Cal.mon at *; simp; omega
    simp only [e2, br]
    exact hk

theorem days_At_fn {n : Int} (h : dayB n = true) : days_At_R n (Cal.dat n, 0) := by
  obtain ⟨h0, h1⟩ := dayB_true h
  refine ⟨_, days_day_fn n, ?_⟩
  rw [h]
  simp only [br, Bool.not_true]
  have e1 : IntKind.wrap .i64 (n + 719468) = n + 719468 := wi (by omega) (by omega)
  rw [e1]
  obtain ⟨a, b, c, d, ha, hb, hc, hd, hl⟩ := days_At_parts (N := n + 719468) (by omega) (by omega)
  obtain ⟨p1, p2, p3, p4⟩ := Cal.parts (n + 719468) a b c d (by omega) (by omega) ha hb hc hd
  refine ⟨_, hl, ?_⟩
  have ey : 0 + a * 400 + b * 100 + c * 4 + d * 1 = a * 400 + b * 100 + c * 4 + d := by omega
  rw [ey]
  have a1 : 0 ≤ a ∧ a ≤ 100 := by omega
  have b1 : 0 ≤ b ∧ b ≤ 3 := by omega
  have c1 : 0 ≤ c ∧ c ≤ 24 := by omega
  have d1 : 0 ≤ d ∧ d ≤ 3 := by omega
  generalize hY : a * 400 + b * 100 + c * 4 + d = Y at *
  have en : n = Cal.mby Y + (n + 719468 - a * 146097 - b * 36524 - c * 1461 - d * 365) - 719468 := by omega
  generalize hr : n + 719468 - a * 146097 - b * 36524 - c * 1461 - d * 365 = r at *
  clear hl ha hb hc hd
  obtain ⟨m, m0, m1, m2, m3⟩ := Cal.mon_find r p2 p3
  obtain ⟨k, hk⟩ := days_At_look (y := Y) m0 m1 m2 m3 m.toNat 0 (by omega) (by omega)
  refine ⟨m, ⟨k, hk⟩, _, days_months_fn m0 (by omega), ?_⟩
  have mb := Cal.mon_bd m m0 (by omega)
  have key := Cal.of_march Y r m m0 m1 m2 m3 p3 p4 (by omega) (by omega)
  rw [← en] at key
  rw [wi (x := m + 3) (by omega) (by omega), wi (x := Y + 1) (by omega) (by omega), wi (x := m + 3 - 12) (by omega) (by omega), wi (x := r - Cal.mon m) (by omega) (by omega), wi (x := r - Cal.mon m + 1) (by omega) (by omega)]
  rw [key]
  by_cases hm : 12 < m + 3
  · have e2 : decide (m + 3 > 12) = true := by simpa using hm
    rw [if_pos hm]
    simp only [e2, br]
    have : m + 3 - 12 = m - 9 := by omega
    rw [this]
  · have e2 : decide (m + 3 > 12) = false := by simpa using hm
    rw [if_neg hm]
    simp only [e2, br]

theorem days_At_no {n : Int} (h : dayB n = false) : days_At_R n ((0, 0, 0), 2) := by
  refine ⟨_, days_day_fn n, ?_⟩
  rw [h]
  rfl
end Go.Proofs.YtjbpihalfaclkaaGreatDoor
/- Dates and their numbers. -/
namespace Go.Proofs.YtjbpihalfaclkaaGreatDoor
open Go Go.B
set_option linter.unusedSimpArgs false
set_option linter.unusedVariables false
set_option linter.unusedSectionVars false

theorem days_Leap_fn {y : Int} (h : 0 ≤ y) : days_Leap_R y (Cal.leapB y) := by
  unfold days_Leap_R
  rw [Int.tmod_eq_emod_of_nonneg h, Int.tmod_eq_emod_of_nonneg h, Int.tmod_eq_emod_of_nonneg h]
  unfold Cal.leapB Cal.lp
  by_cases h1 : y % 4 = 0
  · have e1 : (y % 4 == 0) = true := by simpa using h1
    by_cases h2 : y % 100 = 0
    · have e2 : (y % 100 == 0) = true := by simpa using h2
      simp only [e1, e2, br, Bool.not_true]
      by_cases h3 : y % 400 = 0 <;> simp [h1, h2, h3]
    · have e2 : (y % 100 == 0) = false := by simpa using h2
      simp only [e1, e2, br, Bool.not_false]
      simp [h1, h2]
  · have e1 : (y % 4 == 0) = false := by simpa using h1
    simp only [e1, br]
    simp [h1]

theorem long_tab {m : Int} (h1 : 1 ≤ m) (h2 : m ≤ 12) (y : Int) : List.getD longL m.toNat 0 + (if m = 2 ∧ Cal.leapB y = true then 1 else 0) = Cal.long y m := by
  have hl : Cal.leapB y = true ∧ Cal.lp y = 1 ∨ Cal.leapB y = false ∧ Cal.lp y = 0 := by
    cases h : Cal.leapB y
    · exact .inr ⟨rfl, Cal.leapB_false h⟩
    · exact .inl ⟨rfl, Cal.leapB_true h⟩
  rcases hl with ⟨e1, e2⟩ | ⟨e1, e2⟩ <;> rw [e1] <;> unfold Cal.long <;> rw [e2] <;>
    rcases Cal.m12 h1 h2 with rfl | rfl | rfl | rfl | rfl | rfl | rfl | rfl | rfl | rfl | rfl | rfl <;> simp [longL]

theorem long_out {m : Int} (h : ¬ (1 ≤ m ∧ m ≤ 12)) (y : Int) : Cal.long y m = 0 := by
  unfold Cal.long
  repeat (first | omega | split)

theorem days_Long_fn {y m : Int} (hy : 0 ≤ y) : days_Long_R y m (Cal.long y m) := by
  unfold days_Long_R
  by_cases h1 : m < 1
  · rw [long_out (by omega)]; simp [br, h1]
  · by_cases h2 : 13 ≤ m
    · rw [long_out (by omega)]
      have e1 : decide (m < 1) = false := by simpa using h1
      have e2 : decide (m ≥ 13) = true := by simpa using h2
      simp only [e1, e2, br]
    · have e1 : decide (m < 1) = false := by simpa using h1
      have e2 : decide (m ≥ 13) = false := by simpa using h2
      have e3 : offN 0 m 1 = m.toNat := by simp [offN]
      simp only [e1, e2, e3, br]
      have t := long_tab (m := m) (by omega) (by omega) y
      refine ⟨by simp; omega, ⟨?_, ?_⟩⟩
      · have : List.length longL = 13 := rfl
        rw [this]; simp [Nat.blt_eq]; omega
      · by_cases hm : m = 2
        · have e4 : (m == 2) = true := by simpa using hm
          simp only [e4]
          refine ⟨_, days_Leap_fn hy, ?_⟩
          cases hl : Cal.leapB y
          · simp only
            rw [hl] at t; simpa using t
          · simp only
            rw [hl, if_pos ⟨hm, rfl⟩] at t
            rw [t]
            have := Cal.long_bd y m
            exact wi (by omega) (by omega)
        · have e4 : (m == 2) = false := by simpa using hm
          simp only [e4]
          rw [if_neg (fun h => hm h.1)] at t
          simpa using t

theorem days_Check_fn (y m d : Int) : days_Check_R y m d (if Cal.okd y m d then 0 else 140) := by
  unfold days_Check_R Cal.okd
  by_cases h1 : y < 1970
  · simp [br, h1]; omega
  · by_cases h2 : y > 9999
    · simp [br, h1, h2]; omega
    · by_cases h3 : d < 1
      · simp [br, h1, h2, h3]; omega
      · have e1 : decide (y < 1970) = false := by simpa using h1
        have e2 : decide (y > 9999) = false := by simpa using h2
        have e3 : decide (d < 1) = false := by simpa using h3
        simp only [e1, e2, e3, br]
        refine ⟨_, days_Long_fn (by omega), ?_⟩
        by_cases h4 : d > Cal.long y m
        · have e4 : decide (d > Cal.long y m) = true := by simpa using h4
          simp only [e4]
          rw [if_neg (by simp; omega)]
        · have e4 : decide (d > Cal.long y m) = false := by simpa using h4
          simp only [e4]
          rw [if_pos (by simp; omega)]

theorem days_Of_fn {y m d : Int} (h : Cal.okd y m d = true) : days_Of_R y m d (Cal.num y m d, 0) := by
  obtain ⟨m1, m2⟩ := Cal.okd_month h
  obtain ⟨y1, y2, d1, d2⟩ := Cal.okd_iff.mp h
  have lb := Cal.long_bd y m
  have nb := Cal.num_bd h
  refine ⟨_, days_Check_fn y m d, ?_⟩
  rw [h]
  have e0 : ((if (true : Bool) = true then (0 : Int) else 140) != 0) = false := rfl
  simp only [e0, br]
  have em : IntKind.wrap .i64 (m - 3) = m - 3 := wi (by omega) (by omega)
  rw [em]
  by_cases hm : m - 3 < 0
  · have e1 : decide (m - 3 < 0) = true := by simpa using hm
    simp only [e1]
    have em2 : IntKind.wrap .i64 (m - 3 + 12) = m - 3 + 12 := wi (by omega) (by omega)
    rw [em2]
    refine ⟨_, days_months_fn (by omega) (by omega), ?_⟩
    have nj := Cal.num_jan y m d m1 (by omega)
    have e9 : m - 3 + 12 = m + 9 := by omega
    rw [e9]
    have mb := Cal.mon_bd (m + 9) (by omega) (by omega)
    unfold Cal.mby at nj
    rw [wi (x := y - 1) (by omega) (by omega)]
    rw [Int.tdiv_eq_ediv_of_nonneg (a := y - 1) (by omega), Int.tdiv_eq_ediv_of_nonneg (a := y - 1) (by omega), Int.tdiv_eq_ediv_of_nonneg (a := y - 1) (by omega)]
    rw [wi (x := (y - 1) * 365) (by omega) (by omega), wi (x := (y - 1) / 4) (by omega) (by omega), wi (x := (y - 1) / 100) (by omega) (by omega), wi (x := (y - 1) / 400) (by omega) (by omega)]
    rw [wi (x := (y - 1) * 365 + (y - 1) / 4) (by omega) (by omega)]
    rw [wi (x := (y - 1) * 365 + (y - 1) / 4 - (y - 1) / 100) (by omega) (by omega)]
    rw [wi (x := (y - 1) * 365 + (y - 1) / 4 - (y - 1) / 100 + (y - 1) / 400) (by omega) (by omega)]
    rw [wi (x := (y - 1) * 365 + (y - 1) / 4 - (y - 1) / 100 + (y - 1) / 400 + Cal.mon (m + 9)) (by omega) (by omega)]
    rw [wi (x := (y - 1) * 365 + (y - 1) / 4 - (y - 1) / 100 + (y - 1) / 400 + Cal.mon (m + 9) + d) (by omega) (by omega)]
    rw [wi (x := (y - 1) * 365 + (y - 1) / 4 - (y - 1) / 100 + (y - 1) / 400 + Cal.mon (m + 9) + d - 1) (by omega) (by omega)]
    rw [wi (by omega) (by omega), nj]
    congr 1; omega
  · have e1 : decide (m - 3 < 0) = false := by simpa using hm
    simp only [e1]
    refine ⟨_, days_months_fn (by omega) (by omega), ?_⟩
    have nj := Cal.num_march y m d (by omega) m2
    have mb := Cal.mon_bd (m - 3) (by omega) (by omega)
    unfold Cal.mby at nj
    rw [Int.tdiv_eq_ediv_of_nonneg (a := y) (by omega), Int.tdiv_eq_ediv_of_nonneg (a := y) (by omega), Int.tdiv_eq_ediv_of_nonneg (a := y) (by omega)]
    rw [wi (x := y * 365) (by omega) (by omega), wi (x := y / 4) (by omega) (by omega), wi (x := y / 100) (by omega) (by omega), wi (x := y / 400) (by omega) (by omega)]
    rw [wi (x := y * 365 + y / 4) (by omega) (by omega)]
    rw [wi (x := y * 365 + y / 4 - y / 100) (by omega) (by omega)]
    rw [wi (x := y * 365 + y / 4 - y / 100 + y / 400) (by omega) (by omega)]
    rw [wi (x := y * 365 + y / 4 - y / 100 + y / 400 + Cal.mon (m - 3)) (by omega) (by omega)]
    rw [wi (x := y * 365 + y / 4 - y / 100 + y / 400 + Cal.mon (m - 3) + d) (by omega) (by omega)]
    rw [wi (x := y * 365 + y / 4 - y / 100 + y / 400 + Cal.mon (m - 3) + d - 1) (by omega) (by omega)]
    rw [wi (by omega) (by omega), nj]
    congr 1; omega
end Go.Proofs.YtjbpihalfaclkaaGreatDoor
