/- What the calendar comes to. -/
import Derived.Test.YtjbpihalfaclkaaGreatDoorUt
import Derived.Test.YtjbpihalfaclkaaGreatDoorGx
import Derived.Test.YtjbpihalfaclkaaGreatDoorCal
namespace Go.Proofs.YtjbpihalfaclkaaGreatDoor
open Go Go.B
set_option linter.unusedSimpArgs false
set_option linter.unusedVariables false
set_option linter.unusedSectionVars false

def dayB (n : Int) : Bool := decide (0 ≤ n) && decide (n ≤ 2932896)

theorem dayB_true {n : Int} (h : dayB n = true) : 0 ≤ n ∧ n ≤ 2932896 := by simpa [dayB] using h

theorem days_day_fn (n : Int) : days_day_R n (dayB n) := by
  unfold days_day_R dayB
  by_cases h : (0 : Int) ≤ n <;> simp [br, h]

theorem days_months_fn {m : Int} (h0 : 0 ≤ m) (h1 : m ≤ 12) : days_months_R m (Cal.mon m) := by
  unfold days_months_R Cal.mon
  rw [wi (x := 153 * m) (by omega) (by omega), wi (x := 153 * m + 2) (by omega) (by omega), Int.tdiv_eq_ediv_of_nonneg (by omega)]
  exact wi (by omega) (by omega)

theorem min_if (x M : Int) : (if M < x then M else x) = min x M := by split <;> omega

theorem At_step {i : Nat} {D Y M n y : Int} {res : days_At_l0_Y} {k : Nat} (hn : 0 ≤ n) (hn2 : n ≤ 100000000) (hy : 0 ≤ y) (hy2 : y ≤ 100000000) (hD : 0 < D) (hD2 : D ≤ 1000000) (hY : 0 ≤ Y) (hY2 : Y ≤ 1000) (hM : 0 ≤ M) (hM2 : M ≤ 1000)
    (h : days_At_l0 k (n - min (n / D) M * D, y + min (n / D) M * Y, ((i + 1 : Nat) : Int)) res)
    (hi : days_At_l0 (k + 1) (n, y, (i : Int)) res = req true (req (!(D == 0)) (days_At_l0 k ((IntKind.wrap .i64 (n - (IntKind.wrap .i64 ((if M < (IntKind.wrap .i64 (Int.tdiv n D)) then M else (IntKind.wrap .i64 (Int.tdiv n D))) * D)))), (IntKind.wrap .i64 (y + (IntKind.wrap .i64 ((if M < (IntKind.wrap .i64 (Int.tdiv n D)) then M else (IntKind.wrap .i64 (Int.tdiv n D))) * Y)))), (IntKind.wrap .i64 ((i : Int) + 1))) res)))
    (hi4 : i < 4) : days_At_l0 (k + 1) (n, y, (i : Int)) res := by
  rw [hi]
  have q0 : 0 ≤ n / D := Int.ediv_nonneg hn (by omega)
  have q1 : n / D ≤ n := Int.ediv_le_self _ hn
  have t1 : IntKind.wrap .i64 (Int.tdiv n D) = n / D := by
    rw [Int.tdiv_eq_ediv_of_nonneg hn]; exact wi (by omega) (by omega)
  rw [t1, min_if]
  have m0 : 0 ≤ min (n / D) M := by omega
  have m1 : min (n / D) M ≤ 1000 := by omega
  generalize min (n / D) M = q at *
  have p1 : 0 ≤ q * D := Int.mul_nonneg m0 (by omega)
  have p2 : q * D ≤ 1000 * 1000000 := Int.mul_le_mul m1 hD2 (by omega) (by omega)
  have p3 : 0 ≤ q * Y := Int.mul_nonneg m0 hY
  have p4 : q * Y ≤ 1000 * 1000 := Int.mul_le_mul m1 hY2 hY (by omega)
  refine ⟨rfl, ⟨by simp; omega, ?_⟩⟩
  rw [wi (x := q * D) (by omega) (by omega), wi (x := q * Y) (by omega) (by omega), wi (x := n - q * D) (by omega) (by omega), wi (x := y + q * Y) (by omega) (by omega), wi (x := (i : Int) + 1) (by omega) (by omega)]
  exact h

theorem days_At_parts {N : Int} (h0 : 0 ≤ N) (h1 : N < 14609700) : ∃ a b c d : Int, a = min (N / 146097) 100 ∧ b = min ((N - a * 146097) / 36524) 3 ∧ c = min ((N - a * 146097 - b * 36524) / 1461) 24 ∧ d = min ((N - a * 146097 - b * 36524 - c * 1461) / 365) 3 ∧
    days_At_l0_L (N, 0, 0) (N - a * 146097 - b * 36524 - c * 1461 - d * 365, 0 + a * 400 + b * 100 + c * 4 + d * 1) := by
  obtain ⟨a, ha⟩ : ∃ a, a = min (N / 146097) 100 := ⟨_, rfl⟩
  obtain ⟨b, hb⟩ : ∃ b, b = min ((N - a * 146097) / 36524) 3 := ⟨_, rfl⟩
  obtain ⟨c, hc⟩ : ∃ c, c = min ((N - a * 146097 - b * 36524) / 1461) 24 := ⟨_, rfl⟩
  obtain ⟨d, hd⟩ : ∃ d, d = min ((N - a * 146097 - b * 36524 - c * 1461) / 365) 3 := ⟨_, rfl⟩
  have a1 : 0 ≤ a ∧ a ≤ 100 ∧ a * 146097 ≤ N := by omega
  have b1 : 0 ≤ b ∧ b ≤ 3 ∧ b * 36524 ≤ N - a * 146097 := by omega
  have c1 : 0 ≤ c ∧ c ≤ 24 ∧ c * 1461 ≤ N - a * 146097 - b * 36524 := by omega
  have d1 : 0 ≤ d ∧ d ≤ 3 ∧ d * 365 ≤ N - a * 146097 - b * 36524 - c * 1461 := by omega
  refine ⟨a, b, c, d, ha, hb, hc, hd, 5, ?_⟩
  refine At_step (i := 0) (D := 146097) (Y := 400) (M := 100) h0 (by omega) (by omega) (by omega) (by omega) (by omega) (by omega) (by omega) (by omega) (by omega) ?_ rfl (by omega)
  rw [← ha]
  refine At_step (i := 1) (D := 36524) (Y := 100) (M := 3) (by omega) (by omega) (by omega) (by omega) (by omega) (by omega) (by omega) (by omega) (by omega) (by omega) ?_ rfl (by omega)
  rw [← hb]
  refine At_step (i := 2) (D := 1461) (Y := 4) (M := 24) (by omega) (by omega) (by omega) (by omega) (by omega) (by omega) (by omega) (by omega) (by omega) (by omega) ?_ rfl (by omega)
  rw [← hc]
  refine At_step (i := 3) (D := 365) (Y := 1) (M := 3) (by omega) (by omega) (by omega) (by omega) (by omega) (by omega) (by omega) (by omega) (by omega) (by omega) ?_ rfl (by omega)
  rw [← hd]
  rfl

theorem days_At_look {r y m : Int} (h0 : 0 ≤ m) (h1 : m ≤ 11) (h2 : Cal.mon m ≤ r) (h3 : r < Cal.mon (m + 1)) : ∀ (j : Nat) (i : Int), 0 ≤ i → i + j = m → ∃ k, days_At_l1 k (r, y, i) m := by
  intro j
  induction j with
  | zero =>
    intro i hi e
    have e : i = m := by omega
    subst e
    refine ⟨1, ?_⟩
    unfold days_At_l1
    have e1 : IntKind.wrap .i64 (i + 1) = i + 1 := wi (by omega) (by omega)
    simp only [e1]
    refine ⟨_, days_months_fn (by omega) (by omega), ?_⟩
    have e2 : decide (Cal.mon (i + 1) > r) = true := by simp; omega
    simp only [e2, br]
  | succ j ih =>
    intro i hi e
    obtain ⟨k, hk⟩ := ih (i + 1) (by omega) (by omega)
    refine ⟨k + 1, ?_⟩
    unfold days_At_l1
    have e1 : IntKind.wrap .i64 (i + 1) = i + 1 := wi (by omega) (by omega)
    simp only [e1]
    refine ⟨_, days_months_fn (by omega) (by omega), ?_⟩
    have e2 : decide (Cal.mon (i + 1) > r) = false := by unfold Cal.mon at *; simp; omega
    simp only [e2, br]
    exact hk

theorem days_At_fn {n : Int} (h : dayB n = true) : days_At_R n (Cal.dat n, 0) := by
  obtain ⟨h0, h1⟩ := dayB_true h
  refine ⟨_, days_day_fn n, ?_⟩
  rw [h]
  simp only [br, Bool.not_true]
  have e1 : IntKind.wrap .i64 (n + 719468) = n + 719468 := wi (by omega) (by omega)
  rw [e1]
  obtain ⟨a, b, c, d, ha, hb, hc, hd, hl⟩ := days_At_parts (N := n + 719468) (by omega) (by omega)
  obtain ⟨p1, p2, p3, p4⟩ := Cal.parts (n + 719468) a b c d (by omega) (by omega) ha hb hc hd
  refine ⟨_, hl, ?_⟩
  have ey : 0 + a * 400 + b * 100 + c * 4 + d * 1 = a * 400 + b * 100 + c * 4 + d := by omega
  rw [ey]
  have a1 : 0 ≤ a ∧ a ≤ 100 := by omega
  have b1 : 0 ≤ b ∧ b ≤ 3 := by omega
  have c1 : 0 ≤ c ∧ c ≤ 24 := by omega
  have d1 : 0 ≤ d ∧ d ≤ 3 := by omega
  generalize hY : a * 400 + b * 100 + c * 4 + d = Y at *
  have en : n = Cal.mby Y + (n + 719468 - a * 146097 - b * 36524 - c * 1461 - d * 365) - 719468 := by omega
  generalize hr : n + 719468 - a * 146097 - b * 36524 - c * 1461 - d * 365 = r at *
  clear hl ha hb hc hd
  obtain ⟨m, m0, m1, m2, m3⟩ := Cal.mon_find r p2 p3
  obtain ⟨k, hk⟩ := days_At_look (y := Y) m0 m1 m2 m3 m.toNat 0 (by omega) (by omega)
  refine ⟨m, ⟨k, hk⟩, _, days_months_fn m0 (by omega), ?_⟩
  have mb := Cal.mon_bd m m0 (by omega)
  have key := Cal.of_march Y r m m0 m1 m2 m3 p3 p4 (by omega) (by omega)
  rw [← en] at key
  rw [wi (x := m + 3) (by omega) (by omega), wi (x := Y + 1) (by omega) (by omega), wi (x := m + 3 - 12) (by omega) (by omega), wi (x := r - Cal.mon m) (by omega) (by omega), wi (x := r - Cal.mon m + 1) (by omega) (by omega)]
  rw [key]
  by_cases hm : 12 < m + 3
  · have e2 : decide (m + 3 > 12) = true := by simpa using hm
    rw [if_pos hm]
    simp only [e2, br]
    have : m + 3 - 12 = m - 9 := by omega
    rw [this]
  · have e2 : decide (m + 3 > 12) = false := by simpa using hm
    rw [if_neg hm]
    simp only [e2, br]

theorem days_At_no {n : Int} (h : dayB n = false) : days_At_R n ((0, 0, 0), 2) := by
  refine ⟨_, days_day_fn n, ?_⟩
  rw [h]
  rfl
end Go.Proofs.YtjbpihalfaclkaaGreatDoor
