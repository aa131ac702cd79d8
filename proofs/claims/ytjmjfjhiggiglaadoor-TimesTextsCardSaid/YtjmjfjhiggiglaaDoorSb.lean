/- The reference's dates (curfewref04). -/
import Derived.Test.YtjmjfjhiggiglaaDoorMy
import Derived.Test.YtjmjfjhiggiglaaDoorUt
namespace Go.Proofs.YtjmjfjhiggiglaaDoor
open Go Go.B
set_option linter.unusedSimpArgs false
set_option linter.unusedVariables false
set_option linter.unusedSectionVars false

theorem bYes {b : Bool} {X Y : Prop} (h : b = true) (x : X) : br b X Y := by subst h; exact x

theorem bNo {b : Bool} {X Y : Prop} (h : b = false) (y : Y) : br b X Y := by subst h; exact y

theorem r4Leap_fn {y : Int} (h : 0 ≤ y) : curfewref04_Leap_R y (Cal.leapB y) := by
  unfold curfewref04_Leap_R
  rw [Int.tmod_eq_emod_of_nonneg h, Int.tmod_eq_emod_of_nonneg h, Int.tmod_eq_emod_of_nonneg h]
  unfold Cal.leapB Cal.lp
  by_cases h1 : y % 4 = 0
  · refine bYes (by simpa using h1) ?_
    by_cases h2 : y % 100 = 0
    · refine bNo (by simp [h2]) ?_
      by_cases h3 : y % 400 = 0 <;> simp [h1, h2, h3]
    · refine bYes (by simp [h2]) ?_
      simp [h1, h2]
  · refine bNo (by simpa using h1) ?_
    have h3 : ¬ y % 400 = 0 := by omega
    simp [h1, h3]

theorem r4year_fn {y : Int} (h : 0 ≤ y) : curfewref04_year_R y (365 + Cal.lp y) := by
  refine ⟨_, r4Leap_fn h, ?_⟩
  cases hl : Cal.leapB y
  · rw [Cal.leapB_false hl]; exact bNo rfl rfl
  · rw [Cal.leapB_true hl]; exact bYes rfl rfl

theorem r4tab {m : Int} (h1 : 1 ≤ m) (h2 : m ≤ 12) (y : Int) (h : m = 2 → Cal.lp y = 0) : List.getD ([31, 28, 31, 30, 31, 30, 31, 31, 30, 31, 30, 31] : List Int) ((Int.toNat (m - 1)) * 1) 0 = Cal.long y m := by
  unfold Cal.long
  rcases Cal.m12 h1 h2 with rfl | rfl | rfl | rfl | rfl | rfl | rfl | rfl | rfl | rfl | rfl | rfl <;> simp at h ⊢
  rw [h]; rfl

theorem r4Long_fn {y m : Int} (hy : 0 ≤ y) : curfewref04_Long_R y m (Cal.long y m) := by
  unfold curfewref04_Long_R
  by_cases h1 : m < 1
  · rw [long_out (by omega)]; exact bYes (decide_eq_true h1) rfl
  refine bNo (decide_eq_false h1) ?_
  by_cases h2 : m > 12
  · rw [long_out (by omega)]; exact bYes (decide_eq_true h2) rfl
  refine bNo (decide_eq_false h2) ?_
  rw [wi (by omega) (by omega)]
  have d : (((decide (0 ≤ (m - 1))) && (decide ((m - 1) < 12))) && (Nat.blt ((Int.toNat (m - 1)) * 1) 12)) = true := by
    rw [decide_eq_true (show 0 ≤ m - 1 by omega), decide_eq_true (show m - 1 < 12 by omega)]
    simp only [Bool.true_and, Nat.blt_eq]; omega
  by_cases h3 : m = 2
  · refine bYes (by simp [h3]) ⟨_, r4Leap_fn hy, ?_⟩
    cases hl : Cal.leapB y
    · exact bNo rfl ⟨d, r4tab (by omega) (by omega) y fun _ => Cal.leapB_false hl⟩
    · refine bYes rfl ?_
      subst h3
      simp [Cal.long, Cal.leapB_true hl]
  · exact bNo (by simp [h3]) ⟨d, r4tab (by omega) (by omega) y fun e => absurd e h3⟩

theorem r4Right_fn (y m d : Int) : curfewref04_Right_R y m d (Cal.okd y m d) := by
  unfold curfewref04_Right_R Cal.okd
  by_cases h1 : y ≥ 1970
  · refine bYes (decide_eq_true h1) ?_
    by_cases h2 : y ≤ 9999
    · refine bYes (decide_eq_true h2) ?_
      by_cases h3 : d ≥ 1
      · refine bYes (decide_eq_true h3) ⟨_, r4Long_fn (by omega), ?_⟩
        exact decide_eq_decide.mpr ⟨fun h => ⟨h1, h2, h3, h⟩, fun h => h.2.2.2⟩
      · exact bNo (decide_eq_false h3) (decide_eq_false (fun h => h3 h.2.2.1)).symm
    · exact bNo (decide_eq_false h2) (decide_eq_false (fun h => h2 h.2.1)).symm
  · exact bNo (decide_eq_false h1) (decide_eq_false (fun h => h1 h.1)).symm
section
variable {y m d : Int} (h : Cal.okd y m d = true)
include h

theorem r4At_l0 : ∀ (j : Nat) (y' : Int), 1970 ≤ y' → y' + j = y → ∃ k, curfewref04_At_l0 k (y', Cal.num y m d + 719528 - Cal.dby y') (y, Cal.num y m d + 719528 - Cal.dby y)
  | 0, y', h0, e => by
    have e : y' = y := by omega
    subst e
    have := Cal.num_year h
    exact ⟨1, _, r4year_fn (by omega), bNo (decide_eq_false (by omega)) rfl⟩
  | j + 1, y', h0, e => by
    obtain ⟨k, hk⟩ := r4At_l0 j (y' + 1) (by omega) (by omega)
    have n1 := Cal.num_year h
    have n2 := Cal.num_bd h
    have n3 := Cal.dby_lt y' y (by omega)
    have n4 := Cal.dby_mono 1970 y' h0
    have n5 : Cal.dby 1970 = 719528 := by decide
    have n6 := Cal.lp_01 y'
    have n7 := (Cal.okd_iff.mp h).2.1
    refine ⟨k + 1, _, r4year_fn (by omega), bYes (decide_eq_true (by omega)) ⟨_, r4year_fn (by omega), ?_⟩⟩
    rw [wi (by omega) (by omega), wi (by omega) (by omega)]
    rw [show Cal.num y m d + 719528 - Cal.dby y' - (365 + Cal.lp y') = Cal.num y m d + 719528 - Cal.dby (y' + 1) by rw [Cal.dby_succ]; omega]
    exact hk

theorem r4At_l1 : ∀ (j : Nat) (m' : Int), 1 ≤ m' → m' + j = m → ∃ k, curfewref04_At_l1 k (y, m', Cal.cum y m + d - 1 - Cal.cum y m') (m, d - 1)
  | 0, m', h0, e => by
    have e : m' = m := by omega
    subst e
    obtain ⟨a1, a2, a3, a4⟩ := Cal.okd_iff.mp h
    refine ⟨1, _, r4Long_fn (by omega), bNo (decide_eq_false (by omega)) ?_⟩
    rw [show Cal.cum y m' + d - 1 - Cal.cum y m' = d - 1 by omega]
  | j + 1, m', h0, e => by
    obtain ⟨k, hk⟩ := r4At_l1 j (m' + 1) (by omega) (by omega)
    obtain ⟨a1, a2, a3, a4⟩ := Cal.okd_iff.mp h
    have hm := Cal.okd_month h
    have n1 := Cal.cum_lt y m' m (by omega) (by omega) (by omega)
    have n2 := Cal.cum_succ y m' (by omega) (by omega)
    have n3 := Cal.cum_bd y m
    have n4 := Cal.cum_bd y m'
    have n5 := Cal.long_bd y m
    have n6 := Cal.long_bd y m'
    refine ⟨k + 1, _, r4Long_fn (by omega), bYes (decide_eq_true (by omega)) ⟨_, r4Long_fn (by omega), ?_⟩⟩
    rw [wi (by omega) (by omega), wi (by omega) (by omega)]
    rw [show Cal.cum y m + d - 1 - Cal.cum y m' - Cal.long y m' = Cal.cum y m + d - 1 - Cal.cum y (m' + 1) by omega]
    exact hk

theorem r4At_num : curfewref04_At_R (Cal.num y m d) (y, m, d) := by
  obtain ⟨a1, a2, a3, a4⟩ := Cal.okd_iff.mp h
  have hm := Cal.okd_month h
  have n5 : Cal.dby 1970 = 719528 := by decide
  have n6 := Cal.long_bd y m
  obtain ⟨k, hk⟩ := r4At_l0 h (y - 1970).toNat 1970 (by omega) (by omega)
  rw [n5, show Cal.num y m d + 719528 - 719528 = Cal.num y m d by omega] at hk
  obtain ⟨k', hk'⟩ := r4At_l1 h (m - 1).toNat 1 (by omega) (by omega)
  rw [Cal.cum_1, show Cal.cum y m + d - 1 - 0 = Cal.num y m d + 719528 - Cal.dby y by unfold Cal.num; omega] at hk'
  refine ⟨_, ⟨k, hk⟩, _, ⟨k', hk'⟩, ?_⟩
  show (y, m, IntKind.wrap .i64 (d - 1 + 1)) = (y, m, d)
  rw [wi (by omega) (by omega), show d - 1 + 1 = d by omega]

theorem r4Of_l0 (a : Int) (ha : a = d - 1) : ∀ (j : Nat) (y' : Int), 1970 ≤ y' → y' + j = y → ∃ k, curfewref04_Of_l0 k (y, m, d, a + (Cal.dby y' - 719528), y') (a + (Cal.dby y - 719528))
  | 0, y', h0, e => by
    have e : y' = y := by omega
    subst e
    exact ⟨1, bNo (decide_eq_false (by omega)) rfl⟩
  | j + 1, y', h0, e => by
    obtain ⟨k, hk⟩ := r4Of_l0 a ha j (y' + 1) (by omega) (by omega)
    obtain ⟨a1, a2, a3, a4⟩ := Cal.okd_iff.mp h
    have n0 := Cal.long_bd y m
    have n2 := Cal.dby_mono y' 9999 (by omega)
    have n4 := Cal.dby_mono 1970 y' h0
    have n5 : Cal.dby 1970 = 719528 := by decide
    have n5' : Cal.dby 9999 = 3652060 := by decide
    have n6 := Cal.lp_01 y'
    refine ⟨k + 1, bYes (decide_eq_true (by omega)) ⟨_, r4year_fn (by omega), ?_⟩⟩
    rw [wi (x := y' + 1) (by omega) (by omega), wi (by omega) (by omega)]
    rw [show a + (Cal.dby y' - 719528) + (365 + Cal.lp y') = a + (Cal.dby (y' + 1) - 719528) by rw [Cal.dby_succ]; omega]
    exact hk

theorem r4Of_l1 (a : Int) (ha : a = d - 1 + (Cal.dby y - 719528)) : ∀ (j : Nat) (m' : Int), 1 ≤ m' → m' + j = m → ∃ k, curfewref04_Of_l1 k (y, m, d, a + Cal.cum y m', m') (a + Cal.cum y m)
  | 0, m', h0, e => by
    have e : m' = m := by omega
    subst e
    exact ⟨1, bNo (decide_eq_false (by omega)) rfl⟩
  | j + 1, m', h0, e => by
    obtain ⟨k, hk⟩ := r4Of_l1 a ha j (m' + 1) (by omega) (by omega)
    obtain ⟨a1, a2, a3, a4⟩ := Cal.okd_iff.mp h
    have hm := Cal.okd_month h
    have n0 := Cal.long_bd y m
    have n1 := Cal.cum_succ y m' (by omega) (by omega)
    have n2 := Cal.dby_mono y 9999 (by omega)
    have n4 := Cal.dby_mono 1970 y (by omega)
    have n5 : Cal.dby 1970 = 719528 := by decide
    have n5' : Cal.dby 9999 = 3652060 := by decide
    have n6 := Cal.long_bd y m'
    have n7 := Cal.cum_bd y m'
    refine ⟨k + 1, bYes (decide_eq_true (by omega)) ⟨_, r4Long_fn (by omega), ?_⟩⟩
    rw [wi (x := m' + 1) (by omega) (by omega), wi (by omega) (by omega)]
    rw [show a + Cal.cum y m' + Cal.long y m' = a + Cal.cum y (m' + 1) by omega]
    exact hk

theorem r4Of_fn : curfewref04_Of_R y m d (Cal.num y m d) := by
  obtain ⟨a1, a2, a3, a4⟩ := Cal.okd_iff.mp h
  have hm := Cal.okd_month h
  have n5 : Cal.dby 1970 = 719528 := by decide
  have n6 := Cal.long_bd y m
  obtain ⟨k, hk⟩ := r4Of_l0 h (d - 1) rfl (y - 1970).toNat 1970 (by omega) (by omega)
  rw [n5, show d - 1 + (719528 - 719528) = d - 1 by omega] at hk
  obtain ⟨k', hk'⟩ := r4Of_l1 h _ rfl (m - 1).toNat 1 (by omega) (by omega)
  rw [Cal.cum_1, Int.add_zero] at hk'
  refine ⟨_, ⟨k, by rw [wi (x := d - 1) (by omega) (by omega)]; exact hk⟩, _, ⟨k', hk'⟩, ?_⟩
  show d - 1 + (Cal.dby y - 719528) + Cal.cum y m = Cal.num y m d
  unfold Cal.num; omega
end

theorem r4At_fn {n : Int} (h : dayB n = true) : curfewref04_At_R n (Cal.dat n) := by
  obtain ⟨h0, h1⟩ := dayB_true h
  obtain ⟨a, b⟩ := Cal.dat_ok n h0 h1
  have := r4At_num a
  rw [b] at this
  exact this
end Go.Proofs.YtjmjfjhiggiglaaDoor
