/- Which dates, and which times, fit a cron. -/
import Derived.Test.YtjbpihalfaclkaaGreatDoorPc
import Derived.Test.YtjbpihalfaclkaaGreatDoorRbc
import Derived.Test.YtjbpihalfaclkaaGreatDoorRbw
namespace Go.Proofs.YtjbpihalfaclkaaGreatDoor
open Go Go.B
set_option linter.unusedSimpArgs false
set_option linter.unusedVariables false
set_option linter.unusedSectionVars false
set_option maxRecDepth 20000

def dayV (c : Cron) (y m d : Int) : Bool := c.ok && (Cal.okd y m d && fitB c m d ((Cal.num y m d + 4) % 7))

theorem days_Of_no {y m d : Int} (h : Cal.okd y m d = false) : days_Of_R y m d (0, 140) := by
  refine ⟨_, days_Check_fn y m d, ?_⟩
  rw [h]
  exact br_yes rfl rfl

theorem cron_Day_all {c : Cron} (hc : c.in) (y m d : Int) : cron_Day_R c.mi c.ho c.da c.mo c.we y m d (dayV c y m d) := by
  have hk := cron_Check_fn hc
  unfold dayV
  cases hd : Cal.okd y m d
  · have hw := days_Weekday_fn (n := 0) (by decide)
    cases hok : c.ok
    · rw [hok] at hk
      exact ⟨_, days_Of_no hd, _, hw, _, hk, br_yes rfl rfl⟩
    · rw [hok] at hk
      exact ⟨_, days_Of_no hd, _, hw, _, hk, br_no rfl (br_yes rfl rfl)⟩
  · have nb := Cal.num_bd hd
    cases hok : c.ok
    · rw [hok] at hk
      exact ⟨_, days_Of_fn hd, _, days_Weekday_fn (by simp [dayB]; omega), _, hk, br_yes rfl rfl⟩
    · simp only [Bool.true_and]
      exact cron_Day_fn hc hok hd

theorem isT_day {c : Cron} {t : Int} (h : mayT t = true) : (c.ok && fitD c (t / 86400)) = dayV c (Cal.dat (t / 86400)).1 (Cal.dat (t / 86400)).2.1 (Cal.dat (t / 86400)).2.2 := by
  obtain ⟨h0, h1⟩ := mayT_true h
  have hd : dayB (t / 86400) = true := by simp [dayB]; omega
  obtain ⟨d0, d1⟩ := dayB_true hd
  obtain ⟨o1, o2⟩ := Cal.dat_ok _ d0 d1
  unfold dayV fitD
  rw [hd, o1, o2]; try rfl

noncomputable def atV (c : Cron) (t : Int) : Bool := mayT t && (decide (t % 60 = 0) && (dayV c (Cal.dat (t / 86400)).1 (Cal.dat (t / 86400)).2.1 (Cal.dat (t / 86400)).2.2 && (hasB c.ho (t % 86400 / 3600) && hasB c.mi (t % 86400 % 3600 / 60))))

theorem times_At_no {t : Int} (h : mayT t = false) : times_At_R t ((0, 0, 0, 0, 0, 0), 2) := by
  refine ⟨_, times_May_fn t, ?_⟩
  rw [h]
  exact br_yes rfl rfl

theorem cron_At_all {c : Cron} (hc : c.in) (t : Int) : cron_At_R c.mi c.ho c.da c.mo c.we t (atV c t) := by
  unfold atV
  cases hm : mayT t
  · exact ⟨_, times_At_no hm, br_no rfl rfl⟩
  · refine ⟨_, times_At_fn hm, br_yes rfl ?_⟩
    have hs : t % 60 = t % 86400 % 60 := by omega
    have hday := cron_Day_all hc (Cal.dat (t / 86400)).1 (Cal.dat (t / 86400)).2.1 (Cal.dat (t / 86400)).2.2
    by_cases h60 : t % 86400 % 60 = 0
    · have e2 : decide (t % 60 = 0) = true := decide_eq_true (by omega)
      rw [e2]
      refine br_yes (by simpa using h60) ⟨_, hday, ?_⟩
      cases dayV c (Cal.dat (t / 86400)).1 (Cal.dat (t / 86400)).2.1 (Cal.dat (t / 86400)).2.2
      · exact br_no rfl rfl
      · refine br_yes rfl ⟨_, mask_Has_fn hc.2.1 _, ?_⟩
        cases hasB c.ho (t % 86400 / 3600)
        · exact br_no rfl rfl
        · exact br_yes rfl ⟨_, mask_Has_fn hc.1 _, by simp⟩
    · have e2 : decide (t % 60 = 0) = false := decide_eq_false (by omega)
      rw [e2]
      exact br_no (by simpa using h60) rfl
/- the reference -/

theorem rRight04_fn (y m d : Int) : curfewref04_Right_R y m d (Cal.okd y m d) := by
  unfold Cal.okd
  by_cases h1 : 1970 ≤ y
  · refine br_yes (yes_of h1) ?_
    by_cases h2 : y ≤ 9999
    · refine br_yes (yes_of h2) ?_
      by_cases h3 : 1 ≤ d
      · refine br_yes (yes_of h3) ⟨_, rLong_fn (by omega), ?_⟩
        simp [h1, h2, h3]
      · exact br_no (no_of h3) (by simp [h3])
    · exact br_no (no_of h2) (by simp [h2])
  · exact br_no (no_of h1) (by simp [h1])

theorem rOf_years {Y M D a : Int} (hY : Y ≤ 9999) (ha : 0 ≤ a ∧ a ≤ 40) : ∀ (j : Nat) (y : Int), 1970 ≤ y → y + j = Y → ∃ k, curfewref04_Of_l0 k (Y, M, D, a + (Cal.dby y - Cal.dby 1970), y) (a + (Cal.dby Y - Cal.dby 1970))
  | 0, y, h1, h2 => ⟨1, br_no (no_of (by omega)) (by rw [show y = Y by omega])⟩
  | j + 1, y, h1, h2 => by
    obtain ⟨k, hk⟩ := rOf_years (M := M) (D := D) hY ha j (y + 1) (by omega) (by omega)
    refine ⟨k + 1, br_yes (yes_of (by omega)) ⟨_, ryear_fn (by omega), ?_⟩⟩
    have hs := Cal.dby_succ y
    have hl := Cal.lp_01 y
    have hb : Cal.dby y ≤ 3700000 := by unfold Cal.dby; omega
    have hb2 : 0 ≤ Cal.dby y := by unfold Cal.dby; omega
    have h70 : Cal.dby 1970 = 719528 := by decide
    have hge := Cal.dby_mono 1970 y h1
    rw [wi (x := y + 1) (by omega) (by omega), wi (by omega) (by omega)]
    rw [hs] at hk
    rw [show a + (Cal.dby y - Cal.dby 1970) + (365 + Cal.lp y) = a + (Cal.dby y + 365 + Cal.lp y - Cal.dby 1970) by omega]
    exact hk

theorem rOf_months {Y M D a : Int} (hY : 1970 ≤ Y) (hM : M ≤ 12) (ha : 0 ≤ a ∧ a ≤ 4000000) : ∀ (j : Nat) (m : Int), 1 ≤ m → m + j = M → ∃ k, curfewref04_Of_l1 k (Y, M, D, a + Cal.cum Y m, m) (a + Cal.cum Y M)
  | 0, m, h1, h2 => ⟨1, br_no (no_of (by omega)) (by rw [show m = M by omega])⟩
  | j + 1, m, h1, h2 => by
    obtain ⟨k, hk⟩ := rOf_months (D := D) hY hM ha j (m + 1) (by omega) (by omega)
    refine ⟨k + 1, br_yes (yes_of (by omega)) ⟨_, rLong_fn (by omega), ?_⟩⟩
    have hs := Cal.cum_succ Y m h1 (by omega)
    have hl := Cal.long_bd Y m
    have hb := Cal.cum_bd Y m
    rw [wi (x := m + 1) (by omega) (by omega), wi (by omega) (by omega)]
    rw [hs] at hk
    rw [show a + Cal.cum Y m + Cal.long Y m = a + (Cal.cum Y m + Cal.long Y m) by omega]
    exact hk

theorem rOf04_fn {y m d : Int} (h : Cal.okd y m d = true) : curfewref04_Of_R y m d (Cal.num y m d) := by
  obtain ⟨m1, m2⟩ := Cal.okd_month h
  obtain ⟨y1, y2, d1, d2⟩ := Cal.okd_iff.mp h
  have lb := Cal.long_bd y m
  have h70 : Cal.dby 1970 = 719528 := by decide
  obtain ⟨k1, hk1⟩ := rOf_years (M := m) (D := d) (a := d - 1) y2 (by omega) (y - 1970).toNat 1970 (by omega) (by omega)
  have hge := Cal.dby_mono 1970 y y1
  have hb : Cal.dby y ≤ 3700000 := by unfold Cal.dby; omega
  obtain ⟨k2, hk2⟩ := rOf_months (D := d) (a := d - 1 + (Cal.dby y - Cal.dby 1970)) y1 m2 (by omega) (m - 1).toNat 1 (by omega) (by omega)
  rw [Cal.cum_1, show d - 1 + (Cal.dby y - Cal.dby 1970) + 0 = d - 1 + (Cal.dby y - Cal.dby 1970) by omega] at hk2
  rw [show d - 1 + (Cal.dby 1970 - Cal.dby 1970) = d - 1 by omega] at hk1
  refine ⟨_, ⟨k1, ?_⟩, _, ⟨k2, hk2⟩, ?_⟩
  · rw [wi (x := d - 1) (by omega) (by omega)]; exact hk1
  · show d - 1 + (Cal.dby y - Cal.dby 1970) + Cal.cum y m = Cal.dby y + Cal.cum y m + d - 1 - 719528; rw [h70]; omega

theorem whole_da : ∀ d : Fin 32, 1 ≤ d.val → hasB 4294967294 (d.val : Int) = true := by decide +kernel

theorem whole_we : ∀ w : Fin 7, hasB 127 (w.val : Int) = true := by decide +kernel

theorem rDay07_fn {c : Cron} (hc : c.in) (y m d : Int) : curfewref07_Day_R c.mi c.ho c.da c.mo c.we y m d (dayV c y m d) := by
  have hr := rCron_fn hc
  unfold dayV
  refine ⟨_, hr, ?_⟩
  cases hok : c.ok
  · exact br_yes rfl rfl
  refine br_no rfl ⟨_, rRight04_fn y m d, ?_⟩
  cases hd : Cal.okd y m d
  · exact br_yes rfl rfl
  refine br_no rfl ⟨_, rHas_fn hc.2.2.2.1 m, ?_⟩
  simp only [Bool.true_and]
  have nb := Cal.num_bd hd
  obtain ⟨y1, y2, d1, d2⟩ := Cal.okd_iff.mp hd
  have lb := Cal.long_bd y m
  unfold fitB
  cases hasB c.mo m
  · exact br_yes rfl rfl
  have hok' := hok
  unfold Cron.ok at hok'
  simp only [Bool.and_eq_true] at hok'
  have e1 := whole_len hc.2.2.1 hok'.1.1.2 (by decide) (n := 31) (by decide +kernel)
  have e2 := whole_len hc.2.2.2.2 hok'.2 (by decide) (n := 7) (by decide +kernel)
  rw [show wholeL.getD 2 0 = 4294967294 from rfl] at e1
  rw [show wholeL.getD 4 0 = 127 from rfl] at e2
  have e1 : ((((bitsL c.da).length : Nat) : Int) == 31) = (c.da == 4294967294) := e1
  have e2 : ((((bitsL c.we).length : Nat) : Int) == 7) = (c.we == 127) := e2
  refine br_no rfl ⟨_, rHas_fn hc.2.2.1 d, _, rOf04_fn hd, _, rWeekday_fn nb.1, _, rHas_fn hc.2.2.2.2 _, _, rAll_fn hc.2.2.1, ?_⟩
  simp only [Bool.true_and]
  cases hda : c.da == 4294967294
  · refine br_no (e1.trans hda) ⟨_, rAll_fn hc.2.2.2.2, ?_⟩
    cases hwe : c.we == 127
    · refine br_no (e2.trans hwe) ?_
      cases hasB c.da d
      · exact br_no rfl (by simp)
      · exact br_yes rfl (by simp)
    · refine br_yes (e2.trans hwe) ?_
      have hw : c.we = 127 := by simpa using hwe
      have := whole_we ⟨((Cal.num y m d + 4) % 7).toNat, by omega⟩
      simp only at this
      rw [show ((((Cal.num y m d + 4) % 7).toNat : Nat) : Int) = (Cal.num y m d + 4) % 7 by omega] at this
      rw [hw, this]; simp
  · refine br_yes (e1.trans hda) ?_
    have hw : c.da = 4294967294 := by simpa using hda
    have := whole_da ⟨d.toNat, by omega⟩ (by simp only; omega)
    simp only at this
    rw [show ((d.toNat : Nat) : Int) = d by omega] at this
    rw [hw, this]; simp

theorem r5Time_fn (t : Int) : curfewref05_Time_R t (mayT t) := by
  unfold curfewref05_Time_R mayT
  by_cases h : (0 : Int) ≤ t <;> simp [br, h]

theorem r5At_fn {t : Int} (h : mayT t = true) : curfewref05_At_R t ((Cal.dat (t / 86400)).1, (Cal.dat (t / 86400)).2.1, (Cal.dat (t / 86400)).2.2, t % 86400 / 3600, t % 86400 % 3600 / 60, t % 86400 % 60) := by
  obtain ⟨h0, h1⟩ := mayT_true h
  have e1 : IntKind.wrap .i64 (Int.tdiv t 3600) = t / 3600 := by rw [Int.tdiv_eq_ediv_of_nonneg h0]; exact wi (by omega) (by omega)
  have e2 : IntKind.wrap .i64 (Int.tdiv (t / 3600) 24) = t / 86400 := by rw [Int.tdiv_eq_ediv_of_nonneg (by omega)]; rw [wi (by omega) (by omega)]; omega
  have e3 : IntKind.wrap .i64 (Int.tdiv t 60) = t / 60 := by rw [Int.tdiv_eq_ediv_of_nonneg h0]; exact wi (by omega) (by omega)
  have e4 : Int.tmod (t / 3600) 24 = t % 86400 / 3600 := by rw [Int.tmod_eq_emod_of_nonneg (by omega)]; omega
  have e5 : Int.tmod (t / 60) 60 = t % 86400 % 3600 / 60 := by rw [Int.tmod_eq_emod_of_nonneg (by omega)]; omega
  have e6 : Int.tmod t 60 = t % 86400 % 60 := by rw [Int.tmod_eq_emod_of_nonneg h0]; omega
  unfold curfewref05_At_R
  rw [e1, e2, e3, e4, e5, e6]
  exact ⟨_, rAt_fn (by omega) (by omega), rfl⟩

theorem rAt07_fn {c : Cron} (hc : c.in) (t : Int) : curfewref07_At_R c.mi c.ho c.da c.mo c.we t (atV c t) := by
  unfold atV
  refine ⟨_, r5Time_fn t, ?_⟩
  cases hm : mayT t
  · exact br_yes rfl rfl
  obtain ⟨h0, h1⟩ := mayT_true hm
  refine br_no rfl ?_
  have et : Int.tmod t 60 = t % 60 := Int.tmod_eq_emod_of_nonneg h0
  rw [et]
  by_cases h60 : t % 60 = 0
  · have e2 : decide (t % 60 = 0) = true := decide_eq_true h60
    rw [e2]
    refine br_no (by rw [h60]; rfl) ⟨_, r5At_fn hm, _, rDay07_fn hc _ _ _, ?_⟩
    cases dayV c (Cal.dat (t / 86400)).1 (Cal.dat (t / 86400)).2.1 (Cal.dat (t / 86400)).2.2
    · exact br_no rfl rfl
    · refine br_yes rfl ⟨_, rHas_fn hc.2.1 _, ?_⟩
      cases hasB c.ho (t % 86400 / 3600)
      · exact br_no rfl rfl
      · exact br_yes rfl ⟨_, rHas_fn hc.1 _, by simp⟩
  · have e2 : decide (t % 60 = 0) = false := decide_eq_false h60
    rw [e2]
    exact br_yes (by simpa using h60) rfl
end Go.Proofs.YtjbpihalfaclkaaGreatDoor
