/- The calendar in plain Lean: leap years, lengths of months, numbers of dates; no program in sight. -/
namespace Go.Proofs.YtjbpihalfaclkaaGreatDoor.Cal

def lp (y : Int) : Int := if y % 4 = 0 ∧ (y % 100 ≠ 0 ∨ y % 400 = 0) then 1 else 0

theorem lp_01 (y : Int) : 0 ≤ lp y ∧ lp y ≤ 1 := by unfold lp; split <;> omega

def leapB (y : Int) : Bool := lp y == 1

theorem leapB_true {y : Int} (h : leapB y = true) : lp y = 1 := by simpa [leapB] using h

theorem leapB_false {y : Int} (h : leapB y = false) : lp y = 0 := by
  have := lp_01 y
  have h' : ¬ lp y = 1 := by simpa [leapB] using h
  omega

/-- days ahead of the first of January of the year y, from the year 0 on -/
def dby (y : Int) : Int := 365 * y + (y + 3) / 4 - (y + 99) / 100 + (y + 399) / 400

theorem dby_succ (y : Int) : dby (y + 1) = dby y + 365 + lp y := by unfold dby lp; split <;> omega

theorem dby_mono (a b : Int) (h : a ≤ b) : dby a ≤ dby b := by unfold dby; omega

theorem dby_lt (a b : Int) (h : a < b) : dby a + 365 + lp a ≤ dby b := by rw [← dby_succ]; exact dby_mono _ _ (by omega)

/-- how long a month is; 0: there is none -/
def long (y m : Int) : Int :=
  if m < 1 ∨ 12 < m then 0 else if m = 2 then 28 + lp y else if m = 4 ∨ m = 6 ∨ m = 9 ∨ m = 11 then 30 else 31

theorem long_bd (y m : Int) : 0 ≤ long y m ∧ long y m ≤ 31 := by have := lp_01 y; unfold long; repeat (first | omega | split)

theorem long_pos (y m : Int) (h1 : 1 ≤ m) (h2 : m ≤ 12) : 28 ≤ long y m := by have := lp_01 y; unfold long; repeat (first | omega | split)

/-- days of the year y ahead of its month m -/
def cum (y m : Int) : Int :=
  if m ≤ 1 then 0 else if m = 2 then 31 else if m = 3 then 59 + lp y else if m = 4 then 90 + lp y else if m = 5 then 120 + lp y
  else if m = 6 then 151 + lp y else if m = 7 then 181 + lp y else if m = 8 then 212 + lp y else if m = 9 then 243 + lp y
  else if m = 10 then 273 + lp y else if m = 11 then 304 + lp y else if m = 12 then 334 + lp y else 365 + lp y

theorem m12 {m : Int} (h1 : 1 ≤ m) (h2 : m ≤ 12) : m = 1 ∨ m = 2 ∨ m = 3 ∨ m = 4 ∨ m = 5 ∨ m = 6 ∨ m = 7 ∨ m = 8 ∨ m = 9 ∨ m = 10 ∨ m = 11 ∨ m = 12 := by omega

theorem cum_succ (y m : Int) (h1 : 1 ≤ m) (h2 : m ≤ 12) : cum y (m + 1) = cum y m + long y m := by
  rcases m12 h1 h2 with h | h | h | h | h | h | h | h | h | h | h | h <;> subst h <;> simp [cum, long] <;> omega

theorem cum_bd (y m : Int) : 0 ≤ cum y m ∧ cum y m ≤ 366 := by have := lp_01 y; unfold cum; repeat (first | omega | split)

theorem cum_1 (y : Int) : cum y 1 = 0 := by simp [cum]

theorem cum_13 (y : Int) : cum y 13 = 365 + lp y := by simp [cum]

theorem cum_lt (y m m' : Int) (h1 : 1 ≤ m) (h : m < m') (h2 : m' ≤ 12) : cum y m + long y m ≤ cum y m' := by
  have := lp_01 y
  rcases m12 h1 (by omega) with k | k | k | k | k | k | k | k | k | k | k | k <;>
    rcases m12 (m := m') (by omega) h2 with l | l | l | l | l | l | l | l | l | l | l | l <;> subst k <;> subst l <;> first | omega | (simp [cum, long]; try omega)

/-- may a date be? -/
def okd (y m d : Int) : Bool := decide (1970 ≤ y ∧ y ≤ 9999 ∧ 1 ≤ d ∧ d ≤ long y m)

theorem okd_iff {y m d : Int} : okd y m d = true ↔ 1970 ≤ y ∧ y ≤ 9999 ∧ 1 ≤ d ∧ d ≤ long y m := by simp [okd]

theorem okd_month {y m d : Int} (h : okd y m d = true) : 1 ≤ m ∧ m ≤ 12 := by
  rw [okd_iff] at h; obtain ⟨_, _, h1, h2⟩ := h
  unfold long at h2
  split at h2 <;> omega

/-- the number of a date -/
def num (y m d : Int) : Int := dby y + cum y m + d - 1 - 719528

theorem num_year {y m d : Int} (h : okd y m d = true) : dby y ≤ num y m d + 719528 ∧ num y m d + 719528 < dby y + 365 + lp y := by
  have hm := okd_month h
  rw [okd_iff] at h
  have hc := cum_bd y m
  refine ⟨by unfold num; omega, ?_⟩
  have : cum y m + long y m ≤ 365 + lp y := by
    by_cases e : m = 12
    · subst e; simp [cum, long]; omega
    · have := cum_lt y m 12 hm.1 (by omega) (by omega)
      have h31 : long y 12 = 31 := by simp [long]
      have h34 : cum y 12 = 334 + lp y := by simp [cum]
      omega
  unfold num; omega

theorem num_bd {y m d : Int} (h : okd y m d = true) : 0 ≤ num y m d ∧ num y m d ≤ 2932896 := by
  have h1 := num_year h
  rw [okd_iff] at h
  have a := dby_mono 1970 y (by omega)
  have b : dby y + 365 + lp y ≤ dby 10000 := by have := dby_lt y 10000 (by omega); omega
  have c : dby 1970 = 719528 := by decide
  have d : dby 10000 = 3652425 := by decide
  omega

theorem num_inj {y m d y' m' d' : Int} (h : okd y m d = true) (h' : okd y' m' d' = true) (e : num y m d = num y' m' d') : y = y' ∧ m = m' ∧ d = d' := by
  have a := num_year h
  have a' := num_year h'
  have ey : y = y' := by
    rcases Int.lt_trichotomy y y' with q | q | q
    · have := dby_lt y y' q; omega
    · exact q
    · have := dby_lt y' y q; omega
  subst ey
  have hm := okd_month h
  have hm' := okd_month h'
  rw [okd_iff] at h h'
  unfold num at e
  have em : m = m' := by
    rcases Int.lt_trichotomy m m' with q | q | q
    · have := cum_lt y m m' hm.1 q hm'.2; omega
    · exact q
    · have := cum_lt y m' m hm'.1 q hm.2; omega
  subst em
  exact ⟨rfl, rfl, by omega⟩

/-- the March form of a date's number -/
def mon (m : Int) : Int := (153 * m + 2) / 5

def mby (y : Int) : Int := 365 * y + y / 4 - y / 100 + y / 400

theorem num_march (y m d : Int) (h1 : 3 ≤ m) (h2 : m ≤ 12) : num y m d = mby y + mon (m - 3) + d - 1 - 719468 := by
  have hd : dby y + lp y = mby y + 1 := by unfold dby mby lp; split <;> omega
  have hc : cum y m = 59 + lp y + mon (m - 3) := by
    rcases m12 (by omega) h2 with k | k | k | k | k | k | k | k | k | k | k | k <;> subst k <;> first | omega | (simp [cum, mon]; try omega)
  unfold num; omega

theorem num_jan (y m d : Int) (h1 : 1 ≤ m) (h2 : m ≤ 2) : num y m d = mby (y - 1) + mon (m + 9) + d - 1 - 719468 := by
  have hd : dby y = mby (y - 1) + 366 := by unfold dby mby; omega
  have hc : cum y m + 306 = mon (m + 9) := by
    have : m = 1 ∨ m = 2 := by omega
    rcases this with k | k <;> subst k <;> simp [cum, mon]
  unfold num; omega

/-- the date of a number -/
noncomputable def dat (n : Int) : Int × Int × Int := open Classical in if h : ∃ p : Int × Int × Int, okd p.1 p.2.1 p.2.2 = true ∧ num p.1 p.2.1 p.2.2 = n then h.choose else (0, 0, 0)

theorem dat_num {y m d : Int} (h : okd y m d = true) : dat (num y m d) = (y, m, d) := by
  have hex : ∃ p : Int × Int × Int, okd p.1 p.2.1 p.2.2 = true ∧ num p.1 p.2.1 p.2.2 = num y m d := ⟨(y, m, d), h, rfl⟩
  unfold dat
  rw [dif_pos hex]
  obtain ⟨h1, h2⟩ := hex.choose_spec
  obtain ⟨a, b, c⟩ := num_inj h1 h h2
  exact Prod.ext a (Prod.ext b c)

theorem dat_of {n y m d : Int} (h : okd y m d = true) (e : num y m d = n) : dat n = (y, m, d) := by rw [← e]; exact dat_num h

theorem mon_bd (m : Int) (h0 : 0 ≤ m) (h1 : m ≤ 12) : 0 ≤ mon m ∧ mon m ≤ 367 := by unfold mon; omega

/-- whatever day of the year that begins in March -/
theorem of_march (y r m : Int) (hm0 : 0 ≤ m) (hm1 : m ≤ 11) (h1 : mon m ≤ r) (h2 : r < mon (m + 1)) (hr : r ≤ 365) (hl : r = 365 → lp (y + 1) = 1)
    (hy : 0 ≤ mby y + r - 719468) (hy2 : mby y + r - 719468 ≤ 2932896) :
    dat (mby y + r - 719468) = (if 12 < m + 3 then (y + 1, m - 9, r - mon m + 1) else (y, m + 3, r - mon m + 1)) := by
  have hm0' := mon_bd m hm0 (by omega)
  have hlo : 1969 ≤ y := by
    rcases Int.lt_or_le y 1969 with q | q
    · exfalso; have : mby y ≤ mby 1968 := by unfold mby; omega
      have h3 : mby 1968 = 718797 := by decide
      omega
    · exact q
  have hhi : y ≤ 9999 := by
    rcases Int.lt_or_le 9999 y with q | q
    · exfalso; have : mby 10000 ≤ mby y := by unfold mby; omega
      have h3 : mby 10000 = 3652425 := by decide
      omega
    · exact q
  have hm : m = 0 ∨ m = 1 ∨ m = 2 ∨ m = 3 ∨ m = 4 ∨ m = 5 ∨ m = 6 ∨ m = 7 ∨ m = 8 ∨ m = 9 ∨ m = 10 ∨ m = 11 := by omega
  have l0 := lp_01 (y + 1)
  split
  · rename_i g
    apply dat_of
    · rw [okd_iff]
      refine ⟨by omega, ?_, by omega, ?_⟩
      · rcases Int.lt_or_le 9998 y with q | q
        · exfalso
          have : y = 9999 := by omega
          subst this
          have h3 : mby 9999 = 3652059 := by decide
          rcases hm with k | k | k | k | k | k | k | k | k | k | k | k <;> subst k <;> simp [mon] at h1 h2 g <;> omega
        · omega
      · rcases hm with k | k | k | k | k | k | k | k | k | k | k | k <;> subst k <;> simp [mon, long] at h1 h2 g ⊢ <;> omega
    · rw [num_jan _ _ _ (by omega) (by omega)]
      have e1 : y + 1 - 1 = y := by omega
      have e2 : m - 9 + 9 = m := by omega
      rw [e1, e2]; omega
  · rename_i g
    apply dat_of
    · rw [okd_iff]
      refine ⟨?_, by omega, by omega, ?_⟩
      · rcases Int.lt_or_le y 1970 with q | q
        · exfalso
          have : y = 1969 := by omega
          subst this
          have h3 : mby 1969 = 719162 := by decide
          rcases hm with k | k | k | k | k | k | k | k | k | k | k | k <;> subst k <;> simp [mon] at h1 h2 g <;> omega
        · omega
      · rcases hm with k | k | k | k | k | k | k | k | k | k | k | k <;> subst k <;> simp [mon, long] at h1 h2 g ⊢ <;> omega
    · rw [num_march _ _ _ (by omega) (by omega)]
      have e2 : m + 3 - 3 = m := by omega
      rw [e2]; omega

/-- whole parts of the calendar, the greatest first -/
theorem parts (N a b c d : Int) (h0 : 0 ≤ N) (hN : N < 14609700) (ha : a = min (N / 146097) 100) (hb : b = min ((N - a * 146097) / 36524) 3)
    (hc : c = min ((N - a * 146097 - b * 36524) / 1461) 24) (hd : d = min ((N - a * 146097 - b * 36524 - c * 1461) / 365) 3) :
    mby (a * 400 + b * 100 + c * 4 + d) = a * 146097 + b * 36524 + c * 1461 + d * 365 ∧
    0 ≤ N - a * 146097 - b * 36524 - c * 1461 - d * 365 ∧ N - a * 146097 - b * 36524 - c * 1461 - d * 365 ≤ 365 ∧
    (N - a * 146097 - b * 36524 - c * 1461 - d * 365 = 365 → lp (a * 400 + b * 100 + c * 4 + d + 1) = 1) := by
  have a1 : 0 ≤ a ∧ a ≤ 100 ∧ a * 146097 ≤ N ∧ N < a * 146097 + 146097 := by omega
  have b1 : 0 ≤ b ∧ b ≤ 3 ∧ b * 36524 ≤ N - a * 146097 ∧ (b < 3 → N - a * 146097 < b * 36524 + 36524) := by omega
  have c1 : 0 ≤ c ∧ c ≤ 24 ∧ c * 1461 ≤ N - a * 146097 - b * 36524 ∧ (c < 24 → N - a * 146097 - b * 36524 < c * 1461 + 1461) := by omega
  have d1 : 0 ≤ d ∧ d ≤ 3 ∧ d * 365 ≤ N - a * 146097 - b * 36524 - c * 1461 ∧ (d < 3 → N - a * 146097 - b * 36524 - c * 1461 < d * 365 + 365) := by omega
  clear ha hb hc hd
  refine ⟨?_, by omega, by omega, ?_⟩
  · have e4 : (a * 400 + b * 100 + c * 4 + d) / 4 = a * 100 + b * 25 + c := by omega
    have e100 : (a * 400 + b * 100 + c * 4 + d) / 100 = a * 4 + b := by omega
    have e400 : (a * 400 + b * 100 + c * 4 + d) / 400 = a := by omega
    unfold mby; rw [e4, e100, e400]; omega
  · intro h
    have hd3 : d = 3 := by omega
    subst hd3
    unfold lp
    rw [if_pos]
    refine ⟨by omega, ?_⟩
    by_cases hc24 : c = 24
    · right
      subst hc24
      have : b = 3 := by omega
      omega
    · left; omega

/-- every number from 0 to 2932896 is a date's -/
theorem mon_find (r : Int) (h0 : 0 ≤ r) (h1 : r ≤ 365) : ∃ m, 0 ≤ m ∧ m ≤ 11 ∧ mon m ≤ r ∧ r < mon (m + 1) := by
  refine ⟨(5 * r + 2) / 153, by omega, by omega, by unfold mon; omega, by unfold mon; omega⟩

theorem dat_ok (n : Int) (h0 : 0 ≤ n) (h1 : n ≤ 2932896) : okd (dat n).1 (dat n).2.1 (dat n).2.2 = true ∧ num (dat n).1 (dat n).2.1 (dat n).2.2 = n := by
  have hex : ∃ p : Int × Int × Int, okd p.1 p.2.1 p.2.2 = true ∧ num p.1 p.2.1 p.2.2 = n := by
    -- by year: the greatest year whose days are no more
    have hN : ∃ y : Int, 1970 ≤ y ∧ y ≤ 9999 ∧ dby y ≤ n + 719528 ∧ n + 719528 < dby (y + 1) := by
      have key : ∀ k : Nat, k ≤ 8030 → n + 719528 < dby (1970 + k) → ∃ y : Int, 1970 ≤ y ∧ y ≤ 9999 ∧ dby y ≤ n + 719528 ∧ n + 719528 < dby (y + 1) := by
        intro k
        induction k with
        | zero => intro _ h; have : dby (1970 + ((0 : Nat) : Int)) = 719528 := by decide
                  omega
        | succ k ih =>
          intro hk h
          rcases Int.lt_or_le (n + 719528) (dby (1970 + k)) with q | q
          · exact ih (by omega) q
          · refine ⟨1970 + k, by omega, by omega, q, ?_⟩
            have e : (1970 + ((k + 1 : Nat) : Int)) = 1970 + (k : Int) + 1 := by omega
            rw [e] at h; exact h
      exact key 8030 (Nat.le_refl _) (by have : dby (1970 + ((8030 : Nat) : Int)) = 3652425 := by decide
                                         omega)
    obtain ⟨y, y1, y2, y3, y4⟩ := hN
    rw [dby_succ] at y4
    have hM : ∃ m : Int, 1 ≤ m ∧ m ≤ 12 ∧ cum y m ≤ n + 719528 - dby y ∧ n + 719528 - dby y < cum y m + long y m := by
      have key : ∀ k : Nat, k ≤ 12 → n + 719528 - dby y < cum y (1 + k) → ∃ m : Int, 1 ≤ m ∧ m ≤ 12 ∧ cum y m ≤ n + 719528 - dby y ∧ n + 719528 - dby y < cum y m + long y m := by
        intro k
        induction k with
        | zero => intro _ h; rw [show (1 + ((0 : Nat) : Int)) = 1 from rfl, cum_1] at h; omega
        | succ k ih =>
          intro hk h
          rcases Int.lt_or_le (n + 719528 - dby y) (cum y (1 + k)) with q | q
          · exact ih (by omega) q
          · refine ⟨1 + k, by omega, by omega, q, ?_⟩
            have e : (1 + ((k + 1 : Nat) : Int)) = 1 + (k : Int) + 1 := by omega
            rw [e, cum_succ _ _ (by omega) (by omega)] at h; exact h
      exact key 12 (Nat.le_refl _) (by rw [show (1 + ((12 : Nat) : Int)) = 13 from rfl, cum_13]; omega)
    obtain ⟨m, m1, m2, m3, m4⟩ := hM
    refine ⟨(y, m, n + 719528 - dby y - cum y m + 1), okd_iff.mpr ⟨y1, y2, ?_, ?_⟩, ?_⟩
    · show 1 ≤ n + 719528 - dby y - cum y m + 1; omega
    · show n + 719528 - dby y - cum y m + 1 ≤ long y m; omega
    · show dby y + cum y m + (n + 719528 - dby y - cum y m + 1) - 1 - 719528 = n; omega
  obtain ⟨⟨y, m, d⟩, h2, h3⟩ := hex
  rw [dat_of h2 h3]; exact ⟨h2, h3⟩

end Go.Proofs.YtjbpihalfaclkaaGreatDoor.Cal
